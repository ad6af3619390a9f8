/- The document's Far. -/
import Derived.Test.YteaemnkllpfbgaaB1
import Derived.Test.YteaemnkllpfbgaaLk
import Derived.Test.YteaemnkllpfbgaaPf
namespace Go.Proofs.Yteaemnkllpfbgaa
open Go.RowKit Go.Maps
open Cal (upd upd_same upd_ne FJ Dist)
set_option linter.unusedSimpArgs false
set_option linter.unusedVariables false

/-- What Far keeps. -/
structure FR (w wr : World) (ob n : Nat) (out : Nat → Int) : Prop where
  o : Blk wr ob (rowA n (intC out)) 3
  ge : w.heap.size ≤ ob
  bel : Below w.heap.size w wr

theorem FR.set {w wr : World} {ob n : Nat} {out : Nat → Int} (h : FR w wr ob n out) (i : Nat) (x : Int) : FR w (wr.setCell ⟨ob, i, none⟩ (.int .i64 x)) ob n (upd out i x) where
  o := by
    refine Eq.trans (h.o.setRow i (.int .i64 x)).eq ?_
    congr 2
    refine rowA_congr fun j _ => ?_
    simp only [upd, intC]; split <;> rfl
  ge := h.ge
  bel := h.bel.setCell (p := ⟨ob, i, none⟩) h.ge _

theorem sc_lt (n : Nat) (S : Nat → Int → Bool) : ∀ x y, y ∈ sc n S x → y < n := fun x y h => (mem_sc.1 h).1

/-- What Far answers. -/
def FarP (w : World) (n src : Nat) (S : Nat → Int → Bool) (e : Ending) (w' : World) : Prop :=
  ∃ ob out, e = .returned (.slice (some ⟨ob, 0, none⟩) n n) ∧ FR w w' ob n out ∧ ∀ x, x < n → (¬ Cal.Reach (sc n S) src x ∧ out x = -1) ∨ ∃ d : Nat, out x = d ∧ Dist (sc n S) src x d

set_option maxRecDepth 100000 in
set_option maxHeartbeats 4000000 in
theorem far_any (n src mb : Nat) (rows : Nat → Nat) (S : Nat → Int → Bool) (w : World) (hM : IsM w mb n rows S) (hs : src < n) (hn : n ≤ 100) :
    Calls Try.prog 19 #[.slice (some ⟨mb, 0, none⟩) n n, .int .i64 src] w (FarP w n src S) := by
  have hs' : (src : Int) < n := by omega
  have hmk3 : ∀ W : World, (Instr.makeSlice 30 (.int .i64 (n : Int)) (.int .i64 (n : Int))).run Try.prog W = .ok (.slice (some ⟨W.heap.size, 0, none⟩) n n) (W.alloc (.cells (rowA n (intC fun _ => 0)) 3)) := by
    intro W
    have := run_make_row' 30 3 (.int .i64 0) 8 Try.underlying30 info3 rfl .i64 .i64 n (by omega) (by omega) W
    rw [madeCells_row] at this
    exact this
  have HM := Lib.hid hM
  clear hM
  go_enter Try.func19, Try.ntmps19
  go_wp2
  obtain ⟨w0, hw0⟩ : ∃ w0, w.alloc (.cells (rowA n (intC fun _ => 0)) 3) = w0 := ⟨_, rfl⟩
  obtain ⟨ob, hob⟩ : ∃ ob, w.heap.size = ob := ⟨_, rfl⟩
  have hR0 : Hid (FR w w0 ob n (fun j => if j < 0 then -1 else 0)) := by
    subst hw0; subst hob
    exact ⟨Blk.new w _ 3, Nat.le_refl _, (Below.refl _ w).alloc (Nat.le_refl _) _⟩
  rw [hw0, hob]
  clear hw0 hob
  go_loopw [6] (fun iv wr => ∃ i : Nat, i ≤ n ∧ iv = .int .i64 ((i : Nat) : Int) ∧ Hid (FR w wr ob n (fun j => if j < i then -1 else 0))) (fun iv _ => n - (intOf iv).toNat)
  case atStart => exact ⟨0, Nat.zero_le _, rfl, hR0⟩
  case round =>
    clear hR0
    obtain ⟨i, hin, rfl, hR⟩ := hrel
    by_cases hlt : i < n
    · have hlt' : (i : Int) < n := by omega
      have ho : wr.cell? ⟨ob, i, none⟩ = some (.int .i64 (if i < i then -1 else 0)) := hR.out.o.row hlt
      have hof := hR.out.o.free i
      go_wp2
      go_roundw
      case rel =>
        refine ⟨i + 1, by omega, by go_num, ?_⟩
        have h1 := hR.out.set i (-1)
        have e : upd (fun j => if j < i then (-1 : Int) else 0) i (-1) = fun j => if j < i + 1 then -1 else 0 := by
          funext j
          simp only [upd]
          by_cases e : j = i
          · subst e; simp
          · have : j < i + 1 ↔ j < i := by omega
            simp [e, this]
        rw [e] at h1
        exact h1
      case measure => simp [intOf]; omega
    · have hie : i = n := by omega
      have hge : ¬ (i : Int) < n := by omega
      have ho : wr.cell? ⟨ob, src, none⟩ = some (.int .i64 (if src < i then -1 else 0)) := hR.out.o.row hs
      have hof := hR.out.o.free src
      have hR1 : Hid (FR w (wr.setCell ⟨ob, src, none⟩ (.int .i64 0)) ob n (upd (fun _ => -1) src 0)) := by
        have h1 := hR.out.set src 0
        refine ⟨?_, h1.ge, h1.bel⟩
        refine Eq.trans h1.o.eq ?_
        congr 2
        refine rowA_congr fun j hj => ?_
        have : j < i := by omega
        simp [intC, upd, this]
      clear hR hie
      go_wp2
      obtain ⟨w1, hw1⟩ : ∃ w1, wr.setCell ⟨ob, src, none⟩ (.int .i64 0) = w1 := ⟨_, rfl⟩
      rw [hw1] at hR1 ⊢
      clear hw1 ho hof
      go_loopw [7] (fun sv wr => ∃ s : Nat, s ≤ n ∧ sv = .int .i64 ((s : Nat) : Int) ∧ ∃ out, Hid (FR w wr ob n out) ∧ Hid (FJ (sc n S) n src out s 0 0)) (fun sv _ => n - (intOf sv).toNat)
      case atStart => exact ⟨0, Nat.zero_le _, rfl, _, hR1, FJ.start hs⟩
      case round =>
        clear hR1
        obtain ⟨s, hsn, rfl, out, hR, hJ⟩ := hrel
        by_cases hslt : s < n
        · have hslt' : (s : Int) < n := by omega
          go_wp2
          go_loopw [8] (fun iv wr2 => ∃ i : Nat, i ≤ n ∧ iv = .int .i64 ((i : Nat) : Int) ∧ ∃ out2, Hid (FR w wr2 ob n out2) ∧ Hid (FJ (sc n S) n src out2 s i 0)) (fun iv _ => n - (intOf iv).toNat)
          case atStart => exact ⟨0, Nat.zero_le _, rfl, _, hR, hJ⟩
          case round =>
            clear hR hJ
            obtain ⟨i, hin, rfl, out2, hR2, hJ2⟩ := hrel
            by_cases hilt : i < n
            · have hilt' : (i : Int) < n := by omega
              go_wp2
              go_loopw [9] (fun kv wr3 => ∃ k : Nat, k ≤ n ∧ kv = .int .i64 ((k : Nat) : Int) ∧ ∃ out3, Hid (FR w wr3 ob n out3) ∧ Hid (FJ (sc n S) n src out3 s i k)) (fun kv _ => n - (intOf kv).toNat)
              case atStart => exact ⟨0, Nat.zero_le _, rfl, _, hR2, hJ2⟩
              case round =>
                clear hR2 hJ2
                obtain ⟨k, hkn, rfl, out3, hR3, hJ3⟩ := hrel
                by_cases hklt : k < n
                · have hklt' : (k : Int) < n := by omega
                  have hM3 := HM.out.next hR3.out.bel
                  have t1 : wr.cell? ⟨mb, i, none⟩ = some (.slice (some ⟨rows i, 0, none⟩) n n) := hM3.top.row hilt
                  have r1 : wr.cell? ⟨rows i, k, none⟩ = some (.bool (S i k)) := (hM3.row i hilt).row hklt
                  have o1 : wr.cell? ⟨ob, i, none⟩ = some (.int .i64 (out3 i)) := hR3.out.o.row hilt
                  have o2 : wr.cell? ⟨ob, k, none⟩ = some (.int .i64 (out3 k)) := hR3.out.o.row hklt
                  have o3 := hR3.out.o.free k
                  have HS := Lib.hid hR3.out.set
                  clear hM3
                  by_cases his : out3 i = s
                  · have HIS := Lib.hid his
                    rw [his] at o1
                    clear his
                    have hskip : (k ∈ sc n S i → out3 k ≠ -1) → Hid (FJ (sc n S) n src out3 s i (k + 1)) := fun h => hJ3.out.skip h
                    cases hs2 : S i k with
                    | false =>
                      rw [hs2] at r1
                      have HK := hskip (fun h => by have := (mem_sc.1 h).2; rw [hs2] at this; cases this)
                      clear hs2 hskip
                      go_wp2
                      go_roundw
                      case rel => exact ⟨k + 1, by omega, by go_num, out3, hR3, HK⟩
                      case measure => simp [intOf]; omega
                    | true =>
                      rw [hs2] at r1
                      by_cases hneg : out3 k < 0
                      · have hm1 : out3 k = -1 := by
                          rcases hJ3.out.a k hklt with h1 | ⟨d, h1, _⟩
                          · exact h1
                          · omega
                        have HK : Hid (FJ (sc n S) n src (upd out3 k ((s + 1 : Nat) : Int)) s i (k + 1)) := hJ3.out.set hilt hklt HIS.out (mem_sc.2 ⟨hklt, hs2⟩) hm1
                        have HR : Hid (FR w (wr.setCell ⟨ob, k, none⟩ (.int .i64 ((s : Int) + 1))) ob n (upd out3 k ((s + 1 : Nat) : Int))) := by
                          exact HS.out k ((s + 1 : Nat) : Int)
                        rw [hm1] at o2
                        clear hs2 hskip hneg hm1
                        go_wp2
                        go_roundw
                        case rel => exact ⟨k + 1, by omega, by go_num, _, HR, HK⟩
                        case measure => simp [intOf]; omega
                      · have HK := hskip (fun _ e => by omega)
                        clear hs2 hskip
                        go_wp2
                        go_roundw
                        case rel => exact ⟨k + 1, by omega, by go_num, out3, hR3, HK⟩
                        case measure => simp [intOf]; omega
                  · have hne : (out3 i == (s : Int)) = false := by simpa using his
                    have HK := Lib.hid (hJ3.out.nextI (sc_lt n S) (.inr his))
                    clear his
                    go_wp2
                    go_roundw
                    case rel => exact ⟨i + 1, by omega, by go_num, out3, hR3, HK⟩
                    case measure => simp [intOf]; omega
                · have hkge : ¬ (k : Int) < n := by omega
                  have HK := Lib.hid (hJ3.out.nextI (sc_lt n S) (.inl (by omega)))
                  go_wp2
                  go_roundw
                  case rel => exact ⟨i + 1, by omega, by go_num, out3, hR3, HK⟩
                  case measure => simp [intOf]; omega
            · have hige : ¬ (i : Int) < n := by omega
              have HK := Lib.hid (hJ2.out.nextS hs (sc_lt n S) (by omega))
              go_wp2
              go_roundw
              case rel => exact ⟨s + 1, by omega, by go_num, out2, hR2, HK⟩
              case measure => simp [intOf]; omega
        · have hsge : ¬ (s : Int) < n := by omega
          go_wp2
          go_ret
          exact ⟨ob, out, rfl, hR.out, hJ.out.done hs (sc_lt n S) (by omega)⟩
end Go.Proofs.Yteaemnkllpfbgaa
