/- The document's Most, walked. -/
import Derived.Test.YteaemnkllpfbgaaM1
namespace Go.Proofs.Yteaemnkllpfbgaa
open Go.RowKit Go.Maps
open Cal (upd upd_same upd_ne Wk MJ sumB)
set_option linter.unusedSimpArgs false
set_option linter.unusedVariables false

set_option maxRecDepth 100000 in
set_option maxHeartbeats 8000000 in
theorem refmost_any (n mb P : Nat) (rw0 : Nat → Nat) (S : Nat → Int → Bool) (A : Option Addr) (len cap : Nat) (M : List (Nat × Nat)) (w : World) (hM : IsM w mb n rw0 S) (hp : Pairs w (.slice A len cap) (M.map fun p => ((p.1 : Int), (p.2 : Int)))) (hMn : ∀ p, p ∈ M → p.1 < n ∧ p.2 < n)
    (hn : n ≤ 13) (hl : len ≤ 30) (hP : ((n : Int) + 1) * ((n : Int) + 2) = P) (hP2 : P ≤ 1000) :
    Calls Try.prog 21 #[.slice (some ⟨mb, 0, none⟩) n n, .slice A len cap] w (MostP w n S (fun a b => (a, b) ∈ M)) := by
  have hmk3 : ∀ W : World, (Instr.makeSlice 30 (.int .i64 (n : Int)) (.int .i64 (n : Int))).run Try.prog W = .ok (.slice (some ⟨W.heap.size, 0, none⟩) n n) (W.alloc (.cells (rowA n (natC fun _ => 0)) 3)) := by
    intro W
    have := run_make_row' 30 3 (.int .i64 0) 8 Try.underlying30 info3 rfl .i64 .i64 n (by omega) (by omega) W
    rw [madeCells_row] at this
    exact this
  have hPn : n * (n + 1) ≤ P := by
    have h1 : (n + 1) * (n + 2) = P := by
      have : (((n + 1) * (n + 2) : Nat) : Int) = (P : Int) := by rw [← hP]; simp
      exact_mod_cast this
    have h2 : n * (n + 1) ≤ (n + 1) * (n + 2) := Nat.mul_le_mul (by omega) (by omega)
    omega
  have hlen : len = M.length := hp.lenN
  have HM := Lib.hid hM
  have HP := Lib.hid hp
  have HMN := Lib.hid hMn
  have HPN := Lib.hid hPn
  have HLEN := Lib.hid hlen
  clear hM hp hMn hPn hlen
  go_enter Try.func21, Try.ntmps21
  go_wp2
  obtain ⟨w0, hw0⟩ : ∃ w0, w.alloc (.cells (rowA n (natC fun _ => 0)) 3) = w0 := ⟨_, rfl⟩
  obtain ⟨ob, hob⟩ : ∃ ob, w.heap.size = ob := ⟨_, rfl⟩
  have hB0 : Hid (BR w w0 ob n (fun _ => 0)) := by
    subst hw0; subst hob
    exact ⟨Blk.new w _ 3, Nat.le_refl _, (Below.refl _ w).alloc (Nat.le_refl _) _⟩
  rw [hw0, hob]
  clear hw0 hob
  go_loopw [7] (fun rv wr => ∃ r : Nat, rv = .int .i64 ((r : Nat) : Int) ∧ ∃ best : Nat → Nat, Hid (BR w wr ob n best) ∧ Hid (∀ x, x < n → ∃ c, Wk (sc n S) (fun a b => (a, b) ∈ M) x c (best x)) ∧ Hid (r ≤ sumB best n) ∧ Hid (∀ x, x < n → best x ≤ n + 1)) (fun rv _ => P + 1 - (intOf rv).toNat)
  case atStart => exact ⟨0, rfl, _, hB0, fun x _ => ⟨x, .nil x⟩, Nat.zero_le _, fun x _ => Nat.zero_le _⟩
  case round =>
    clear hB0
    obtain ⟨r, rfl, best, hB, hW, hS, hD⟩ := hrel
    have hrP : (r : Int) ≤ P := by
      have h1 := Cal.sumB_le hD.out
      have h2 := hS.out
      have h3 := HPN.out
      omega
    have hJ0 := Lib.hid (MJ.start (K := fun a b => (a, b) ∈ M) (M := M) hW.out hD.out)
    obtain ⟨s0, hs0⟩ : ∃ s0, sumB best n = s0 := ⟨_, rfl⟩
    rw [hs0] at hJ0 hS
    clear hs0 hW hD
    go_wp2
    go_loopw [8, 9] (fun mv iv wr2 => ∃ i : Nat, i ≤ n ∧ iv = .int .i64 ((i : Nat) : Int) ∧ ∃ (more : Bool), mv = .bool more ∧ ∃ best2 : Nat → Nat, Hid (BR w wr2 ob n best2) ∧ Hid (MJ (sc n S) (fun a b => (a, b) ∈ M) n M best2 more s0 i 0 0)) (fun _ iv _ => n - (intOf iv).toNat)
    case atStart => exact ⟨0, Nat.zero_le _, rfl, false, rfl, best, hB, hJ0⟩
    case round =>
      clear hB hJ0
      obtain ⟨i, hin, rfl, more, rfl, best2, hB, hJ⟩ := hrel
      by_cases hlt : i < n
      · have hlt' : (i : Int) < n := by omega
        go_wp2
        go_loopw [8, 10] (fun mv kv wr3 => ∃ k : Nat, k ≤ n ∧ kv = .int .i64 ((k : Nat) : Int) ∧ ∃ (more3 : Bool), mv = .bool more3 ∧ ∃ best3 : Nat → Nat, Hid (BR w wr3 ob n best3) ∧ Hid (MJ (sc n S) (fun a b => (a, b) ∈ M) n M best3 more3 s0 i k 0)) (fun _ kv _ => n - (intOf kv).toNat)
        case atStart => exact ⟨0, Nat.zero_le _, rfl, more, rfl, best2, hB, hJ⟩
        case round =>
          clear hB hJ
          obtain ⟨k, hkn, rfl, more3, rfl, best3, hB, hJ⟩ := hrel
          by_cases hklt : k < n
          · have hklt' : (k : Int) < n := by omega
            have hMr := HM.out.next hB.out.bel
            have t1 : wr.cell? ⟨mb, i, none⟩ = some (.slice (some ⟨rw0 i, 0, none⟩) n n) := hMr.top.row hlt
            have r1 : wr.cell? ⟨rw0 i, k, none⟩ = some (.bool (S i k)) := (hMr.row i hlt).row hklt
            have b1 : wr.cell? ⟨ob, i, none⟩ = some (.int .i64 ((best3 i : Nat) : Int)) := hB.out.o.row hlt
            have b2 : wr.cell? ⟨ob, k, none⟩ = some (.int .i64 ((best3 k : Nat) : Int)) := hB.out.o.row hklt
            have b3 := hB.out.o.free i
            have hBd := hB.out.fr ((Fr.refl (fun _ => False) wr).drew)
            have HSET := Lib.hid (hBd.set i)
            clear hMr
            cases hs : S i k with
            | false =>
              rw [hs] at r1
              have HK := Lib.hid (hJ.out.skipA (fun hm => by have := (mem_sc.1 hm).2; rw [hs] at this; cases this))
              have HBD := Lib.hid hBd
              clear hs hBd HSET
              go_wp2
              go_region
              go_wp2
              go_roundw
              case rel => exact ⟨k + 1, by omega, by go_num, more3, rfl, best3, HBD, HK⟩
              case measure => simp [intOf]; omega
            | true =>
              rw [hs] at r1
              by_cases hbb : best3 i < best3 k
              · have HK := Lib.hid (hJ.out.setA hlt hklt (mem_sc.2 ⟨hklt, hs⟩) hbb)
                have HBB := Lib.hid (HSET.out (best3 k))
                have hbb' : ((best3 i : Nat) : Int) < ((best3 k : Nat) : Int) := by omega
                clear hs hbb hBd HSET
                obtain ⟨x, hx⟩ : ∃ x, best3 i = x := ⟨_, rfl⟩
                obtain ⟨y, hy⟩ : ∃ y, best3 k = y := ⟨_, rfl⟩
                rw [hx] at b1 hbb'
                rw [hy] at b2 hbb' HBB HK
                clear hx hy
                go_wp2
                go_region
                go_wp2
                go_roundw
                case rel => exact ⟨k + 1, by omega, by go_num, true, rfl, _, HBB, HK⟩
                case measure => simp [intOf]; omega
              · have HK := Lib.hid (hJ.out.skipA (fun _ => by omega))
                have HBD := Lib.hid hBd
                have hbb' : ((best3 k : Nat) : Int) ≤ ((best3 i : Nat) : Int) := by omega
                clear hs hbb hBd HSET
                go_wp2
                go_region
                go_wp2
                go_roundw
                case rel => exact ⟨k + 1, by omega, by go_num, more3, rfl, best3, HBD, HK⟩
                case measure => simp [intOf]; omega
          · have hkge : ¬ (k : Int) < n := by omega
            have HK := Lib.hid (hJ.out.nextI (sc_lt n S) (by omega))
            go_wp2
            go_roundw
            case rel => exact ⟨i + 1, by omega, by go_num, more3, rfl, best3, hB, HK⟩
            case measure => simp [intOf]; omega
      · have hge : ¬ (i : Int) < n := by omega
        go_wp2
        go_loopw [8, 11] (fun mv jv wr3 => ∃ j : Nat, j ≤ len ∧ jv = .int .i64 ((j : Nat) : Int) ∧ ∃ (more3 : Bool), mv = .bool more3 ∧ ∃ best3 : Nat → Nat, Hid (BR w wr3 ob n best3) ∧ Hid (MJ (sc n S) (fun a b => (a, b) ∈ M) n M best3 more3 s0 i 0 j)) (fun _ jv _ => len - (intOf jv).toNat)
        case atStart => exact ⟨0, Nat.zero_le _, rfl, more, rfl, best2, hB, hJ⟩
        case round =>
          clear hB hJ
          obtain ⟨j, hjn, rfl, more3, rfl, best3, hB, hJ⟩ := hrel
          by_cases hjlt : j < len
          · have hjlt' : (j : Int) < len := by omega
            obtain ⟨⟨a, b⟩, hab⟩ : ∃ p, M[j]? = some p := ⟨_, List.getElem?_eq_getElem (by rw [← HLEN.out]; exact hjlt)⟩
            obtain ⟨han, hbn⟩ := HMN.out _ (List.mem_of_getElem? hab)
            obtain ⟨vb, off, rfl, p1, p2⟩ := HP.out.atN hB.out.bel hab
            have b1 : wr.cell? ⟨ob, a, none⟩ = some (.int .i64 ((best3 a : Nat) : Int)) := hB.out.o.row han
            have b2 : wr.cell? ⟨ob, b, none⟩ = some (.int .i64 ((best3 b : Nat) : Int)) := hB.out.o.row hbn
            have b3 := hB.out.o.free a
            have hBd := (hB.out.fr ((Fr.refl (fun _ => False) wr).drew)).fr ((Fr.refl (fun _ => False) wr.drew).drew)
            have HSET := Lib.hid (hBd.set a)
            have han' : (a : Int) < n := by simp at han; omega
            have hbn' : (b : Int) < n := by simp at hbn; omega
            have hbd := hJ.out.bd b hbn
            have hbd' : ((best3 b : Nat) : Int) < 1000 := by omega
            by_cases hbb : best3 a < best3 b + 1
            · have HK := Lib.hid (hJ.out.setM han hbn (List.mem_of_getElem? hab) hbb)
              have HBB := Lib.hid (HSET.out (best3 b + 1))
              have hbb' : ((best3 a : Nat) : Int) < ((best3 b : Nat) : Int) + 1 := by omega
              clear hbb hBd HSET hbd hab
              obtain ⟨x, hx⟩ : ∃ x, best3 a = x := ⟨_, rfl⟩
              obtain ⟨y, hy⟩ : ∃ y, best3 b = y := ⟨_, rfl⟩
              rw [hx] at b1 hbb'
              rw [hy] at b2 hbb' HBB HK hbd'
              clear hx hy
              go_wp2
              go_region
              go_wp2
              go_region
              go_wp2
              go_roundw
              case rel => exact ⟨j + 1, by omega, by go_num, true, rfl, _, HBB, HK⟩
              case measure => simp [intOf]; omega
            · have HK := Lib.hid (hJ.out.skipM hab (by omega))
              have HBD := Lib.hid hBd
              have hbb' : ((best3 b : Nat) : Int) + 1 ≤ ((best3 a : Nat) : Int) := by omega
              clear hbb hBd HSET hbd hab
              go_wp2
              go_region
              go_wp2
              go_region
              go_wp2
              go_roundw
              case rel => exact ⟨j + 1, by omega, by go_num, more3, rfl, best3, HBD, HK⟩
              case measure => simp [intOf]; omega
          · have hjge : ¬ (j : Int) < len := by omega
            have hjl : j = M.length := by have := HLEN.out; omega
            go_wp2
            go_loopw [14, 15] (fun xv iv wr4 => ∃ t : Nat, t ≤ n ∧ iv = .int .i64 ((t : Nat) : Int) ∧ xv = .int .i64 ((maxTo best3 t : Nat) : Int) ∧ Hid (BR w wr4 ob n best3)) (fun _ iv _ => n - (intOf iv).toNat)
            case atStart => exact ⟨0, Nat.zero_le _, rfl, rfl, hB⟩
            case round =>
              clear hB
              obtain ⟨t, htn, rfl, rfl, hB⟩ := hrel
              by_cases htlt : t < n
              · have htlt' : (t : Int) < n := by omega
                have b1 : wr.cell? ⟨ob, t, none⟩ = some (.int .i64 ((best3 t : Nat) : Int)) := hB.out.o.row htlt
                have hmx : ((maxTo best3 (t + 1) : Nat) : Int) = max ((maxTo best3 t : Nat) : Int) ((best3 t : Nat) : Int) := by simp only [maxTo]; omega
                have HMX := Lib.hid hmx
                clear hmx
                go_wp2
                go_roundw
                case rel => exact ⟨t + 1, by omega, by go_num, by rw [HMX.out], hB⟩
                case measure => simp [intOf]; omega
              · have htge : ¬ (t : Int) < n := by omega
                have htn' : t = n := by omega
                subst htn'
                have h1 := hJ.out
                have HA := Lib.hid (fun i hi => le_maxTo (best := best3) (n := t) i hi)
                have HB := Lib.hid (maxTo_at (best := best3) (n := t))
                obtain ⟨x, hx⟩ : ∃ x, maxTo best3 t = x := ⟨_, rfl⟩
                rw [hx] at HA HB ⊢
                clear hx
                by_cases hbig : t + 1 < x
                · have hbig' : (t : Int) + 1 < x := by omega
                  have HR : Hid (∃ i c m, i < t ∧ t < m ∧ Wk (sc t S) (fun a b => (a, b) ∈ M) i c m) := by
                    rcases HB.out with h | ⟨i, h2, h3⟩
                    · omega
                    · obtain ⟨c, hc⟩ := h1.w i h2
                      exact ⟨i, c, best3 i, h2, by omega, hc⟩
                  clear h1 hJ HA HB hbig
                  have hbel := hB.out.bel
                  go_wp2
                  go_ret
                  exact ⟨-1, rfl, hbel, .inl ⟨rfl, HR.out⟩⟩
                · have hbig' : (x : Int) ≤ (t : Int) + 1 := by omega
                  cases more3 with
                  | false =>
                    have HR : Hid ((x = 0 ∨ ∃ i c, i < t ∧ Wk (sc t S) (fun a b => (a, b) ∈ M) i c x) ∧ ∀ i c m, i < t → Wk (sc t S) (fun a b => (a, b) ∈ M) i c m → m ≤ x) := by
                      refine ⟨?_, fun i c m hi hw => ?_⟩
                      · rcases HB.out with h | ⟨i, h2, h3⟩
                        · exact .inl h
                        · obtain ⟨c, hc⟩ := h1.w i h2
                          exact .inr ⟨i, c, h2, h3 ▸ hc⟩
                      · have h2 := hw.le_fix (n := t) (best := best3) (fun a b h => h.elim (fun h => sc_lt t S _ _ h) (fun h => (HMN.out _ h).2)) (fun p q hp hq => h1.okA rfl p q (.inl (by omega)) hp hq) (fun a b _ h => by
                          obtain ⟨p, hp⟩ := List.getElem?_of_mem h
                          have hpl : p < M.length := (List.getElem?_eq_some_iff.1 hp).1
                          exact h1.okM rfl p a b (by omega) hp) hi
                        have h3 := HA.out i hi
                        omega
                    clear h1 hJ HA HB hbig
                    have hbel := hB.out.bel
                    go_wp2
                    go_ret
                    exact ⟨x, rfl, hbel, .inr ⟨x, rfl, HR.out⟩⟩
                  | true =>
                    have HI := Lib.hid (h1.inc1 rfl)
                    have HS : Hid (r + 1 ≤ sumB best3 t) := by have := HI.out; have := hS.out; exact (by omega : r + 1 ≤ sumB best3 t)
                    have HW := Lib.hid h1.w
                    have HD : Hid (∀ y, y < t → best3 y ≤ t + 1) := fun y hy => by have := HA.out y hy; omega
                    clear h1 hJ HA HB hbig HI
                    have hB0 := hB
                    go_wp2
                    go_roundw
                    case rel => exact ⟨r + 1, by go_num, best3, hB0, HW, HS, HD⟩
                    case measure => simp [intOf]; omega
end Go.Proofs.Yteaemnkllpfbgaa
