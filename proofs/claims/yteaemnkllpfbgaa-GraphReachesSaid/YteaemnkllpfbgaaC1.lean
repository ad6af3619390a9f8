/- The document's Closure. -/
import Derived.Test.YteaemnkllpfbgaaF1
import Derived.Test.YteaemnkllpfbgaaPw
import Derived.BigQuiet
namespace Go.Proofs.Yteaemnkllpfbgaa
open Go.RowKit Go.Maps
open Cal (upd upd_same upd_ne upd2 WI)
set_option linter.unusedSimpArgs false
set_option linter.unusedVariables false

/-- A table with its first i rows made. -/
structure T1 (w wr : World) (cb n i : Nat) (rows : Nat → Nat) (C : Nat → Nat → Bool) : Prop where
  top : Blk wr cb (rowA n fun k => if k < i then .slice (some ⟨rows k, 0, none⟩) n n else .slice none 0 0) 34
  row : ∀ k, k < i → Blk wr (rows k) (rowA n (boolC (C k))) 4
  inj : ∀ k k', k < i → k' < i → rows k = rows k' → k = k'
  ge : w.heap.size ≤ cb
  rge : ∀ k, k < i → w.heap.size ≤ rows k
  bel : Below w.heap.size w wr

theorem T1.fr {w wr w' : World} {cb n i : Nat} {rows : Nat → Nat} {C : Nat → Nat → Bool} (h : T1 w wr cb n i rows C) (hf : Fr (fun _ => False) wr w') : T1 w w' cb n i rows C :=
  { h with top := hf.blk h.top (fun e => e), row := fun k hk => hf.blk (h.row k hk) (fun e => e), bel := h.bel.trans (hf.below _ (fun i e => e.elim) h.bel.size) }
theorem T1.at {w wr : World} {cb n i k : Nat} {rows : Nat → Nat} {C : Nat → Nat → Bool} (h : T1 w wr cb n i rows C) (hk : k < i) (hn : k < n) : wr.cell? ⟨cb, k, none⟩ = some (.slice (some ⟨rows k, 0, none⟩) n n) := by
  rw [h.top.row hn, if_pos hk]
theorem T1.el {w wr : World} {cb n i k j : Nat} {rows : Nat → Nat} {C : Nat → Nat → Bool} (h : T1 w wr cb n i rows C) (hk : k < i) (hj : j < n) : wr.cell? ⟨rows k, j, none⟩ = some (.bool (C k j)) := (h.row k hk).row hj
theorem T1.set {w wr : World} {cb n i a b : Nat} {rows : Nat → Nat} {C : Nat → Nat → Bool} (h : T1 w wr cb n i rows C) (ha : a < i) (v : Bool) : T1 w (wr.setCell ⟨rows a, b, none⟩ (.bool v)) cb n i rows (upd2 C a b v) := by
  have hs : Fr (fun i => i = rows a) wr (wr.setCell ⟨rows a, b, none⟩ (.bool v)) := (Fr.refl (fun i => i = rows a) wr).set (p := ⟨rows a, b, none⟩) (fun _ => rfl) _
  refine { h with top := hs.blk h.top (h.top.ne (h.row a ha) (by decide)), row := fun k hk => ?_, bel := h.bel.setCell (p := ⟨rows a, b, none⟩) (h.rge a ha) _ }
  by_cases e : k = a
  · subst e
    refine Eq.trans ((h.row k hk).setRow b (.bool v)).eq ?_
    congr 2
    refine rowA_congr fun j _ => ?_
    simp only [upd, boolC, upd2]
    by_cases e : j = b <;> simp [e]
  · refine Eq.trans (hs.blk (h.row k hk) (fun e2 => e (h.inj k a hk ha e2))).eq ?_
    congr 2
    refine rowA_congr fun j _ => ?_
    simp [boolC, upd2, e]
theorem T1.next {w wr : World} {cb n i : Nat} {rows : Nat → Nat} {C : Nat → Nat → Bool} (h : T1 w wr cb n i rows C) (hi : i < n) :
    T1 w ((wr.alloc (.cells (rowA n (boolC fun _ => false)) 4)).setCell ⟨cb, i, none⟩ (.slice (some ⟨wr.heap.size, 0, none⟩) n n)) cb n (i + 1) (upd rows i wr.heap.size) (upd C i fun _ => false) := by
  have hF : Fr (fun b => b = cb) wr ((wr.alloc (.cells (rowA n (boolC fun _ => false)) 4)).setCell ⟨cb, i, none⟩ (.slice (some ⟨wr.heap.size, 0, none⟩) n n)) := ((Fr.refl (fun b => b = cb) wr).alloc _).set (p := ⟨cb, i, none⟩) (fun _ => rfl) _
  have hlt := h.top.lt
  have hsz := h.bel.size
  have hrl : ∀ k, k < i → rows k < wr.heap.size := fun k hk => (h.row k hk).lt
  exact {
    top := by
      refine Eq.trans ((h.top.alloc (.cells (rowA n (boolC fun _ => false)) 4)).setRow i (.slice (some ⟨wr.heap.size, 0, none⟩) n n)).eq ?_
      congr 2
      refine rowA_congr fun k _ => ?_
      simp only [upd]
      by_cases e : k = i
      · subst e; simp
      · have : k < i + 1 ↔ k < i := by omega
        simp [e, this]
    row := fun k hk => by
      by_cases e : k = i
      · subst e
        rw [upd_same, upd_same]
        exact (Blk.new wr (rowA n (boolC fun _ => false)) 4).setOther (by simp; omega) _
      · rw [upd_ne _ _ e, upd_ne _ _ e]
        have hr := h.row k (by omega)
        exact hF.blk hr (hr.ne h.top (by decide))
    inj := fun k k' hk hk' e => by
      by_cases e1 : k = i
      · by_cases e2 : k' = i
        · omega
        · rw [e1, upd_same, upd_ne _ _ e2] at e
          have := hrl k' (by omega); omega
      · by_cases e2 : k' = i
        · rw [e2, upd_same, upd_ne _ _ e1] at e
          have := hrl k (by omega); omega
        · rw [upd_ne _ _ e1, upd_ne _ _ e2] at e
          exact h.inj k k' (by omega) (by omega) e
    ge := h.ge
    rge := fun k hk => by
      by_cases e : k = i
      · subst e; rw [upd_same]; exact hsz
      · rw [upd_ne _ _ e]; exact h.rge k (by omega)
    bel := (h.bel.alloc hsz _).setCell (p := ⟨cb, i, none⟩) h.ge _ }

/-- What Closure answers. -/
def ClosureP (w : World) (n : Nat) (S : Nat → Int → Bool) (e : Ending) (w' : World) : Prop :=
  ∃ cb rows C, e = .returned (.slice (some ⟨cb, 0, none⟩) n n) ∧ T1 w w' cb n n rows C ∧ ∀ a b, a < n → b < n → (C a b = true ↔ Cal.Reach (sc n S) a b)

set_option maxRecDepth 100000 in
set_option maxHeartbeats 8000000 in
theorem closure_any (n mb : Nat) (rw0 : Nat → Nat) (S : Nat → Int → Bool) (w : World) (hM : IsM w mb n rw0 S) (hn : n ≤ 100) :
    Calls Try.prog 11 #[.slice (some ⟨mb, 0, none⟩) n n] w (ClosureP w n S) := by
  have hmkT : ∀ W : World, (Instr.makeSlice 25 (.int .i64 (n : Int)) (.int .i64 (n : Int))).run Try.prog W = .ok (.slice (some ⟨W.heap.size, 0, none⟩) n n) (W.alloc (.cells (rowA n (fun _ => .slice none 0 0)) 34)) := by
    intro W
    have := run_make_row' 25 34 (.slice none 0 0) 24 Try.underlying25 info34 rfl .i64 .i64 n (by omega) (by omega) W
    rw [madeCells_row] at this
    exact this
  have hmk4 : ∀ W : World, (Instr.makeSlice 34 (.int .i64 (n : Int)) (.int .i64 (n : Int))).run Try.prog W = .ok (.slice (some ⟨W.heap.size, 0, none⟩) n n) (W.alloc (.cells (rowA n (boolC fun _ => false)) 4)) := by
    intro W
    have := run_make_row' 34 4 (.bool false) 1 Try.underlying34 info4' rfl .i64 .i64 n (by omega) (by omega) W
    rw [madeCells_row] at this
    exact this
  have HM := Lib.hid hM
  clear hM
  go_enter Try.func11, Try.ntmps11
  go_wp2
  obtain ⟨w0, hw0⟩ : ∃ w0, w.alloc (.cells (rowA n (fun _ => .slice none 0 0)) 34) = w0 := ⟨_, rfl⟩
  obtain ⟨cb, hcb⟩ : ∃ cb, w.heap.size = cb := ⟨_, rfl⟩
  have hT0 : Hid (T1 w w0 cb n 0 (fun _ => 0) (fun _ _ => false)) := by
    subst hw0; subst hcb
    exact ⟨Blk.new w _ 34, fun k hk => by omega, fun k k' hk => by omega, Nat.le_refl _, fun k hk => by omega, (Below.refl _ w).alloc (Nat.le_refl _) _⟩
  rw [hw0, hcb]
  clear hw0 hcb
  go_loopw [5] (fun iv wr => ∃ i : Nat, i ≤ n ∧ iv = .int .i64 ((i : Nat) : Int) ∧ ∃ rows C, Hid (T1 w wr cb n i rows C) ∧ Hid (∀ a b, a < i → b < n → C a b = (S a b || a == b))) (fun iv _ => n - (intOf iv).toNat)
  case atStart => exact ⟨0, Nat.zero_le _, rfl, _, _, hT0, fun a b h => by omega⟩
  case round =>
    clear hT0
    obtain ⟨i, hin, rfl, rows, C, hT, hC⟩ := hrel
    by_cases hlt : i < n
    · have hlt' : (i : Int) < n := by omega
      have o1 : (wr.alloc (.cells (rowA n (boolC fun _ => false)) 4)).cell? ⟨cb, i, none⟩ = some (.slice none 0 0) := by
        rw [(hT.out.top.alloc _).row hlt]; simp
      have o2 := (hT.out.top.alloc (.cells (rowA n (boolC fun _ => false)) 4)).free i
      go_wp2
      obtain ⟨w1, hw1⟩ : ∃ w1, (wr.alloc (.cells (rowA n (boolC fun _ => false)) 4)).setCell ⟨cb, i, none⟩ (.slice (some ⟨wr.heap.size, 0, none⟩) n n) = w1 := ⟨_, rfl⟩
      have hT1 := Lib.hid (hT.out.next hlt)
      have hC1 : Hid (∀ a b, a < i → b < n → upd C i (fun _ => false) a b = (S a b || a == b)) := fun a b ha hb => by
        rw [upd_ne _ _ (by omega)]; exact hC.out a b ha hb
      rw [hw1] at hT1 ⊢
      clear hw1 o1 o2 hT hC
      obtain ⟨rows1, hr1⟩ : ∃ r, upd rows i wr.heap.size = r := ⟨_, rfl⟩
      obtain ⟨C1, hc1⟩ : ∃ r, upd C i (fun _ => false) = r := ⟨_, rfl⟩
      rw [hr1, hc1] at hT1
      rw [hc1] at hC1
      clear hr1 hc1
      go_loopw [6] (fun jv wr2 => ∃ j : Nat, j ≤ n ∧ jv = .int .i64 ((j : Nat) : Int) ∧ ∃ C2, Hid (T1 w wr2 cb n (i + 1) rows1 C2) ∧ Hid ((∀ a b, a < i → b < n → C2 a b = (S a b || a == b)) ∧ ∀ b, b < j → C2 i b = (S i b || i == b))) (fun jv _ => n - (intOf jv).toNat)
      case atStart => exact ⟨0, Nat.zero_le _, rfl, _, hT1, hC1.out, fun b hb => by omega⟩
      case round =>
        clear hT1 hC1
        obtain ⟨j, hjn, rfl, C2, hT, hC⟩ := hrel
        by_cases hjlt : j < n
        · have hjlt' : (j : Int) < n := by omega
          have hMr := HM.out.next hT.out.bel
          have t1 : wr.cell? ⟨mb, i, none⟩ = some (.slice (some ⟨rw0 i, 0, none⟩) n n) := hMr.top.row hlt
          have r1 : wr.cell? ⟨rw0 i, j, none⟩ = some (.bool (S i j)) := (hMr.row i hlt).row hjlt
          have t2 := hT.out.at (Nat.lt_succ_self i) hlt
          have r2 := hT.out.el (Nat.lt_succ_self i) hjlt
          have r3 := (hT.out.row i (Nat.lt_succ_self i)).free j
          have hnx : ∀ v : Bool, v = (S i j || i == j) → Hid (T1 w (wr.setCell ⟨rows1 i, j, none⟩ (.bool v)).drew cb n (i + 1) rows1 (upd2 C2 i j v)) ∧ Hid ((∀ a b, a < i → b < n → upd2 C2 i j v a b = (S a b || a == b)) ∧ ∀ b, b < j + 1 → upd2 C2 i j v i b = (S i b || i == b)) := fun v hv => by
            refine ⟨(hT.out.set (Nat.lt_succ_self i) v).fr ((Fr.refl _ _).drew), fun a b ha hb => ?_, fun b hb => ?_⟩
            · simp only [upd2]
              rw [if_neg (by omega)]
              exact hC.out.1 a b ha hb
            · simp only [upd2]
              by_cases e : b = j
              · subst e; rw [if_pos ⟨trivial, rfl⟩]; exact hv
              · rw [if_neg (fun e2 => e e2.2)]; exact hC.out.2 b (by omega)
          clear hMr hC hT
          cases hs : S i j with
          | true =>
            rw [hs] at r1 hnx
            obtain ⟨h1, h2⟩ := hnx true rfl
            clear hnx hs
            go_wp2
            go_region
            go_wp2
            go_roundw
            case rel => exact ⟨j + 1, by omega, by go_num, _, h1, h2⟩
            case measure => simp [intOf]; omega
          | false =>
            rw [hs] at r1 hnx
            by_cases hij : i = j
            · subst hij
              obtain ⟨h1, h2⟩ := hnx true (by simp)
              clear hnx hs
              go_wp2
              go_region
              go_wp2
              go_roundw
              case rel => exact ⟨i + 1, by omega, by go_num, _, h1, h2⟩
              case measure => simp [intOf]; omega
            · have hij' : ((i : Int) == (j : Int)) = false := by simp only [beq_eq_false_iff_ne, ne_eq]; omega
              obtain ⟨h1, h2⟩ := hnx false (by simp [hij])
              clear hnx hs hij
              go_wp2
              go_region
              go_wp2
              go_roundw
              case rel => exact ⟨j + 1, by omega, by go_num, _, h1, h2⟩
              case measure => simp [intOf]; omega
        · have hjge : ¬ (j : Int) < n := by omega
          have hC2 : Hid (∀ a b, a < i + 1 → b < n → C2 a b = (S a b || a == b)) := fun a b ha hb => by
            by_cases e : a = i
            · subst e; exact hC.out.2 b (by omega)
            · exact hC.out.1 a b (by omega) hb
          clear hC
          go_wp2
          go_roundw
          case rel => exact ⟨i + 1, by omega, by go_num, rows1, C2, hT, hC2⟩
          case measure => simp [intOf]; omega
    · have hie : i = n := by omega
      have hge : ¬ (i : Int) < n := by omega
      have hT2 : Hid (T1 w wr cb n n rows C) := by rw [← hie]; exact hie ▸ hT.out
      have hW : Hid (WI (sc n S) n C 0 0 0) := WI.start fun a b ha hb => by
        rw [hC.out a b (by omega) hb]
        simp only [Bool.or_eq_true, beq_iff_eq, mem_sc]
        constructor
        · rintro (h | h)
          · exact .inr ⟨hb, h⟩
          · exact .inl h
        · rintro (h | ⟨_, h⟩)
          · exact .inr h
          · exact .inl h
      clear hT hC hie
      go_wp2
      go_loopw [7] (fun kv wr2 => ∃ k : Nat, k ≤ n ∧ kv = .int .i64 ((k : Nat) : Int) ∧ ∃ C2, Hid (T1 w wr2 cb n n rows C2) ∧ Hid (WI (sc n S) n C2 k 0 0)) (fun kv _ => n - (intOf kv).toNat)
      case atStart => exact ⟨0, Nat.zero_le _, rfl, _, hT2, hW⟩
      case round =>
        clear hT2 hW
        obtain ⟨k, hkn, rfl, C2, hT2, hW2⟩ := hrel
        by_cases hklt : k < n
        · have hklt' : (k : Int) < n := by omega
          go_wp2
          go_loopw [8] (fun iv wr3 => ∃ i : Nat, i ≤ n ∧ iv = .int .i64 ((i : Nat) : Int) ∧ ∃ C3, Hid (T1 w wr3 cb n n rows C3) ∧ Hid (WI (sc n S) n C3 k i 0)) (fun iv _ => n - (intOf iv).toNat)
          case atStart => exact ⟨0, Nat.zero_le _, rfl, _, hT2, hW2⟩
          case round =>
            clear hT2 hW2
            obtain ⟨a, han, rfl, C3, hT3, hW3⟩ := hrel
            by_cases halt : a < n
            · have halt' : (a : Int) < n := by omega
              go_wp2
              go_loopw [9] (fun jv wr4 => ∃ j : Nat, j ≤ n ∧ jv = .int .i64 ((j : Nat) : Int) ∧ ∃ C4, Hid (T1 w wr4 cb n n rows C4) ∧ Hid (WI (sc n S) n C4 k a j)) (fun jv _ => n - (intOf jv).toNat)
              case atStart => exact ⟨0, Nat.zero_le _, rfl, _, hT3, hW3⟩
              case round =>
                clear hT3 hW3
                obtain ⟨j, hjn, rfl, C4, hT4, hW4⟩ := hrel
                by_cases hjlt : j < n
                · have hjlt' : (j : Int) < n := by omega
                  have t1 := hT4.out.at halt halt
                  have t2 := hT4.out.at hklt hklt
                  have e1 := hT4.out.el halt hklt
                  have e2 := hT4.out.el halt hjlt
                  have e3 := hT4.out.el hklt hjlt
                  have e4 := (hT4.out.row a halt).free j
                  have HS := Lib.hid fun v => (hT4.out.set (b := j) halt v).fr ((Fr.refl (fun _ => False) _).drew)
                  cases hik : C4 a k with
                  | false =>
                    rw [hik] at e1
                    have HK := Lib.hid (hW4.out.nextI hklt (.inr hik))
                    clear hik e2 e3 e4 HS
                    go_wp2
                    go_roundw
                    case rel => exact ⟨a + 1, by omega, by go_num, _, hT4, HK⟩
                    case measure => simp [intOf]; omega
                  | true =>
                    have HK := Lib.hid (hW4.out.put hklt halt hjlt hik)
                    rw [hik] at e1
                    cases haj : C4 a j with
                    | true =>
                      have hv : (C4 a j || C4 k j) = true := by rw [haj]; rfl
                      have HT := Lib.hid (HS.out true)
                      rw [hv] at HK
                      rw [haj] at e2
                      clear hik haj hv HS e3
                      go_wp2
                      go_region
                      go_wp2
                      go_roundw
                      case rel => exact ⟨j + 1, by omega, by go_num, _, HT, HK⟩
                      case measure => simp [intOf]; omega
                    | false =>
                      have hv : (C4 a j || C4 k j) = C4 k j := by rw [haj]; rfl
                      obtain ⟨x, hx⟩ : ∃ x, C4 k j = x := ⟨_, rfl⟩
                      have HT := Lib.hid (HS.out x)
                      rw [hv, hx] at HK
                      rw [haj] at e2
                      rw [hx] at e3
                      clear hik haj hv HS hx
                      go_wp2
                      go_region
                      go_wp2
                      go_roundw
                      case rel => exact ⟨j + 1, by omega, by go_num, _, HT, HK⟩
                      case measure => simp [intOf]; omega
                · have hjge : ¬ (j : Int) < n := by omega
                  have HK := Lib.hid (hW4.out.nextI hklt (.inl (by omega)))
                  go_wp2
                  go_roundw
                  case rel => exact ⟨a + 1, by omega, by go_num, _, hT4, HK⟩
                  case measure => simp [intOf]; omega
            · have hage : ¬ (a : Int) < n := by omega
              have HK := Lib.hid (hW3.out.nextK (by omega))
              go_wp2
              go_roundw
              case rel => exact ⟨k + 1, by omega, by go_num, _, hT3, HK⟩
              case measure => simp [intOf]; omega
        · have hkge : ¬ (k : Int) < n := by omega
          go_wp2
          go_ret
          exact ⟨cb, rows, C2, rfl, hT2.out, hW2.out.done (sc_lt n S) (by omega)⟩
end Go.Proofs.Yteaemnkllpfbgaa
