/- The law GraphMost walked. -/
import Derived.Test.YteaemnkllpfbgaaM5
import Derived.Test.YteaemnkllpfbgaaLk
namespace Go.Proofs.Yteaemnkllpfbgaa
open Go.RowKit Go.Maps
open Cal (Wk)
set_option linter.unusedSimpArgs false
set_option linter.unusedVariables false

theorem arrows_lt {n k : Nat} {y : Int} {l : List (Int × Int)} (h : arrows n l k y = true) : k < n := by
  simp only [arrows, List.any_eq_true, Bool.and_eq_true, beq_iff_eq, inRange, decide_eq_true_eq] at h
  obtain ⟨p, _, h⟩ := h
  omega
/-- What Most answers and what the document answers agree. -/
theorem most_agree {n : Nat} {S : Nat → Int → Bool} {l : List (Int × Int)} (hall : ∀ p, p ∈ l → (inRange p.1 n && inRange p.2 n) = true) {v v' : Int} {b : Bool}
    (h1 : (b = false ∧ v = 0 ∧ ((∃ p, p ∈ l ∧ (inRange p.1 n && inRange p.2 n) = false) ∨ ∃ a c m, Mks l a c ∧ Wk (sc n S) (Mks l) c a m)) ∨
      (b = true ∧ (∀ p, p ∈ l → (inRange p.1 n && inRange p.2 n) = true) ∧ ∃ W : Nat, v = W ∧ (W = 0 ∨ ∃ i c, i < n ∧ Wk (sc n S) (Mks l) i c W) ∧ ∀ i c m, i < n → Wk (sc n S) (Mks l) i c m → m ≤ W))
    (h2 : (v' = -1 ∧ ∃ i c m, i < n ∧ n < m ∧ Wk (sc n S) (Mks l) i c m) ∨ ∃ W : Nat, v' = W ∧ (W = 0 ∨ ∃ i c, i < n ∧ Wk (sc n S) (Mks l) i c W) ∧ ∀ i c m, i < n → Wk (sc n S) (Mks l) i c m → m ≤ W) :
    b = decide (0 ≤ v') ∧ v = max v' 0 := by
  have hmn : ∀ a c, Mks l a c → a < n ∧ c < n := fun a c h => by
    have := hall _ h
    simp only [inRange, Bool.and_eq_true, decide_eq_true_eq] at this
    omega
  have ever : ∀ a c m, Mks l a c → Wk (sc n S) (Mks l) c a m → ∀ N, ∃ k, N ≤ k ∧ Wk (sc n S) (Mks l) a a k := by
    intro a c m hm hw N
    induction N with
    | zero => exact ⟨0, Nat.le_refl _, .nil a⟩
    | succ N ih =>
      obtain ⟨k, g1, g2⟩ := ih
      exact ⟨m + 1 + k, by omega, (Wk.mrk hm hw).trans g2⟩
  rcases h1 with ⟨rfl, rfl, hp | ⟨a, c, m, hm, hw⟩⟩ | ⟨rfl, _, W, rfl, hW1, hW2⟩
  · obtain ⟨p, hp, e⟩ := hp
    rw [hall p hp] at e; cases e
  · rcases h2 with ⟨rfl, _⟩ | ⟨W, rfl, _, hW⟩
    · exact ⟨by decide, by decide⟩
    · obtain ⟨k, g1, g2⟩ := ever a c m hm hw (W + 1)
      have := hW a a k (hmn a c hm).1 g2
      omega
  · rcases h2 with ⟨rfl, i, c, m, hi, hnm, hw⟩ | ⟨W', rfl, hW1', hW2'⟩
    · exfalso
      classical
      have h3 : ∀ a b, b ∈ (List.range n).filter (fun b => decide (b ∈ sc n S a ∨ Mks l a b)) → b ∈ sc n S a ∨ Mks l a b := fun a b h => by simpa using (List.mem_filter.1 h).2
      have h4 : ∀ a b, b ∈ sc n S a → b ∈ (List.range n).filter (fun b => decide (b ∈ sc n S a ∨ Mks l a b)) := fun a b h => List.mem_filter.2 ⟨by simpa using sc_lt n S a b h, by simpa using Or.inl h⟩
      have h5 : ∀ a b, Mks l a b → b ∈ (List.range n).filter (fun b => decide (b ∈ sc n S a ∨ Mks l a b)) := fun a b h => List.mem_filter.2 ⟨by simpa using (hmn a b h).2, by simpa using Or.inr h⟩
      have hlt : ∀ a b, b ∈ (List.range n).filter (fun b => decide (b ∈ sc n S a ∨ Mks l a b)) → b < n := fun a b h => by simpa using (List.mem_filter.1 h).1
      have := hw.lt (sa := fun a => (List.range n).filter (fun b => decide (b ∈ sc n S a ∨ Mks l a b))) h4 h5 hlt (fun a b hm hr => by
        obtain ⟨k, g1, g2⟩ := Wk.more h3 hm hr (W + 1)
        have := hW2 a a k (hmn a b hm).1 g2
        omega) hi
      omega
    · have e : W = W' := by
        have g1 : W ≤ W' := by
          rcases hW1 with h | ⟨i, c, hi, h⟩
          · omega
          · exact hW2' i c W hi h
        have g2 : W' ≤ W := by
          rcases hW1' with h | ⟨i, c, hi, h⟩
          · omega
          · exact hW2 i c W' hi h
        omega
      subst e
      exact ⟨by simp, by omega⟩

set_option maxRecDepth 100000 in
set_option maxHeartbeats 4000000 in
theorem law_most_long (z : Nat) (hz : z ≤ 255) (v1 v2 : Value) (l1 l2 : List (Int × Int)) (w : World) (hp1 : Pairs w v1 l1) (hp2 : Pairs w v2 l2) (hl : 80 < l1.length) :
    Calls Try.prog 6 #[.int .u8 z, v1, v2] w (LawP w) := by
  obtain ⟨A, cap, rfl, _⟩ := hp1.len
  obtain ⟨A2, cap2, rfl, _⟩ := hp2.len
  clear hp1 hp2
  have hl' : (80 : Int) < l1.length := by omega
  go_enter Try.func6, Try.ntmps6
  go_wp2_with (first
    | (go_at_call 8; refine (awake_any _).mono ?_; rintro e w1 ⟨rfl, hb1⟩))
  go_ret
  exact ⟨rfl, hb1⟩
set_option maxRecDepth 100000 in
set_option maxHeartbeats 4000000 in
theorem law_most_long2 (z : Nat) (hz : z ≤ 255) (v1 v2 : Value) (l1 l2 : List (Int × Int)) (w : World) (hp1 : Pairs w v1 l1) (hp2 : Pairs w v2 l2) (hl : l1.length ≤ 80) (hl2 : 30 < l2.length) :
    Calls Try.prog 6 #[.int .u8 z, v1, v2] w (LawP w) := by
  obtain ⟨A, cap, rfl, _⟩ := hp1.len
  obtain ⟨A2, cap2, rfl, _⟩ := hp2.len
  clear hp1 hp2
  have hl' : (80 < (l1.length : Int)) = False := by simp; omega
  have hl2' : (30 : Int) < l2.length := by omega
  go_enter Try.func6, Try.ntmps6
  go_wp2_with (first
    | (go_at_call 8; refine (awake_any _).mono ?_; rintro e w1 ⟨rfl, hb1⟩))
  go_ret
  exact ⟨rfl, hb1⟩

set_option maxRecDepth 100000 in
set_option maxHeartbeats 4000000 in
theorem law_most_some (z n : Nat) (hz : z ≤ 255) (v1 v2 : Value) (l1 l2 : List (Int × Int)) (w : World) (hp1 : Pairs w v1 l1) (hp2 : Pairs w v2 l2) (hl : l1.length ≤ 80) (hl2 : l2.length ≤ 30) (hzn : (z : Int) % 14 = n) (hn : n ≤ 13) :
    Calls Try.prog 6 #[.int .u8 z, v1, v2] w (LawP w) := by
  obtain ⟨A, cap, rfl, _⟩ := hp1.len
  obtain ⟨A2, cap2, rfl, _⟩ := hp2.len
  have HP1 := Lib.hid hp1
  have HP2 := Lib.hid hp2
  clear hp1 hp2
  have hl' : (80 < (l1.length : Int)) = False := by simp; omega
  have hl2' : (30 < (l2.length : Int)) = False := by simp; omega
  go_enter Try.func6, Try.ntmps6
  go_wp2_with (first
    | (go_at_call 8; refine (awake_any _).mono ?_; rintro e w1 ⟨rfl, hb1⟩)
    | (go_at_call 9; refine (build_any n _ l1 _ (HP1.out.below hb1) (by omega) (by omega)).mono ?_; rintro e w2 ⟨g, s, mb, rows, rfl, hB⟩; obtain ⟨c, ms, hcl, hG⟩ := hB.G; have hP2 := (HP2.out.below hb1).below hG.bel)
    | (go_at_call 20; refine (most_any g s n c l2.length cap2 ms _ A2 l2 _ hG.G (fun k y h => arrows_lt h) hP2 hn (by omega) hl2).mono ?_; rintro e w3 ⟨v, b, rfl, hb3, hM⟩))
  have HM3 := Lib.hid ((hB.M.fr (Fr.of_below hb3) (fun e => e) (fun _ _ e => e)))
  have HP3 := Lib.hid (hP2.below hb3)
  have HB3 := Lib.hid (hb1.trans ((hG.bel.trans (hb3.mono hG.bel.size)).mono hb1.size))
  have HM := Lib.hid hM
  clear hB hG hP2 hb3 hM hb1
  go_loopw [13] (fun iv wr => ∃ j : Nat, j ≤ l2.length ∧ iv = .int .i64 ((j : Nat) : Int) ∧ Hid (OkTo n l2 j) ∧ Hid (Fr (fun _ => False) w3 wr)) (fun iv _ => l2.length - (intOf iv).toNat)
  case atStart => exact ⟨0, Nat.zero_le _, rfl, fun i p hi => by omega, Fr.refl _ _⟩
  case round =>
    obtain ⟨j, hjn, rfl, HOK, HF⟩ := hrel
    have hbr := Lib.hid (HB3.out.trans (HF.out.below _ (fun _ e => e.elim) HB3.out.size))
    by_cases hjlt : j < l2.length
    · have hjlt' : (j : Int) < l2.length := by omega
      obtain ⟨⟨a, b'⟩, hab⟩ : ∃ p, l2[j]? = some p := ⟨_, List.getElem?_eq_getElem hjlt⟩
      obtain ⟨vb, off, rfl, p1, p2⟩ := (HP3.out.below (w' := wr) (HF.out.below _ (fun _ e => e.elim) (Nat.le_refl _))).atI (Below.refl _ wr) hab
      cases hin : (inRange a n && inRange b' n) with
      | true =>
        have HOK2 : Hid (OkTo n l2 (j + 1)) := fun i p hi hip => by
          by_cases e : i = j
          · subst e; rw [hab] at hip; cases hip; exact hin
          · exact HOK.out i p (by omega) hip
        simp only [inRange, Bool.and_eq_true, decide_eq_true_eq] at hin
        have ha0 : 0 ≤ a := by omega
        have han : a < n := by omega
        have hb0 : 0 ≤ b' := by omega
        have hbn : b' < n := by omega
        clear hin hab HOK
        go_wp2
        go_roundw
        case rel => exact ⟨j + 1, by omega, by go_num, HOK2, HF⟩
        case measure => simp [intOf]; omega
      | false =>
        have hbad : b = false ∧ v = 0 := by
          rcases HM.out with ⟨g1, g2, _⟩ | ⟨_, g3, _⟩
          · exact ⟨g1, g2⟩
          · have := g3 _ (List.mem_of_getElem? hab)
            rw [hin] at this; cases this
        obtain ⟨rfl, rfl⟩ := hbad
        clear hab HOK HM
        by_cases h1 : a < 0
        · clear hin
          go_wp2
          go_ret
          exact ⟨rfl, hbr.out⟩
        · by_cases h2 : (n : Int) ≤ a
          · have h1' : 0 ≤ a := by omega
            clear hin h1
            go_wp2
            go_ret
            exact ⟨rfl, hbr.out⟩
          · by_cases h3 : b' < 0
            · have h1' : 0 ≤ a := by omega
              have h2' : a < n := by omega
              clear hin h1 h2
              go_wp2
              go_ret
              exact ⟨rfl, hbr.out⟩
            · by_cases h4 : (n : Int) ≤ b'
              · have h1' : 0 ≤ a := by omega
                have h2' : a < n := by omega
                have h3' : 0 ≤ b' := by omega
                clear hin h1 h2 h3
                go_wp2
                go_ret
                exact ⟨rfl, hbr.out⟩
              · exfalso
                simp only [inRange, Bool.and_eq_false_iff, decide_eq_false_iff_not] at hin
                omega
    · have hjge : ¬ (j : Int) < l2.length := by omega
      have hj : j = l2.length := by omega
      have hall : ∀ p, p ∈ l2 → (inRange p.1 n && inRange p.2 n) = true := fun p hp => by
        obtain ⟨i, hi⟩ := List.getElem?_of_mem hp
        exact HOK.out i p (by rw [hj]; exact (List.getElem?_eq_some_iff.1 hi).1) hi
      have hMl : ∃ M : List (Nat × Nat), l2 = M.map (fun p => ((p.1 : Int), (p.2 : Int))) ∧ ∀ p, p ∈ M → p.1 < n ∧ p.2 < n := by
        refine ⟨l2.map fun p => (p.1.toNat, p.2.toNat), ?_, fun p hp => ?_⟩
        · rw [List.map_map]
          refine (List.map_id _).symm.trans (List.map_congr_left fun p hp => ?_)
          have := hall p hp
          simp only [inRange, Bool.and_eq_true, decide_eq_true_eq] at this
          simp only [id, Function.comp]
          exact Prod.ext (by simp only; omega) (by simp only; omega)
        · obtain ⟨q, hq, rfl⟩ := List.mem_map.1 hp
          have := hall q hq
          simp only [inRange, Bool.and_eq_true, decide_eq_true_eq] at this
          simp only
          omega
      obtain ⟨M, hlM, hMn⟩ := hMl
      have hK : (fun a b => (a, b) ∈ M) = Mks l2 := by
        funext a b
        refine propext ⟨fun h => ?_, fun h => ?_⟩
        · unfold Mks
          rw [hlM]
          exact List.mem_map.2 ⟨_, h, rfl⟩
        · unfold Mks at h
          rw [hlM] at h
          obtain ⟨p, hp, e⟩ := List.mem_map.1 h
          simp only [Prod.mk.injEq] at e
          have e1 : p.1 = a := by omega
          have e2 : p.2 = b := by omega
          rw [← e1, ← e2]; exact hp
      have hPr : Pairs wr (.slice A2 l2.length cap2) (M.map fun p => ((p.1 : Int), (p.2 : Int))) := by
        rw [← hlM]
        exact HP3.out.below (HF.out.below _ (fun _ e => e.elim) (Nat.le_refl _))
      have hPn : (n + 1) * (n + 2) ≤ 14 * 15 := Nat.mul_le_mul (by omega) (by omega)
      have hR := refmost_any n mb ((n + 1) * (n + 2)) rows (arrows n l1) A2 l2.length cap2 M wr (HM3.out.fr HF.out (fun e => e) (fun _ _ e => e)) hPr hMn hn hl2 (by simp) (by omega)
      rw [hK] at hR
      have HR : Hid (Calls Try.prog 21 #[.slice (some ⟨mb, 0, none⟩) n n, .slice A2 l2.length cap2] wr fun e w' => ∃ v' : Int, e = .returned (.int .i64 v') ∧ Hid (Below w.heap.size w w') ∧ Hid (b = decide (0 ≤ v') ∧ v = max v' 0)) := by
        refine hR.mono ?_
        rintro e w' ⟨v', rfl, hb, hv⟩
        exact ⟨v', rfl, hbr.out.trans (hb.mono hbr.out.size), most_agree hall HM.out hv⟩
      clear hR hPr hK hMn hlM HM HOK HF hj hall hPn
      go_wp2_with (go_at_call 21; refine HR.out.mono ?_; rintro e w4 ⟨v', rfl, HB4, HV⟩; clear HR; (rcases HV.out with ⟨rfl, rfl⟩))
      go_ret
      exact ⟨rfl, HB4.out⟩
end Go.Proofs.Yteaemnkllpfbgaa
