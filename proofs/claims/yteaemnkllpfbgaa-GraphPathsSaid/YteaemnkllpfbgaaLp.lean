/- The law GraphPaths walked. -/
import Derived.Test.YteaemnkllpfbgaaF1
import Derived.BigQuiet
namespace Go.Proofs.Yteaemnkllpfbgaa
open Go.RowKit Go.Maps
open Cal (upd upd_same upd_ne FJ Dist)
set_option linter.unusedSimpArgs false
set_option linter.unusedVariables false

theorem IsPath.steps {sc : Nat → List Nat} {a b : Nat} {p : List Nat} (h : IsPath sc a b p) : Cal.Steps sc a b (p.length - 1) := by
  have key : ∀ i x, p[i]? = some x → Cal.Steps sc a x i := by
    intro i
    induction i with
    | zero =>
      intro x hx
      rw [h.head] at hx
      obtain rfl : a = x := by simpa using hx
      exact .zero _
    | succ i ih =>
      intro x hx
      have hi : i < p.length := by have := (List.getElem?_eq_some_iff.1 hx).1; omega
      have hy : p[i]? = some p[i] := List.getElem?_eq_getElem hi
      exact .succ (ih _ hy) (h.chain i _ _ hy hx)
  exact key _ _ h.last

/-- Path where there is a way, in the law's words. -/
theorem path_yes (g s n src dst c : Nat) (ms : Nat → Option Nat) (S : Nat → Int → Bool) (w : World) (h : IsG w g s n ms c S) (hs : src < n) (ht : dst < n) (hn : Small n) (hc : Small c) (d : Nat) (hd : Dist (sc n S) src dst d) :
    Calls Try.prog 18 #[.pointer (some ⟨g, 0, none⟩), .int .i64 src, .int .i64 dst] w fun e w' => ∃ (pb cap : Nat) (p : Nat → Nat), e = .returned (.tuple #[.slice (some ⟨pb, 0, none⟩) (d + 1) cap, .bool true]) ∧ Below w.heap.size w w' ∧
      (∀ i, i < d + 1 → w'.cell? ⟨pb, i, none⟩ = some (.int .i64 (p i : Int))) ∧ p 0 = src ∧ p d = dst ∧ (∀ i, i < d → p (i + 1) ∈ sc n S (p i)) ∧ (∀ i, i < d + 1 → p i < n) := by
  refine (path_any g s n src dst c ms S w h hs ht hn hc).mono ?_
  rintro e w1 ⟨hb, ⟨hno, rfl⟩ | ⟨v, p, rfl, hrow, hp, hlt, hr, hmin⟩⟩
  · exact absurd hd.1.reach hno
  · have h1 := hmin d hd.1
    have h2 := hd.2 _ hp.steps
    have h3 := hp.pos
    have hl : p.length = d + 1 := by omega
    rcases own_cases hrow with ⟨_, h0, _⟩ | ⟨g', cap, e, h4, _, _, _, h5, _⟩
    · omega
    · have hget : ∀ i, i < d + 1 → p[i]? = some (p.getD i 0) := fun i hi => by
        rw [List.getElem?_eq_getElem (by omega)]
        simp [List.getD, List.getElem?_eq_getElem (show i < p.length by omega)]
      refine ⟨g', cap, fun i => p.getD i 0, by rw [e, hl], hb, fun i hi => h5 i _ (cellsN_get (hget i hi)), ?_, ?_, fun i hi => hp.chain i _ _ (hget i (by omega)) (hget (i + 1) (by omega)), fun i hi => hlt _ (List.mem_of_getElem? (hget i hi))⟩
      · have := hget 0 (by omega); rw [hp.head] at this; simpa using this.symm
      · have := hget d (by omega)
        have h6 := hp.last
        rw [hl] at h6
        simp only [Nat.add_sub_cancel] at h6
        rw [h6] at this; simpa using this.symm

set_option maxRecDepth 100000 in
set_option maxHeartbeats 4000000 in
theorem law_paths_long (z : Nat) (x y : Int) (hz : z ≤ 255) (v : Value) (l : List (Int × Int)) (w : World) (hp : Pairs w v l) (hl : 80 < l.length) :
    Calls Try.prog 4 #[.int .u8 z, v, .int .i64 x, .int .i64 y] w (LawP w) := by
  obtain ⟨A, cap, rfl, _⟩ := hp.len
  clear hp
  have hl' : (80 : Int) < l.length := by omega
  go_enter Try.func4, Try.ntmps4
  go_wp2_with (first
    | (go_at_call 8; refine (awake_any _).mono ?_; rintro e w1 ⟨rfl, hb1⟩))
  go_ret
  exact ⟨rfl, hb1⟩

set_option maxRecDepth 100000 in
set_option maxHeartbeats 4000000 in
theorem law_paths_out (z n : Nat) (x y : Int) (hz : z ≤ 255) (v : Value) (l : List (Int × Int)) (w : World) (hp : Pairs w v l) (hl : l.length ≤ 80) (hzn : (z : Int) % 14 = n) (hn : n ≤ 13) (hxy : (inRange x n && inRange y n) = false) :
    Calls Try.prog 4 #[.int .u8 z, v, .int .i64 x, .int .i64 y] w (LawP w) := by
  obtain ⟨A, cap, rfl, _⟩ := hp.len
  have HP := Lib.hid hp
  clear hp
  have hl' : (80 < (l.length : Int)) = False := by simp; omega
  have hsn : Small n := Nat.le_trans hn (by decide)
  have hcs : x < 0 ∨ (n : Int) ≤ x ∨ (0 ≤ x ∧ x < n ∧ y < 0) ∨ (0 ≤ x ∧ x < n ∧ (n : Int) ≤ y) := by
    by_cases h1 : x < 0
    · exact .inl h1
    · by_cases h2 : (n : Int) ≤ x
      · exact .inr (.inl h2)
      · by_cases h3 : y < 0
        · exact .inr (.inr (.inl ⟨by omega, by omega, h3⟩))
        · by_cases h4 : (n : Int) ≤ y
          · exact .inr (.inr (.inr ⟨by omega, by omega, h4⟩))
          · rw [inRange_true (by omega) (by omega), inRange_true (by omega) (by omega)] at hxy; cases hxy
  rcases hcs with h1 | h1 | ⟨h0, h1, h2⟩ | ⟨h0, h1, h2⟩
  all_goals
    go_enter Try.func4, Try.ntmps4
    go_wp2_with (first
      | (go_at_call 8; refine (awake_any _).mono ?_; rintro e w1 ⟨rfl, hb1⟩)
      | (go_at_call 9; refine (build_any n _ l _ (HP.out.below hb1) (by omega) (by omega)).mono ?_; rintro e w2 ⟨g, s, mb, rows, rfl, hB⟩; obtain ⟨c, ms, hcl, hG⟩ := hB.G)
      | (go_at_call 18; refine (path_out g s n x y _ hG.G.cell hxy).mono ?_; rintro e w3 ⟨rfl, rfl⟩))
    go_ret
    exact ⟨rfl, hb1.trans (hG.bel.mono hb1.size)⟩

set_option maxRecDepth 100000 in
set_option maxHeartbeats 4000000 in
theorem law_paths_no (z n x y : Nat) (hz : z ≤ 255) (v : Value) (l : List (Int × Int)) (w : World) (hp : Pairs w v l) (hl : l.length ≤ 80) (hzn : (z : Int) % 14 = n) (hn : n ≤ 13) (hx : x < n) (hy : y < n)
    (hno : ¬ Cal.Reach (sc n (arrows n l)) x y) :
    Calls Try.prog 4 #[.int .u8 z, v, .int .i64 x, .int .i64 y] w (LawP w) := by
  obtain ⟨A, cap, rfl, _⟩ := hp.len
  have HP := Lib.hid hp
  have HNO := Lib.hid hno
  clear hp hno
  have hl' : (80 < (l.length : Int)) = False := by simp; omega
  have hsn : Small n := Nat.le_trans hn (by decide)
  have hx' : (x : Int) < n := by omega
  have hy' : (y : Int) < n := by omega
  go_enter Try.func4, Try.ntmps4
  go_wp2_with (first
    | (go_at_call 8; refine (awake_any _).mono ?_; rintro e w1 ⟨rfl, hb1⟩)
    | (go_at_call 9; refine (build_any n _ l _ (HP.out.below hb1) (by omega) (by omega)).mono ?_; rintro e w2 ⟨g, s, mb, rows, rfl, hB⟩; obtain ⟨c, ms, hcl, hG⟩ := hB.G)
    | (go_at_call 18; refine (path_any g s n x y c ms _ _ hG.G hx hy hsn (Nat.le_trans hcl (Nat.le_trans hl (by decide)))).mono ?_; rintro e w3 ⟨hb3, ⟨_, rfl⟩ | ⟨_, _, _, _, _, _, hr, _⟩⟩; rotate_left; exact absurd hr HNO.out)
    | (go_at_call 19; refine (far_any n x mb rows _ _ (hB.M.next hb3) hx (by omega)).mono ?_; rintro e w4 ⟨ob, out, rfl, hR, hfar⟩; have o1 : w4.cell? ⟨ob, y, none⟩ = some (.int .i64 (-1)) := (hR.o.row hy).trans (by rcases hfar y hy with ⟨_, h⟩ | ⟨d, _, h⟩; (simp only [intC, h]); (exact absurd h.1.reach HNO.out))))
  go_ret
  exact ⟨rfl, hb1.trans ((hG.bel.trans ((hb3.trans (hR.bel.mono hb3.size)).mono hG.bel.size)).mono hb1.size)⟩
end Go.Proofs.Yteaemnkllpfbgaa
