/- awake: the document's example. -/
import Derived.Test.YteaemnkllpfbgaaH1
namespace Go.Proofs.Yteaemnkllpfbgaa
open Go.RowKit Go.Maps
open Cal (upd upd_same upd_ne St Inv upd_self)
set_option linter.unusedSimpArgs false
set_option linter.unusedVariables false

/-- A graph that was made behind w. -/
structure GW (w wr : World) (g s n c : Nat) (ms : Nat → Option Nat) (S : Nat → Int → Bool) : Prop where
  G : IsG wr g s n ms c S
  g0 : w.heap.size ≤ g
  f0 : ∀ b, foot s n ms b → w.heap.size ≤ b
  bel : Below w.heap.size w wr

theorem GW.fr {M : Nat → Prop} {w wr w' : World} {g s n c : Nat} {ms : Nat → Option Nat} {S : Nat → Int → Bool} (h : GW w wr g s n c ms S) (hf : Fr M wr w') (hM : ∀ b, M b → w.heap.size ≤ b) (hg : ¬ M g) (hN : ∀ b, M b → ¬ foot s n ms b) : GW w w' g s n c ms S :=
  ⟨h.G.fr hf hg hN, h.g0, h.f0, h.bel.trans (hf.below _ hM h.bel.size)⟩
theorem GW.lt {w wr : World} {g s n c : Nat} {ms : Nat → Option Nat} {S : Nat → Int → Bool} (h : GW w wr g s n c ms S) : g < wr.heap.size := h.G.gb.lt
/-- Behind a call that turned nothing old. -/
theorem GW.next {w wr w' : World} {g s n c : Nat} {ms : Nat → Option Nat} {S : Nat → Int → Bool} (h : GW w wr g s n c ms S) (hb : Below wr.heap.size wr w') : GW w w' g s n c ms S :=
  h.fr (Fr.of_below hb) (fun b e => e.elim) (fun e => e) (fun b e => e.elim)

theorem newW (n : Nat) (w wr : World) (hn : n ≤ 1048576) (hb : Below w.heap.size w wr) :
    Calls Try.prog 22 #[.int .i64 n] wr fun e w' => ∃ g s, e = .returned (.tuple #[.pointer (some ⟨g, 0, none⟩), .int .i64 0]) ∧ GW w w' g s n 0 (fun _ => none) (fun _ _ => false) ∧ Below wr.heap.size wr w' ∧ wr.heap.size ≤ g ∧ wr.heap.size ≤ s := by
  refine (newG_any n wr hn).mono ?_
  rintro e w1 ⟨g, s, rfl, hG, hg, hs, hF⟩
  have := hb.size
  refine ⟨g, s, rfl, ⟨hG, by omega, ?_, hb.trans (hF.below _ (fun i e => e.elim) this)⟩, hF.below _ (fun i e => e.elim) (Nat.le_refl _), hg, hs⟩
  rintro b (rfl | ⟨k, hk, e⟩)
  · omega
  · simp at e
theorem arrowW (w wr : World) (g s n a b c : Nat) (ms : Nat → Option Nat) (S : Nat → Int → Bool) (h : GW w wr g s n c ms S) (ha : a < n) (hb : b < n) (hn : Small n) (hc : Small c) :
    Calls Try.prog 23 #[.pointer (some ⟨g, 0, none⟩), .int .i64 a, .int .i64 b] wr fun e w' => e = .returned (.int .i64 0) ∧
      ∃ ms', GW w w' g s n (c + 1) ms' (addS S a b) ∧ Fr (foot s n ms) wr w' := by
  refine (arrow_any g s n a b c ms S wr h.G ha hb hn hc).mono ?_
  rintro e w1 ⟨rfl, ms', hG, hF, hL⟩
  refine ⟨rfl, ms', ⟨hG, h.g0, fun b hb => ?_, h.bel.trans (hF.below _ h.f0 h.bel.size)⟩, hF⟩
  by_cases e : b < wr.heap.size
  · exact h.f0 b (hL.foot b e hb)
  · have := h.bel.size; omega

/-- The example's arrows. -/
def exS : Nat → Int → Bool := addS (addS (addS (fun _ _ => false) 0 (1 : Nat)) 1 (0 : Nat)) 1 (2 : Nat)
theorem ex0 : sc 3 exS 0 = [1] := by decide
theorem ex1 : sc 3 exS 1 = [0, 2] := by decide
theorem ex2 : sc 3 exS 2 = [] := by decide
theorem ex01 : Cal.Reach (sc 3 exS) 0 1 := .one (by rw [ex0]; simp)
theorem ex10 : Cal.Reach (sc 3 exS) 1 0 := .one (by rw [ex1]; simp)
theorem ex2no {y : Nat} (h : Cal.Reach (sc 3 exS) 2 y) : y = 2 := by
  refine h.closed (P := fun z => z = 2) (fun a b e hb => ?_) rfl
  rw [e, ex2] at hb
  simp at hb

theorem ex_firsts (kn : Nat → Nat) (h : ∀ u v, u < 3 → v < 3 → (kn u = kn v ↔ Cal.Reach (sc 3 exS) u v ∧ Cal.Reach (sc 3 exS) v u)) :
    (firsts kn 3).length = 2 ∧ (firsts kn 3).idxOf (kn 0) = 0 ∧ (firsts kn 3).idxOf (kn 1) = 0 ∧ (firsts kn 3).idxOf (kn 2) = 1 := by
  have h01 : kn 1 = kn 0 := (h 1 0 (by omega) (by omega)).2 ⟨ex10, ex01⟩
  have h02 : kn 2 ≠ kn 0 := fun e => by
    have hh := ex2no ((h 2 0 (by omega) (by omega)).1 e).1
    omega
  have e : firsts kn 3 = [kn 0, kn 2] := by simp [firsts, h01, h02]
  rw [e, h01]
  have h02' : (kn 0 == kn 2) = false := by simpa using Ne.symm h02
  refine ⟨rfl, ?_, ?_, ?_⟩ <;> simp [List.idxOf_cons, h02, h02']

theorem knots_ex (w w4 : World) (g s : Nat) (ms : Nat → Option Nat) (h : GW w w4 g s 3 3 ms exS) : Calls Try.prog 12 #[.pointer (some ⟨g, 0, none⟩)] w4 fun e w' => ∃ ob, e = .returned (.tuple #[.slice (some ⟨ob, 0, none⟩) 3 3, .int .i64 2]) ∧
    w'.cell? ⟨ob, 0, none⟩ = some (.int .i64 0) ∧ w'.cell? ⟨ob, 1, none⟩ = some (.int .i64 0) ∧ w'.cell? ⟨ob, 2, none⟩ = some (.int .i64 1) ∧ GW w w' g s 3 3 ms exS := by
  have hsm : Small 3 := by unfold Small; omega
  refine (knots_any g s 3 3 ms exS _ h.G (by omega) hsm hsm).mono ?_
  rintro e w5 ⟨ob, kn, rfl, hob, hobge, hbel, hkn⟩
  obtain ⟨e1, e2, e3, e4⟩ := ex_firsts kn hkn
  refine ⟨ob, by rw [e1]; rfl, ?_, ?_, ?_, h.next hbel⟩
  · rw [hob.row (i := 0) (by omega)]; simp only [natC, e2]; rfl
  · rw [hob.row (i := 1) (by omega)]; simp only [natC, e3]; rfl
  · rw [hob.row (i := 2) (by omega)]; simp only [natC, e4]; rfl
theorem ring_ex0 (w w4 : World) (g s : Nat) (ms : Nat → Option Nat) (h : GW w w4 g s 3 3 ms exS) : Calls Try.prog 15 #[.pointer (some ⟨g, 0, none⟩), .int .i64 0] w4 fun e w' => e = .returned (.bool true) ∧ GW w w' g s 3 3 ms exS := by
  have hsm : Small 3 := by unfold Small; omega
  refine (ring_any g s 3 0 3 ms exS _ h.G (by omega) hsm hsm).mono ?_
  rintro e w6 ⟨R, rfl, hR, hb6⟩
  obtain rfl : R = true := hR.2 ⟨1, by rw [ex0]; simp, ex10⟩
  exact ⟨rfl, h.next hb6⟩
theorem ring_ex2 (w w4 : World) (g s : Nat) (ms : Nat → Option Nat) (h : GW w w4 g s 3 3 ms exS) : Calls Try.prog 15 #[.pointer (some ⟨g, 0, none⟩), .int .i64 2] w4 fun e w' => e = .returned (.bool false) ∧ GW w w' g s 3 3 ms exS := by
  have hsm : Small 3 := by unfold Small; omega
  refine (ring_any g s 3 2 3 ms exS _ h.G (by omega) hsm hsm).mono ?_
  rintro e w6 ⟨R, rfl, hR, hb6⟩
  obtain rfl : R = false := by
    cases R with
    | false => rfl
    | true => obtain ⟨y, hy, _⟩ := hR.1 rfl; rw [ex2] at hy; simp at hy
  exact ⟨rfl, h.next hb6⟩

set_option maxRecDepth 100000 in
set_option maxHeartbeats 4000000 in
theorem awake_any (w : World) : Calls Try.prog 8 #[] w fun e w' => e = .returned (.bool true) ∧ Below w.heap.size w w' := by
  have hsm : ∀ m : Nat, m ≤ 10 → Small m := fun m h => by unfold Small; omega
  go_enter Try.func8, Try.ntmps8
  go_wp2_with (first
    | (go_at_call 22; refine (newW 3 w _ (by omega) (Below.refl _ w)).mono ?_; rintro e w1 ⟨g, s, rfl, hG0, hb0, hg0, hs0⟩)
    | (go_at_call 23; first
        | (refine (arrowW w _ g s 3 0 1 _ _ _ hG0 (by omega) (by omega) (hsm _ (by omega)) (hsm _ (by omega))).mono ?_; rintro e w2 ⟨rfl, ms2, hG1, hF2⟩; clear hG0)
        | (refine (arrowW w _ g s 3 1 0 _ _ _ hG1 (by omega) (by omega) (hsm _ (by omega)) (hsm _ (by omega))).mono ?_; rintro e w3 ⟨rfl, ms3, hG2, hF3⟩; clear hG1)
        | (refine (arrowW w _ g s 3 1 2 _ _ _ hG2 (by omega) (by omega) (hsm _ (by omega)) (hsm _ (by omega))).mono ?_; rintro e w4 ⟨rfl, ms4, hG3', hF4⟩; clear hG2; have hG3 : GW w w4 g s 3 3 ms4 exS := hG3'; clear hG3'))
    | (go_at_call 12; refine (knots_ex w _ g s ms4 hG3).mono ?_; rintro e w5 ⟨ob, rfl, k0, k1, k2, hG4⟩)
    | (go_at_call 15; first
        | (refine (ring_ex0 w _ g s ms4 hG4).mono ?_; rintro e w6 ⟨rfl, hG5⟩; clear hG4)
        | (refine (ring_ex2 w _ g s ms4 hG5).mono ?_; rintro e w7 ⟨rfl, hG6⟩; clear hG5))
    | go_in)
  go_ret
  exact ⟨rfl, hG6.bel⟩
end Go.Proofs.Yteaemnkllpfbgaa
