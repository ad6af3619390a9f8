/- A region that draws its order, within a round. -/
import Derived.Test.YteaemnkllpfbgaaA6
import Derived.StillTail
import Derived.StillTactics
namespace Go.Proofs.Yteaemnkllpfbgaa
open Go.RowKit Go.Shelf Go.Maps
set_option linter.unusedSimpArgs false
set_option linter.unusedVariables false

variable {P : Program} {ops : Array Oper} {Q : Exit → Act → World → Prop}

theorem wp_round {o : Oper} {l n : Nat} {a : Act} {w : World} {K : Act → World → Prop} (hnd : ∀ c, o.op ≠ .defer c) (h : o.wp P a w K Q) : o.wpIn (Fence.wide.inRound l) n P a w K Q := by
  refine ⟨fun _ _ => trivial, ?_⟩
  rw [Oper.semAt_eq _ _ _ hnd]
  unfold Oper.wp at h
  generalize (execOp a.eval o).run P w = r at h ⊢
  cases r with
  | ok x w' =>
    cases x with
    | enter f args => exact ⟨fun e => (by cases e), CallsIn.inRound l (callsIn_wide.2 h)⟩
    | row r args => exact ⟨fun e => (by cases e), fun c cs _ => let ⟨v, w'', r, s⟩ := h c cs; ⟨v, w'', r, stepsIn_wide.2 s⟩⟩
    | _ => first | exact h | exact h.elim
  | halt hh w' => cases hh <;> first | exact h | exact h.elim

def noDefer (ops : Array Oper) : Bool := ops.toList.all fun o => match o.op with | .defer _ => false | _ => true

theorem wpAny_round {md : Region.Mode} {l n : Nat} (hnd : noDefer ops = true) (hL : ¬ LetsOut Q) : ∀ fuel listed a w, wpAny P md ops Q fuel listed a w → wpAnyIn (Fence.wide.inRound l) n P md ops Q fuel listed a w := by
  intro fuel
  induction fuel with
  | zero => exact fun listed a w h => h
  | succ fuel ih =>
    rintro listed a w ⟨h1, h2⟩
    refine ⟨h1, fun i hi => ?_⟩
    have h3 := h2 i hi
    unfold wpOp at h3
    unfold wpOpIn
    split at h3
    · rename_i e
      rw [e]; exact ih _ _ _ h3
    · rename_i o e
      rw [e]
      simp only
      split at h3
      · rename_i hw
        rw [if_pos hw]
        rcases h3 with h3 | ⟨_, h3⟩
        · refine wp_round (fun c hc => ?_) (Oper.wp_mono (fun a w h => ih _ a w h) h3)
          have := List.all_eq_true.1 hnd o (by simpa using Array.mem_of_getElem? e)
          rw [hc] at this; cases this
        · exact (hL h3).elim
      · rename_i hw
        rw [if_neg hw]
        exact ⟨fun _ _ => trivial, ih _ _ _ h3⟩

theorem round_region {l n id : Nat} {a : Act} {w : World} (hm : P.follows .mixedOrders = true) (hnd : noDefer ops = true) (hL : ¬ LetsOut Q)
    (h : wpAny P .any ops Q ops.size (Array.replicate ops.size false) a { w with drawn := w.drawn + 1 }) : (Code.region id ops true).wpIn (Fence.wide.inRound l) n P Q a w :=
  wpIn_region_any hm (wpAny_round hnd hL _ _ _ _ h)

/-- All operations ahead of the n-th only read: one walk. -/
theorem any_tail {a : Act} {w : World} {l : List Oper} (n : Nat) (hB : Region.lexTailB .any l.toArray n = true)
    (h : wpStill P l.toArray w (fun a' => wpList P l.toArray Q (l.drop n) a' w) (l.take n) a) : wpAny P .any l.toArray Q l.toArray.size (Array.replicate l.toArray.size false) a w := by
  simp only [Region.lexTailB, Bool.and_eq_true, decide_eq_true_eq] at hB
  obtain ⟨⟨⟨⟨h1, hn⟩, h2⟩, h3⟩, h4⟩ := hB
  have hn' : n < l.length := by simpa using hn
  have hk : (l.take n).length = n := by simp; omega
  have hd : (l.drop n).length = l.toArray.size - n := by simp
  have inv : HeadInv .any l.toArray n (Array.replicate l.toArray.size false) :=
    ⟨by simp, fun j oj _ e => (by rw [getD_replicate_false] at e; cases e), fun t _ ht => getD_in (by simpa using ht) (getD_replicate_false _ _)⟩
  have H := wpAnyL_lex (md := .any) (g := l.toArray.size - n) h1 h2 h3 hn (l.take n) 0 _ a (fun j hj => by
    rw [hk] at hj
    simp [hj]) (by simpa using hk) inv (by rw [hk]; exact h4) h
  have R := wpAny_of_head (Q' := Q) (g := l.toArray.size - n) (fun listed a' hL => by
    have := wpAny_of_seq (md := .any) (Q' := Q) (l.drop n) n listed a' w (fun j => by simp [List.getElem?_drop]) (by rw [hd]; exact hL.1) hL.2
    rwa [hd] at this) _ _ _ H
  rwa [hk, show n + (l.toArray.size - n) = l.toArray.size by omega] at R
end Go.Proofs.Yteaemnkllpfbgaa
