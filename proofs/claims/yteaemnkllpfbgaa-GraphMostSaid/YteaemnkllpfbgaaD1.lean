/- A region that draws its order, by an invariant: each operation is carried out once. -/
import Derived.Test.YteaemnkllpfbgaaG0
import Derived.RegionTactic
namespace Go.Proofs.Yteaemnkllpfbgaa
set_option linter.unusedSimpArgs false
set_option linter.unusedVariables false

/-- A slot that is set, if its operation has been carried out. -/
def sel (b : Bool) (v : Value) : Value := if b then v else undef
theorem sel_true (v : Value) : sel true v = v := rfl

def left (L : Array Bool) : Nat := (L.toList.filter (fun b => !b)).length

theorem left_set {L : Array Bool} {i : Nat} (hi : i < L.size) (h : L.getD i true = false) : left (L.setIfInBounds i true) + 1 = left L := by
  obtain ⟨l⟩ := L
  simp only [left, List.setIfInBounds_toArray] at *
  simp only [List.size_toArray] at hi
  have h' : l[i]? = some false := by
    have e : l[i]? = some l[i] := List.getElem?_eq_getElem hi
    rw [e]
    simp [Array.getD, hi] at h
    rw [h]
  clear h
  induction l generalizing i with
  | nil => simp at hi
  | cons b l ih =>
    cases i with
    | zero =>
      simp at h'
      subst h'
      simp
    | succ i =>
      have := ih (i := i) (by simpa using hi) (by simpa using h')
      simp only [List.set_cons_succ, List.filter_cons]
      split <;> simp_all

theorem wpAny_inv {P : Program} {md : Region.Mode} {ops : Array Oper} {Q : Exit → Act → World → Prop} (I : Array Bool → Act → World → Prop)
    (hsz : ∀ L a w, I L a w → L.size = ops.size)
    (hstep : ∀ L a w i, I L a w → i ∈ Region.ready md ops L → wpOp P ops Q i (I (L.setIfInBounds i true)) a w)
    (hend : ∀ L a w, I L a w → Region.ready md ops L = [] → Q .normal a w) :
    ∀ fuel L a w, left L ≤ fuel → I L a w → wpAny P md ops Q fuel L a w := by
  have hready : ∀ L i, i ∈ Region.ready md ops L → i < ops.size ∧ L.getD i true = false := by
    intro L i hi
    simp only [Region.ready, List.mem_filter, List.mem_range, Bool.and_eq_true, Bool.not_eq_true'] at hi
    exact ⟨hi.1, hi.2.1⟩
  intro fuel
  induction fuel with
  | zero =>
    intro L a w hl hI
    have hr : Region.ready md ops L = [] := by
      apply List.eq_nil_iff_forall_not_mem.2
      intro i hi
      obtain ⟨h1, h2⟩ := hready L i hi
      have := left_set (by rw [hsz L a w hI]; exact h1) h2
      omega
    exact ⟨hr, hend L a w hI hr⟩
  | succ fuel ih =>
    intro L a w hl hI
    refine ⟨hend L a w hI, fun i hi => ?_⟩
    obtain ⟨h1, h2⟩ := hready L i hi
    have h3 := left_set (by rw [hsz L a w hI]; exact h1) h2
    exact wpOp_mono (fun a' w' h => ih _ a' w' (by omega) h) (hstep L a w i hI hi)
end Go.Proofs.Yteaemnkllpfbgaa
