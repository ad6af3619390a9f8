/- What GraphReaches counts (no walk here). -/
import Derived.Test.YteaemnkllpfbgaaA4
import Derived.Test.YteaemnkllpfbgaaK0
namespace Go.Proofs.Yteaemnkllpfbgaa
set_option linter.unusedSimpArgs false
set_option linter.unusedVariables false

/-- How many below j. -/
def cntTo (p : Nat → Bool) (j : Nat) : Nat := ((List.range j).filter p).length
theorem cntTo_zero (p : Nat → Bool) : cntTo p 0 = 0 := rfl
theorem cntTo_yes {p : Nat → Bool} {j : Nat} (h : p j = true) : cntTo p (j + 1) = cntTo p j + 1 := by
  simp [cntTo, List.range_succ, List.filter_append, h]
theorem cntTo_no {p : Nat → Bool} {j : Nat} (h : p j = false) : cntTo p (j + 1) = cntTo p j := by
  simp [cntTo, List.range_succ, List.filter_append, h]
theorem cntTo_le (p : Nat → Bool) (j : Nat) : cntTo p j ≤ j := by
  have := List.length_filter_le p (List.range j)
  simpa [cntTo] using this
theorem cntTo_get {p : Nat → Bool} {j n : Nat} (h : p j = true) (hj : j < n) : ((List.range n).filter p)[cntTo p j]? = some j := by
  obtain ⟨m, rfl⟩ : ∃ m, n = j + 1 + m := ⟨n - (j + 1), by omega⟩
  rw [List.range_add, List.filter_append, List.range_succ, List.filter_append]
  have e : List.filter p [j] = [j] := by simp [h]
  unfold cntTo
  rw [e, List.append_assoc, List.getElem?_append_right (Nat.le_refl _)]
  simp
theorem cntTo_lt {p : Nat → Bool} {j n : Nat} (h : p j = true) (hj : j < n) : cntTo p j < ((List.range n).filter p).length :=
  (List.getElem?_eq_some_iff.1 (cntTo_get h hj)).1

/-- The arrows from the first i things. -/
def tot (n : Nat) (S : Nat → Int → Bool) : Nat → Nat
  | 0 => 0
  | i + 1 => tot n S i + (sc n S i).length

def allP (n : Nat) (S : Nat → Int → Bool) (i : Nat) : List (Nat × Nat) := (List.range i).flatMap fun k => (sc n S k).map fun y => (k, y)
theorem allP_len (n : Nat) (S : Nat → Int → Bool) (i : Nat) : (allP n S i).length = tot n S i := by
  induction i with
  | zero => rfl
  | succ i ih =>
    have : allP n S (i + 1) = allP n S i ++ (sc n S i).map fun y => (i, y) := by simp [allP, List.range_succ, List.flatMap_append]
    rw [this, List.length_append, ih, List.length_map]; rfl
theorem mem_allP {n : Nat} {S : Nat → Int → Bool} {i : Nat} {p : Nat × Nat} : p ∈ allP n S i ↔ p.1 < i ∧ p.2 < n ∧ S p.1 p.2 = true := by
  simp only [allP, List.mem_flatMap, List.mem_range, List.mem_map, mem_sc]
  constructor
  · rintro ⟨k, hk, y, ⟨h1, h2⟩, rfl⟩; exact ⟨hk, h1, h2⟩
  · rintro ⟨h1, h2, h3⟩; exact ⟨p.1, h1, p.2, ⟨h2, h3⟩, rfl⟩
theorem sc_nodup (n : Nat) (S : Nat → Int → Bool) (k : Nat) : (sc n S k).Nodup := List.Nodup.sublist List.filter_sublist List.nodup_range
theorem allP_nodup (n : Nat) (S : Nat → Int → Bool) (i : Nat) : (allP n S i).Nodup := by
  induction i with
  | zero => simp [allP]
  | succ i ih =>
    have : allP n S (i + 1) = allP n S i ++ (sc n S i).map fun y => (i, y) := by simp [allP, List.range_succ, List.flatMap_append]
    rw [this, List.nodup_append]
    refine ⟨ih, ?_, ?_⟩
    · exact List.pairwise_map.2 ((sc_nodup n S i).imp (fun hab e => hab (by simpa using e)))
    · intro a ha b hb e
      subst e
      obtain ⟨y, _, rfl⟩ := List.mem_map.1 hb
      have := (mem_allP.1 ha).1
      simp at this
theorem AllA.len {n : Nat} {S : Nat → Int → Bool} {ys : List (Arw n S)} (h : AllA n S ys) : ys.length = tot n S n := by
  rw [← allP_len, ← List.length_map (f := Subtype.val)]
  refine List.Perm.length_eq ((List.perm_ext_iff_of_nodup h.1 (allP_nodup n S n)).2 fun p => ?_)
  rw [mem_allP]
  constructor
  · intro hp
    obtain ⟨x, _, rfl⟩ := List.mem_map.1 hp
    exact x.2
  · rintro ⟨h1, h2, h3⟩
    exact h.2 p.1 p.2 h1 h2 h3

/-- Is i the first of its knot, as far as j? -/
def firstB (num : Nat → Nat) (i j : Nat) : Bool := (List.range j).all fun y => decide (i ≤ y) || num i != num y
theorem firstB_succ (num : Nat → Nat) (i j : Nat) : firstB num i (j + 1) = (firstB num i j && (decide (i ≤ j) || num i != num j)) := by
  simp [firstB, List.range_succ, List.all_append]
theorem firstB_iff (kn : Nat → Nat) (n i : Nat) (hi : i < n) : firstB (fun i => (firsts kn n).idxOf (kn i)) i n = true ↔ kn i ∉ firsts kn i := by
  simp only [firstB, List.all_eq_true, List.mem_range, Bool.or_eq_true, decide_eq_true_eq, bne_iff_ne, mem_firsts]
  constructor
  · rintro h ⟨y, hy, e⟩
    rcases h y (by omega) with h1 | h1
    · omega
    · exact h1 (by rw [e])
  · intro h y hy
    by_cases e : i ≤ y
    · exact .inl e
    · right
      intro e2
      exact h ⟨y, by omega, (idxOf_inj (mem_firsts.2 ⟨i, hi, rfl⟩) e2).symm⟩
theorem first_num {kn : Nat → Nat} {n i : Nat} (hi : i < n) (h : kn i ∉ firsts kn i) : (firsts kn n).idxOf (kn i) = (firsts kn i).length ∧ (firsts kn (i + 1)).length = (firsts kn i).length + 1 := by
  have e : firsts kn (i + 1) = firsts kn i ++ [kn i] := by simp only [firsts]; rw [if_neg h]
  refine ⟨?_, by rw [e]; simp⟩
  rw [firsts_idx (k := i + 1) (mem_firsts.2 ⟨i, by omega, rfl⟩) (by omega), e, List.idxOf_append, if_neg h]
  simp
theorem notfirst_num {kn : Nat → Nat} {i : Nat} (h : kn i ∈ firsts kn i) : (firsts kn (i + 1)).length = (firsts kn i).length := by
  have e : firsts kn (i + 1) = firsts kn i := by simp only [firsts]; rw [if_pos h]
  rw [e]
end Go.Proofs.Yteaemnkllpfbgaa
