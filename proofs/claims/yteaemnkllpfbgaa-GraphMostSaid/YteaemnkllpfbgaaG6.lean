/- From over the graph's relation. -/
import Derived.Test.YteaemnkllpfbgaaG4
namespace Go.Proofs.Yteaemnkllpfbgaa
open Go.RowKit Go.Maps Go.Sort Go.Shelf
open Cal (upd upd_same upd_ne)
set_option linter.unusedSimpArgs false
set_option linter.unusedVariables false

/-- Where arrows lead, rising. -/
def sc (n : Nat) (S : Nat → Int → Bool) (k : Nat) : List Nat := (List.range n).filter fun j => S k j
theorem mem_sc {n : Nat} {S : Nat → Int → Bool} {k j : Nat} : j ∈ sc n S k ↔ j < n ∧ S k j = true := by simp [sc]
theorem sc_le (n : Nat) (S : Nat → Int → Bool) (k : Nat) : (sc n S k).length ≤ n := by
  have := List.length_filter_le (fun j : Nat => S k j) (List.range n)
  simpa [sc] using this

/-- Numbers as cells. -/
def cellsN (l : List Nat) : List Value := l.map fun (j : Nat) => .int .i64 (j : Int)
theorem cellsN_length (l : List Nat) : (cellsN l).length = l.length := by simp [cellsN]

theorem sorted_keys (n k r c : Nat) (S : Nat → Int → Bool) (w : World) (D : DataW Unit) (hown : w.ownsMap Try.prog 3 (plainElem Try.prog 4) r c D) (hk : ∀ j : Int, Maps.has D (.int .i64 j) = S k j)
    (hr : ∀ j : Int, S k j = true → 0 ≤ j ∧ j < n) (ss : List Int) (hp : ss.Perm (intKeys D)) :
    ss.mergeSort (fun x y => decide (x ≤ y)) = (sc n S k).map fun (j : Nat) => (j : Int) := by
  have hsorted : ((sc n S k).map fun (j : Nat) => (j : Int)).Pairwise (fun a b => a < b) := by
    refine List.pairwise_map.2 ?_
    have : (sc n S k).Pairwise (· < ·) := List.Pairwise.filter _ List.pairwise_lt_range
    exact this.imp (fun h => by omega)
  have hC : CollectedI D (fun _ => false) ((sc n S k).map fun (j : Nat) => (j : Int)) := by
    refine ⟨hsorted.imp (fun h => by omega), fun x => ?_⟩
    simp only [List.mem_map, mem_sc, hk, and_true]
    constructor
    · rintro ⟨j, ⟨_, h⟩, rfl⟩; exact h
    · intro h
      obtain ⟨h0, h1⟩ := hr x h
      exact ⟨x.toNat, ⟨by omega, by rw [show ((x.toNat : Nat) : Int) = x by omega]; exact h⟩, by omega⟩
  have hp2 := hC.perm hown (Maps.int_keyed Try.underlying3) Try.underlying3 (fun _ => rfl)
  have e1 : ss.mergeSort leI = ((sc n S k).map fun (j : Nat) => (j : Int)).mergeSort leI := mergeSort_of_perm_i (hp.trans hp2.symm)
  refine e1.trans (List.mergeSort_of_pairwise (hsorted.imp (fun h => by simp [leI]; omega)))

theorem from_nil (g s n k : Nat) (w : World) (hg : w.cell? ⟨g, 0, none⟩ = some (.slice (some ⟨s, 0, none⟩) n n)) (hk : k < n) (hs : w.cell? ⟨s, k, none⟩ = some (.map none)) :
    Calls Try.prog 13 #[.pointer (some ⟨g, 0, none⟩), .int .i64 k] w fun e w' => e = .returned (.slice none 0 0) ∧ Below w.heap.size w w' := by
  have h1 : inRange k n = true := inRange_true (by omega) (by omega)
  have hk' : (k : Int) < n := by omega
  refine (callsIn_wide (n := 6)).1 ?_
  have hseq : SeqGives Fence.wide 2 Try.prog 38 #[.pointer (some ⟨w.heap.size, 0, none⟩)] encZ (fun ss : List Int => ss = []) 0 (w.alloc (.cells #[.map none] 67)) :=
    AnyZI.keys_gives_nil (ρ := Try.keysA_ren) { Try.keysA with } Fence.wide _ trivial rfl w.heap.size _ (by simp) (by simp)
  have cK : ∀ mb W, CallsIn Fence.wide 5 Try.prog 28 #[.map mb] W fun e w' => e = .returned (.func (.func 38) #[] #[.pointer (some ⟨W.heap.size, 0, none⟩)]) ∧ w' = W.alloc (.cells #[.map mb] 67) := fun mb W => AnyZI.keys_in Try.keysA Fence.wide 5 trivial rfl mb W
  have cS := AnyZI.sorted_in Try.sortedA Fence.wide 5 trivial trivial trivial trivial rfl (by omega) (Try.sortsA _) (enters_of Try.func37 (by kernel_rfl) rfl) 38 #[.pointer (some ⟨w.heap.size, 0, none⟩)] trivial (enters_of Try.func38 (by kernel_rfl) rfl) _ 0 (Nat.zero_le _) (by omega) _ hseq
  change CallsIn _ _ Try.prog 27 _ _ _ at cS
  have cH := callsIn_wide (n := 5).2 (has_any g s n k w hg)
  rw [h1] at cH
  have hfK : Fence.wide.fn 28 := trivial
  have hfS : Fence.wide.fn 27 := trivial
  have hfH : Fence.wide.fn 26 := trivial
  refine callsIn_of_wp Try.func13 rfl trivial ?_ rfl
  simp only [Try.ntmps13, List.size_toArray, List.length_cons, List.length_nil, Nat.reduceAdd, Nat.reduceSub, Array.replicate_succ, Array.replicate_zero, List.push_toArray, List.append_toArray, List.nil_append, List.cons_append]
  gi_wp2_with (first
    | (gi_at_call 26; refine cH.mono ?_; rintro e w' ⟨rfl, rfl⟩)
    | (gi_at_call 28; refine (cK _ _).mono ?_; rintro e w' ⟨rfl, rfl⟩)
    | (gi_at_call 27; refine cS.mono ?_; rintro e w' ⟨v, ss, rfl, rfl, hrow, hnil, hb⟩; obtain rfl : v = .slice none 0 0 := hnil.2 rfl))
  go_ret
  exact ⟨rfl, ((Below.refl _ w).alloc (Nat.le_refl _) _).trans (hb.mono (by simp))⟩

/-- From(k): where arrows lead, rising, in new memory. -/
theorem from_any (g s n k c : Nat) (ms : Nat → Option Nat) (S : Nat → Int → Bool) (w : World) (h : IsG w g s n ms c S) (hk : k < n) (hc : Small c) :
    Calls Try.prog 13 #[.pointer (some ⟨g, 0, none⟩), .int .i64 k] w fun e w' => ∃ v, e = .returned v ∧
      w'.ownsRow w.heap.size 3 1 v (sc n S k).length (cellsN (sc n S k)) ∧ Below w.heap.size w w' := by
  have hcell := h.sb.row hk
  cases hm : ms k with
  | some r =>
    rw [hm] at hcell
    obtain ⟨D, ho, hD⟩ := h.some_ k hk r hm
    refine (from_some g s n k r c w D h.cell hk hcell ho hc).mono ?_
    rintro e w1 ⟨v, ss, rfl, hp, hrow, hnil, hb⟩
    have := sorted_keys n k r c S w D ho hD (fun j => h.range k j hk) ss hp
    have hl : ss.length = (sc n S k).length := by
      have := congrArg List.length this
      simpa using this
    rw [this, hl] at hrow
    refine ⟨v, rfl, ?_, hb⟩
    rwa [List.map_map] at hrow
  | none =>
    rw [hm] at hcell
    refine (from_nil g s n k w h.cell hk hcell).mono ?_
    rintro e w1 ⟨rfl, hb⟩
    have : sc n S k = [] := by
      apply List.eq_nil_iff_forall_not_mem.2
      intro j hj
      have := (mem_sc.1 hj).2
      rw [h.none_ k hk hm] at this; simp at this
    rw [this]
    exact ⟨_, rfl, ⟨by simp [cellsN], .inl ⟨rfl, rfl⟩⟩, hb⟩

theorem from_out (g s n : Nat) (k : Int) (w : World) (hg : w.cell? ⟨g, 0, none⟩ = some (.slice (some ⟨s, 0, none⟩) n n)) (h1 : inRange k n = false) :
    Calls Try.prog 13 #[.pointer (some ⟨g, 0, none⟩), .int .i64 k] w fun e w' => e = .returned (.slice none 0 0) ∧ w = w' := by
  go_enter Try.func13, Try.ntmps13
  go_wp2_with (go_at_call 26; refine (has_any _ _ _ _ _ hg).mono ?_; rintro e w' ⟨rfl, rfl⟩; simp only [h1])
  go_ret
  exact ⟨rfl, rfl⟩

theorem has_nil (k : Int) (w : World) :
    Calls Try.prog 26 #[.pointer none, .int .i64 k] w fun e w' => e = .returned (.bool false) ∧ w = w' := by
  by_cases h : 0 ≤ k
  · go_enter Try.func26, Try.ntmps26
    go_wp2_with (go_at_call 10; refine (len_nil _).mono ?_; rintro e w' ⟨rfl, rfl⟩)
    go_ret
    exact ⟨by simp; omega, rfl⟩
  · go_enter Try.func26, Try.ntmps26
    go_wp2
    go_ret
    exact ⟨by simp, rfl⟩

theorem from_none (k : Int) (w : World) :
    Calls Try.prog 13 #[.pointer none, .int .i64 k] w fun e w' => e = .returned (.slice none 0 0) ∧ w = w' := by
  go_enter Try.func13, Try.ntmps13
  go_wp2_with (go_at_call 26; refine (has_nil _ _).mono ?_; rintro e w' ⟨rfl, rfl⟩)
  go_ret
  exact ⟨rfl, rfl⟩
end Go.Proofs.Yteaemnkllpfbgaa
