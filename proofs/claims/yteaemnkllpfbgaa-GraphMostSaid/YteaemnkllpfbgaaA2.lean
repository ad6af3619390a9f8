/- The iterator over a graph's arrows. -/
import Derived.Test.YteaemnkllpfbgaaA1
import Derived.Sort.MapsRangeIn
import Derived.RegionIn
namespace Go.Proofs.Yteaemnkllpfbgaa
open Go.RowKit Go.Shelf Go.Maps
set_option linter.unusedSimpArgs false
set_option linter.unusedVariables false

/-- An arrow. -/
abbrev Arw (n : Nat) (S : Nat → Int → Bool) := { p : Nat × Nat // p.1 < n ∧ p.2 < n ∧ S p.1 p.2 = true }
def Arw.enc {n : Nat} {S : Nat → Int → Bool} (p : Arw n S) : Array Value := #[.int .i64 (p.1.1 : Int), .int .i64 (p.1.2 : Int)]

/-- What a round keeps: what lay below n₀, and the walks at or beyond B. -/
structure KpG (n₀ B : Nat) (W W' : World) : Prop where
  bel : Below n₀ W W'
  walk : ∀ b o, B ≤ b → W.heap[b]? = some o → o.isWalk = true → W'.heap[b]? = some o

theorem KpG.trans {n₀ B : Nat} {a b c : World} (h : KpG n₀ B a b) (k : KpG n₀ B b c) : KpG n₀ B a c :=
  ⟨h.bel.trans k.bel, fun i o hi ho hw => k.walk i o hi (h.walk i o hi ho hw) hw⟩
theorem KpG.put {n₀ B : Nat} {w : World} (hn : n₀ ≤ w.heap.size) (W : World) (l : Nat) (o o' : Obj) (hl : w.heap.size ≤ l) (h : W.heap[l]? = some o) (hc : o.isCells = false) (hw : o.isWalk = false) : KpG n₀ B W (W.putObj l o') :=
  ⟨belowK_b hn W l o o' hl h hc hw, fun b x hb hx hx2 => by
    by_cases e : b = l
    · subst e; rw [h] at hx; cases hx; rw [hw] at hx2; cases hx2
    · rw [World.putObj_heap_other e]; exact hx⟩

/-- What has come so far: rows below i whole, of row i what is no more left. -/
structure Came2 (n : Nat) (S : Nat → Int → Bool) (pre : List (Arw n S)) (i : Nat) (left : Nat → Bool) : Prop where
  nd : (pre.map Subtype.val).Nodup
  low : ∀ p, p ∈ pre.map Subtype.val → p.1 ≤ i
  cur : ∀ y, y < n → S i y = true → ((i, y) ∈ pre.map Subtype.val ↔ left y = false)
  done : ∀ k y, k < i → k < n → y < n → S k y = true → (k, y) ∈ pre.map Subtype.val

/-- All have come. -/
def AllA (n : Nat) (S : Nat → Int → Bool) (xs : List (Arw n S)) : Prop := (xs.map Subtype.val).Nodup ∧ ∀ k y, k < n → y < n → S k y = true → (k, y) ∈ xs.map Subtype.val

section
variable {n : Nat} {S : Nat → Int → Bool} {pre : List (Arw n S)} {i : Nat} {left : Nat → Bool}
theorem Came2.start : Came2 n S [] 0 (fun y => S 0 y) where
  nd := by simp
  low := by simp
  cur := fun y _ h => by simp [h]
  done := fun k y h => by omega
theorem Came2.next (h : Came2 n S pre i left) (hl : ∀ y, y < n → S i y = true → left y = false) : Came2 n S pre (i + 1) (fun y => S (i + 1) y) where
  nd := h.nd
  low := fun p hp => by have := h.low p hp; omega
  cur := fun y _ hs => by
    constructor
    · intro hm; have := h.low _ hm; simp at this; omega
    · intro e; rw [hs] at e; cases e
  done := fun k y hk hkn hy hs => by
    by_cases e : k = i
    · subst e; exact (h.cur y hy hs).2 (hl y hy hs)
    · exact h.done k y (by omega) hkn hy hs
theorem Came2.step (h : Came2 n S pre i left) {y : Nat} (hi : i < n) (hy : y < n) (hs : S i y = true) (hl : left y = true) {left' : Nat → Bool} (hl' : ∀ z, left' z = (left z && !decide (z = y))) :
    Came2 n S (pre ++ [⟨(i, y), hi, hy, hs⟩]) i left' where
  nd := by
    rw [List.map_append, List.map_singleton, List.nodup_append]
    refine ⟨h.nd, by simp, fun a ha b hb e => ?_⟩
    obtain rfl : b = (i, y) := by simpa using hb
    subst e
    rw [(h.cur y hy hs).1 ha] at hl; cases hl
  low := fun p hp => by
    rw [List.map_append, List.mem_append] at hp
    rcases hp with hp | hp
    · exact h.low p hp
    · obtain rfl : p = (i, y) := by simpa using hp
      exact Nat.le_refl _
  cur := fun z hz hsz => by
    rw [List.map_append, List.mem_append, h.cur z hz hsz, hl']
    by_cases e : z = y
    · subst e; simp
    · simp [e]
  done := fun k z hk hkn hz hsz => by
    rw [List.map_append, List.mem_append]
    exact .inl (h.done k z hk hkn hz hsz)
theorem Came2.all (h : Came2 n S pre i left) (hi : n ≤ i) : AllA n S pre := ⟨h.nd, fun k y hk hy hs => h.done k y (by omega) hk hy hs⟩
end
end Go.Proofs.Yteaemnkllpfbgaa
