/- The graph in memory as a relation; New and Arrow over it. -/
import Derived.Test.YteaemnkllpfbgaaG2
namespace Go.Proofs.Yteaemnkllpfbgaa
open Go.RowKit
open Cal (upd upd_same upd_ne)
set_option linter.unusedSimpArgs false
set_option linter.unusedVariables false

/-- In w the graph at block g has n things; its row of maps lies at block s; `ms k`: the map of thing k; `S k j`: does an arrow lead from k to j? No map has more than c entries. -/
structure IsG (w : World) (g s n : Nat) (ms : Nat → Option Nat) (c : Nat) (S : Nat → Int → Bool) : Prop where
  gb : Blk w g #[.slice (some ⟨s, 0, none⟩) n n] 56
  sb : Blk w s (rowA n fun k => .map (ms k)) 67
  some_ : ∀ k, k < n → ∀ r, ms k = some r → MapIs w r c (S k)
  none_ : ∀ k, k < n → ms k = none → ∀ j, S k j = false
  inj : ∀ k k' r, k < n → k' < n → ms k = some r → ms k' = some r → k = k'
  range : ∀ k j, k < n → S k j = true → 0 ≤ j ∧ j < n

/-- The blocks that an arrow may turn. -/
def foot (s n : Nat) (ms : Nat → Option Nat) : Nat → Prop := fun b => b = s ∨ ∃ k, k < n ∧ ms k = some b

/-- What the graph's maps are behind a call: what they were, or new. -/
def Later (B n : Nat) (ms ms' : Nat → Option Nat) : Prop := ∀ k, k < n → ms' k = ms k ∨ ∃ r, ms' k = some r ∧ B ≤ r

theorem Later.refl (B n : Nat) (ms : Nat → Option Nat) : Later B n ms ms := fun k _ => .inl rfl
theorem Later.trans {B B' n : Nat} {a b c : Nat → Option Nat} (h : Later B n a b) (k : Later B' n b c) (hB : B ≤ B') : Later B n a c := by
  intro i hi
  rcases k i hi with e | ⟨r, e, hr⟩
  · rw [e]; exact h i hi
  · exact .inr ⟨r, e, by omega⟩
theorem Later.foot {B s n : Nat} {ms ms' : Nat → Option Nat} (h : Later B n ms ms') : ∀ b, b < B → foot s n ms' b → foot s n ms b := by
  intro b hb hf
  rcases hf with e | ⟨k, hk, e⟩
  · exact .inl e
  · rcases h k hk with e' | ⟨r, e', hr⟩
    · exact .inr ⟨k, hk, by rw [← e']; exact e⟩
    · rw [e'] at e
      simp at e; omega

theorem IsG.fr {M : Nat → Prop} {w w' : World} {g s n c : Nat} {ms : Nat → Option Nat} {S : Nat → Int → Bool} (h : IsG w g s n ms c S) (hf : Fr M w w') (hg : ¬ M g) (hM : ∀ b, M b → ¬ foot s n ms b) : IsG w' g s n ms c S where
  gb := hf.blk h.gb hg
  sb := hf.blk h.sb (fun hm => hM s hm (.inl rfl))
  some_ := fun k hk r e => (h.some_ k hk r e).fr hf (fun hm => hM r hm (.inr ⟨k, hk, e⟩))
  none_ := h.none_
  inj := h.inj
  range := h.range
theorem IsG.mono {w : World} {g s n c c' : Nat} {ms : Nat → Option Nat} {S : Nat → Int → Bool} (h : IsG w g s n ms c S) (hc : c ≤ c') : IsG w g s n ms c' S :=
  { h with some_ := fun k hk r e => (h.some_ k hk r e).mono hc }
theorem IsG.gs {w : World} {g s n c : Nat} {ms : Nat → Option Nat} {S : Nat → Int → Bool} (h : IsG w g s n ms c S) : g ≠ s := h.gb.ne h.sb (by decide)
theorem IsG.cell {w : World} {g s n c : Nat} {ms : Nat → Option Nat} {S : Nat → Int → Bool} (h : IsG w g s n ms c S) : w.cell? ⟨g, 0, none⟩ = some (.slice (some ⟨s, 0, none⟩) n n) := h.gb.cell 0
theorem IsG.footlt {w : World} {g s n c : Nat} {ms : Nat → Option Nat} {S : Nat → Int → Bool} (h : IsG w g s n ms c S) : ∀ b, foot s n ms b → b < w.heap.size := by
  rintro b (rfl | ⟨k, hk, e⟩)
  · exact h.sb.lt
  · exact (h.some_ k hk b e).lt
/-- A block of cells of another type than the maps' row is no part of what an arrow may turn. -/
theorem IsG.off {w : World} {g s n c : Nat} {ms : Nat → Option Nat} {S : Nat → Int → Bool} (h : IsG w g s n ms c S) {b : Nat} {cs : Array Value} {t : TypeId} (hb : Blk w b cs t) (ht : t ≠ 67) : ¬ foot s n ms b := by
  rintro (rfl | ⟨k, hk, e⟩)
  · exact hb.ne h.sb ht rfl
  · exact (h.some_ k hk b e).ne hb rfl
/-- .. and no map. -/
theorem IsG.below {w w' : World} {g s n c B : Nat} {ms : Nat → Option Nat} {S : Nat → Int → Bool} (h : IsG w g s n ms c S) (hb : Below B w w') (hg : g < B) (hf : ∀ b, foot s n ms b → b < B) : IsG w' g s n ms c S := by
  have hF : Fr (fun b => B ≤ b) w w' := ⟨hb.os, hb.tape, hb.output, hb.size, fun b _ hn => hb.block b (by omega)⟩
  exact h.fr hF (by omega) (fun b hB hf' => by have := hf b hf'; omega)

/-- The arrows with one more. -/
def addS (S : Nat → Int → Bool) (a : Nat) (b : Int) : Nat → Int → Bool := fun k j => if k = a ∧ j = b then true else S k j

theorem has_put (D : DataW Unit) (hD : Maps.IsMap D) (b k : Int) (u : DataW Unit) : Maps.has (D.put (.int .i64 b) u) (.int .i64 k) = if k = b then true else Maps.has D (.int .i64 k) := by
  by_cases e : k = b
  · subst e
    rw [if_pos rfl]
    exact Maps.has_put_same hD (k := .int .i64 k) (show WideAt.IsKeyLit (.int .i64 k) from trivial) u
  · rw [if_neg e]
    exact Maps.has_put_other (by simp [e]) u

theorem arrow_any (g s n a b c : Nat) (ms : Nat → Option Nat) (S : Nat → Int → Bool) (w : World) (h : IsG w g s n ms c S) (ha : a < n) (hb : b < n) (hn : Small n) (hc : Small c) :
    Calls Try.prog 23 #[.pointer (some ⟨g, 0, none⟩), .int .i64 a, .int .i64 b] w fun e w' => e = .returned (.int .i64 0) ∧
      ∃ ms', IsG w' g s n ms' (c + 1) (addS S a b) ∧ Fr (foot s n ms) w w' ∧ Later w.heap.size n ms ms' := by
  have hcell := h.sb.row ha
  have hgs := h.gs
  have hslt := h.sb.lt
  cases hm : ms a with
  | some r =>
    rw [hm] at hcell
    obtain ⟨D, ho, hk⟩ := h.some_ a ha r hm
    refine (arrow_old g s n a b w h.cell ha hb hn r c D hcell ho hc).mono ?_
    rintro e w1 ⟨rfl, ho1, hg1⟩
    have hF : Fr (fun k => k = r) w w1 := (Fr.of_grown hg1).mono (fun i _ e => by simpa using e)
    have hrs : r ≠ s := (h.some_ a ha r hm).ne h.sb
    have hrg : r ≠ g := (h.some_ a ha r hm).ne h.gb
    refine ⟨rfl, ms, ?_, hF.mono (fun i _ e => .inr ⟨a, ha, by rw [e]; exact hm⟩), Later.refl _ _ _⟩
    constructor
    · exact hF.blk h.gb (fun e => hrg e.symm)
    · exact hF.blk h.sb (fun e => hrs e.symm)
    · intro k hk' r' e
      by_cases eka : k = a
      · subst eka
        obtain rfl : r' = r := by rw [hm] at e; simpa using e.symm
        refine ⟨_, ho1, fun j => ?_⟩
        rw [has_put _ ho.isMap, hk]
        simp [addS]
      · have hr' : r' ≠ r := fun e2 => eka (h.inj k a r hk' ha (by rw [← e2]; exact e) hm)
        exact (((h.some_ k hk' r' e).fr hF hr').mono (Nat.le_succ c)).congr (fun j => by simp [addS, eka])
    · intro k hk' e j
      have eka : k ≠ a := fun e2 => by rw [e2, hm] at e; simp at e
      simp [addS, eka, h.none_ k hk' e j]
    · exact h.inj
    · intro k j hk' hj
      by_cases e : k = a ∧ j = b
      · omega
      · simp only [addS, if_neg e] at hj
        exact h.range k j hk' hj
  | none =>
    rw [hm] at hcell
    refine (arrow_new g s n a b w h.cell ha hb hn hgs hcell (h.sb.free a)).mono ?_
    rintro e w1 ⟨rfl, ho1, hg1⟩
    have hF : Fr (fun k => k = s) w w1 := by
      refine (((Fr.refl (fun k => k = s) w).set (p := ⟨s, a, none⟩) (fun _ => rfl) (.map (some w.heap.size))).alloc (.map #[] 0)).trans (Fr.of_grown hg1) (fun i hi e => ?_)
      have : i = w.heap.size := by simpa using e
      omega
    have hsb1 : Blk w1 s (rowA n (upd (fun k => Value.map (ms k)) a (.map (some w.heap.size)))) 67 := by
      have h1 := ((h.sb.setRow a (.map (some w.heap.size))).alloc (.map #[] 0))
      exact (Fr.of_grown hg1).blk h1 (by simp; omega)
    have hglt := h.gb.lt
    refine ⟨rfl, upd ms a (some w.heap.size), ?_, hF.mono (fun i _ e => .inl e), ?_⟩
    · constructor
      · exact hF.blk h.gb hgs
      · refine Eq.trans hsb1 ?_
        congr 2
        refine rowA_congr fun k hk' => ?_
        simp only [upd]; split <;> rfl
      · intro k hk' r' e
        by_cases eka : k = a
        · subst eka
          obtain rfl : r' = w.heap.size := by simpa [upd] using e.symm
          refine ⟨_, ho1.mono (by omega), fun j => ?_⟩
          rw [has_put _ Maps.isMap_empty]
          have := h.none_ k hk' hm j
          simp [addS, this, Maps.has_eq]
        · have e' : ms k = some r' := by simpa [upd, eka] using e
          have hr' := (h.some_ k hk' r' e').ne h.sb
          exact (((h.some_ k hk' r' e').fr hF hr').mono (Nat.le_succ c)).congr (fun j => by simp [addS, eka])
      · intro k hk' e j
        have eka : k ≠ a := fun e2 => by simp [upd, e2] at e
        simp [addS, eka, h.none_ k hk' (by simpa [upd, eka] using e) j]
      · intro k k' r hk' hk'' e1 e2
        simp only [upd] at e1 e2
        split at e1 <;> split at e2
        · omega
        · have := (h.some_ k' hk'' r e2).lt
          simp at e1; omega
        · have := (h.some_ k hk' r e1).lt
          simp at e2; omega
        · exact h.inj k k' r hk' hk'' e1 e2
      · intro k j hk' hj
        by_cases e : k = a ∧ j = b
        · omega
        · simp only [addS, if_neg e] at hj
          exact h.range k j hk' hj
    · intro k hk'
      simp only [upd]
      split
      · exact .inr ⟨_, rfl, Nat.le_refl _⟩
      · exact .inl rfl

theorem newG_any (n : Nat) (w : World) (hn : n ≤ 1048576) :
    Calls Try.prog 22 #[.int .i64 n] w fun e w' => ∃ g s, e = .returned (.tuple #[.pointer (some ⟨g, 0, none⟩), .int .i64 0]) ∧
      IsG w' g s n (fun _ => none) 0 (fun _ _ => false) ∧ w.heap.size ≤ g ∧ w.heap.size ≤ s ∧ Fr (fun _ => False) w w' := by
  refine (new_any n w hn).mono ?_
  rintro e w1 ⟨rfl, rfl⟩
  rw [madeCells_row]
  refine ⟨w.heap.size + 1, w.heap.size, rfl, ⟨?_, ?_, ?_, ?_, ?_, ?_⟩, by omega, by omega, ((Fr.refl _ _).alloc _).alloc _⟩
  · have := Blk.new (w.alloc (.cells (rowA n fun _ => .map none) 67)) #[.slice (some ⟨w.heap.size, 0, none⟩) n n] 56
    rwa [World.size_alloc] at this
  · exact (Blk.new w _ 67).alloc _
  · intro k _ r e; simp at e
  · intros; rfl
  · intro k k' r _ _ e; simp at e
  · intro k j _ e; simp at e
end Go.Proofs.Yteaemnkllpfbgaa
