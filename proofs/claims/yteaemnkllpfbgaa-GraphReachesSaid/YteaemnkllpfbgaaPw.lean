/- The closure, thing by thing (no program here). -/
import Derived.Test.YteaemnkllpfbgaaPa
namespace Go.Proofs.Yteaemnkllpfbgaa.Cal

/-- A way whose inner things are below K. -/
inductive Via (sc : Nat → List Nat) (K : Nat) : Nat → Nat → Prop
  | refl (a : Nat) : Via sc K a a
  | one {a b : Nat} (h : b ∈ sc a) : Via sc K a b
  | step {a b c : Nat} (h : b ∈ sc a) (hb : b < K) (t : Via sc K b c) : Via sc K a c

theorem Via.split {sc : Nat → List Nat} {k a b : Nat} (h : Via sc (k + 1) a b) : Via sc k a b ∨ (Via sc k a k ∧ Via sc k k b) := by
  induction h with
  | refl a => exact .inl (.refl a)
  | one h => exact .inl (.one h)
  | step h hb t ih =>
    rename_i x y z
    by_cases e : y < k
    · rcases ih with h1 | ⟨h1, h2⟩
      · exact .inl (.step h e h1)
      · exact .inr ⟨.step h e h1, h2⟩
    · obtain rfl : y = k := by omega
      rcases ih with h1 | ⟨h1, h2⟩
      · exact .inr ⟨.one h, h1⟩
      · exact .inr ⟨.one h, h2⟩
theorem Via.zero {sc : Nat → List Nat} {a b : Nat} (h : Via sc 0 a b) : a = b ∨ b ∈ sc a := by
  cases h with
  | refl => exact .inl rfl
  | one h => exact .inr h
  | step _ hb _ => omega
theorem Reach.via {sc : Nat → List Nat} {n a b : Nat} (hsc : ∀ x y, y ∈ sc x → y < n) (h : Reach sc a b) : Via sc n a b := by
  induction h with
  | refl a => exact .refl a
  | step h t ih => exact .step h (hsc _ _ h) ih

/-- At thing k, row i, behind its first j entries. -/
structure WI (sc : Nat → List Nat) (n : Nat) (C : Nat → Nat → Bool) (k i j : Nat) : Prop where
  snd : ∀ a b, a < n → b < n → C a b = true → Reach sc a b
  all : ∀ a b, a < n → b < n → Via sc k a b → C a b = true
  old : ∀ a b, a < i → a < n → b < n → Via sc (k + 1) a b → C a b = true
  row : ∀ b, b < j → i < n → b < n → Via sc (k + 1) i b → C i b = true

def upd2 (C : Nat → Nat → Bool) (i j : Nat) (v : Bool) : Nat → Nat → Bool := fun a b => if a = i ∧ b = j then v else C a b

section
variable {sc : Nat → List Nat} {n k i j : Nat} {C : Nat → Nat → Bool}
theorem WI.start (h : ∀ a b, a < n → b < n → (C a b = true ↔ a = b ∨ b ∈ sc a)) : WI sc n C 0 0 0 where
  snd := fun a b ha hb e => by
    rcases (h a b ha hb).1 e with rfl | e
    · exact .refl _
    · exact .one e
  all := fun a b ha hb e => (h a b ha hb).2 e.zero
  old := fun a b h => by omega
  row := fun b h => by omega
/-- The entry is 'or'ed. -/
theorem WI.put (h : WI sc n C k i j) (hk : k < n) (hi : i < n) (hj : j < n) (hik : C i k = true) : WI sc n (upd2 C i j (C i j || C k j)) k i (j + 1) where
  snd := fun a b ha hb e => by
    simp only [upd2] at e
    split at e
    · rename_i e2
      obtain ⟨rfl, rfl⟩ := e2
      rcases Bool.or_eq_true _ _ ▸ e with e | e
      · exact h.snd _ _ ha hb e
      · exact (h.snd _ _ ha hk hik).trans (h.snd _ _ hk hb e)
    · exact h.snd a b ha hb e
  all := fun a b ha hb e => by
    simp only [upd2]
    split
    · rename_i e2
      obtain ⟨rfl, rfl⟩ := e2
      rw [h.all _ _ ha hb e]; rfl
    · exact h.all a b ha hb e
  old := fun a b hai ha hb e => by
    simp only [upd2]
    split
    · omega
    · exact h.old a b hai ha hb e
  row := fun b hbj _ hb e => by
    simp only [upd2]
    split
    · rename_i e2
      obtain ⟨_, rfl⟩ := e2
      rcases e.split with h1 | ⟨_, h2⟩
      · rw [h.all _ _ hi hb h1]; rfl
      · rw [h.all _ _ hk hb h2, Bool.or_true]
    · rename_i e2
      have : b ≠ j := fun e3 => e2 ⟨trivial, e3⟩
      exact h.row b (by omega) hi hb e
theorem WI.nextI (h : WI sc n C k i j) (hk : k < n) (hi : n ≤ j ∨ C i k = false) : WI sc n C k (i + 1) 0 :=
  { h with
    old := fun a b hai ha hb e => by
      by_cases e2 : a = i
      · subst e2
        rcases hi with hi | hi
        · exact h.row b (by omega) ha hb e
        · rcases e.split with h1 | ⟨h1, _⟩
          · exact h.all _ _ ha hb h1
          · rw [h.all _ _ ha hk h1] at hi; cases hi
      · exact h.old a b (by omega) ha hb e
    row := fun b h => by omega }
theorem WI.nextK (h : WI sc n C k i j) (hi : n ≤ i) : WI sc n C (k + 1) 0 0 :=
  { h with
    all := fun a b ha hb e => h.old a b (by omega) ha hb e
    old := fun a b h => by omega
    row := fun b h => by omega }
theorem WI.done (hsc : ∀ x y, y ∈ sc x → y < n) (h : WI sc n C k i j) (hk : n ≤ k) : ∀ a b, a < n → b < n → (C a b = true ↔ Reach sc a b) := fun a b ha hb =>
  ⟨h.snd a b ha hb, fun hr => h.all a b ha hb (by
    have hv := hr.via hsc
    clear hr
    induction hv with
    | refl a => exact .refl a
    | one h => exact .one h
    | step h1 h2 _ ih => exact .step h1 (by omega) (ih h2 hb))⟩
end
end Go.Proofs.Yteaemnkllpfbgaa.Cal
