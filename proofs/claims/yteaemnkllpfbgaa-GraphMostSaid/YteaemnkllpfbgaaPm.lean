/- The most marked steps of a walk (no program here). -/
import Derived.Test.YteaemnkllpfbgaaPa
namespace Go.Proofs.Yteaemnkllpfbgaa.Cal

/-- A walk along arrows and marks, with its marks counted. -/
inductive Wk (sc : Nat → List Nat) (K : Nat → Nat → Prop) : Nat → Nat → Nat → Prop
  | nil (a : Nat) : Wk sc K a a 0
  | arr {a b c m : Nat} (h : b ∈ sc a) (t : Wk sc K b c m) : Wk sc K a c m
  | mrk {a b c m : Nat} (h : K a b) (t : Wk sc K b c m) : Wk sc K a c (m + 1)

theorem Wk.trans {sc : Nat → List Nat} {K : Nat → Nat → Prop} {a b c m k : Nat} (h : Wk sc K a b m) (t : Wk sc K b c k) : Wk sc K a c (m + k) := by
  induction h with
  | nil a => rw [Nat.zero_add]; exact t
  | arr h _ ih => exact .arr h (ih t)
  | mrk h _ ih =>
    have := Wk.mrk h (ih t)
    rw [show ∀ x y : Nat, x + 1 + y = x + y + 1 from fun x y => by omega]
    exact this

section
variable {sc sa : Nat → List Nat} {K : Nat → Nat → Prop} {n : Nat}
/-- Arrows and marks together: sa. -/
theorem Wk.reach (h1 : ∀ a b, b ∈ sc a → b ∈ sa a) (h2 : ∀ a b, K a b → b ∈ sa a) {a c m : Nat} (h : Wk sc K a c m) : Reach sa a c := by
  induction h with
  | nil a => exact .refl a
  | arr h _ ih => exact .step (h1 _ _ h) ih
  | mrk h _ ih => exact .step (h2 _ _ h) ih
theorem Reach.wk (h3 : ∀ a b, b ∈ sa a → b ∈ sc a ∨ K a b) {a c : Nat} (h : Reach sa a c) : ∃ m, Wk sc K a c m := by
  induction h with
  | refl a => exact ⟨0, .nil a⟩
  | step h _ ih =>
    obtain ⟨m, hm⟩ := ih
    rcases h3 _ _ h with h | h
    · exact ⟨m, .arr h hm⟩
    · exact ⟨m + 1, .mrk h hm⟩
/-- No mark in a knot: its marks lead to ever new things. -/
theorem Wk.line (h1 : ∀ a b, b ∈ sc a → b ∈ sa a) (h2 : ∀ a b, K a b → b ∈ sa a) (hlt : ∀ a b, b ∈ sa a → b < n) (hno : ∀ a b, K a b → ¬ Reach sa b a) {a c m : Nat} (h : Wk sc K a c m) (ha : a < n) :
    ∃ l : List Nat, l.length = m + 1 ∧ l.Nodup ∧ ∀ x, x ∈ l → x < n ∧ Reach sa a x := by
  induction h with
  | nil a =>
    refine ⟨[a], rfl, by simp, fun x hx => ?_⟩
    obtain rfl : x = a := by simpa using hx
    exact ⟨ha, .refl _⟩
  | arr h _ ih =>
    obtain ⟨l, e1, e2, e3⟩ := ih (hlt _ _ (h1 _ _ h))
    exact ⟨l, e1, e2, fun x hx => ⟨(e3 x hx).1, .step (h1 _ _ h) (e3 x hx).2⟩⟩
  | mrk h _ ih =>
    rename_i p q r k _
    obtain ⟨l, e1, e2, e3⟩ := ih (hlt _ _ (h2 _ _ h))
    refine ⟨p :: l, by simp [e1], List.nodup_cons.2 ⟨fun hp => hno _ _ h (e3 p hp).2, e2⟩, fun x hx => ?_⟩
    rcases List.mem_cons.1 hx with rfl | hx
    · exact ⟨ha, .refl _⟩
    · exact ⟨(e3 x hx).1, .step (h2 _ _ h) (e3 x hx).2⟩
theorem Wk.lt (h1 : ∀ a b, b ∈ sc a → b ∈ sa a) (h2 : ∀ a b, K a b → b ∈ sa a) (hlt : ∀ a b, b ∈ sa a → b < n) (hno : ∀ a b, K a b → ¬ Reach sa b a) {a c m : Nat} (h : Wk sc K a c m) (ha : a < n) : m < n := by
  obtain ⟨l, e1, e2, e3⟩ := h.line h1 h2 hlt hno ha
  have := length_le_of_lt e2 (fun x hx => (e3 x hx).1)
  omega
/-- A mark in a knot: ever more. -/
theorem Wk.more (h3 : ∀ a b, b ∈ sa a → b ∈ sc a ∨ K a b) {a b : Nat} (hk : K a b) (hr : Reach sa b a) : ∀ N, ∃ m, N ≤ m ∧ Wk sc K a a m := by
  obtain ⟨m0, hm0⟩ := hr.wk h3
  intro N
  induction N with
  | zero => exact ⟨0, Nat.le_refl _, .nil a⟩
  | succ N ih =>
    obtain ⟨m, h1, h2⟩ := ih
    exact ⟨m0 + 1 + m, by omega, (Wk.mrk hk hm0).trans h2⟩
/-- What no step raises is at least each walk's marks. -/
theorem Wk.le_fix {best : Nat → Nat} (hlt : ∀ a b, b ∈ sc a ∨ K a b → b < n) (ha : ∀ i k, i < n → k ∈ sc i → best k ≤ best i) (hm : ∀ a b, a < n → K a b → best b + 1 ≤ best a) {i c m : Nat} (h : Wk sc K i c m) (hi : i < n) : m ≤ best i := by
  induction h with
  | nil a => omega
  | arr h _ ih =>
    have h1 := ih (hlt _ _ (.inl h))
    have h2 := ha _ _ hi h
    omega
  | mrk h _ ih =>
    have h1 := ih (hlt _ _ (.inr h))
    have h2 := hm _ _ hi h
    omega
end
end Go.Proofs.Yteaemnkllpfbgaa.Cal
