/- The document's Most: its rounds (no program here). -/
import Derived.Test.YteaemnkllpfbgaaPm
import Derived.Test.YteaemnkllpfbgaaPb
namespace Go.Proofs.Yteaemnkllpfbgaa.Cal

def sumB (best : Nat → Nat) (n : Nat) : Nat := ((List.range n).map best).sum
theorem sumB_upd {best : Nat → Nat} {n i v : Nat} (hi : i < n) (hv : best i < v) : sumB best n + 1 ≤ sumB (upd best i v) n := by
  have := sum_one (c := v - best i) (upd best i v) best hi (fun j h => (upd_ne _ _ h).symm) (by rw [upd_same]; omega)
  unfold sumB
  omega
theorem sumB_le {best : Nat → Nat} {n B : Nat} (h : ∀ i, i < n → best i ≤ B) : sumB best n ≤ n * B := by
  unfold sumB
  induction n with
  | zero => simp
  | succ n ih =>
    rw [List.range_succ, List.map_append, List.sum_append, Nat.add_mul, Nat.one_mul]
    have h1 := ih (fun i hi => h i (by omega))
    have h2 := h n (by omega)
    simp only [List.map_cons, List.map_nil, List.sum_cons, List.sum_nil, Nat.add_zero]
    omega

/-- Within a round: behind the pairs ahead of (i, k), and the first j marks. -/
structure MJ (sc : Nat → List Nat) (K : Nat → Nat → Prop) (n : Nat) (M : List (Nat × Nat)) (best : Nat → Nat) (more : Bool) (s0 i k j : Nat) : Prop where
  w : ∀ x, x < n → ∃ c, Wk sc K x c (best x)
  inc0 : s0 ≤ sumB best n
  inc1 : more = true → s0 + 1 ≤ sumB best n
  okA : more = false → ∀ x y, (x < i ∨ (x = i ∧ y < k)) → x < n → y ∈ sc x → best y ≤ best x
  okM : more = false → ∀ p a b, p < j → M[p]? = some (a, b) → best b + 1 ≤ best a
  bd : ∀ x, x < n → best x ≤ n + 1 + j

section
variable {sc : Nat → List Nat} {K : Nat → Nat → Prop} {n s0 i k j : Nat} {M : List (Nat × Nat)} {best : Nat → Nat} {more : Bool}
theorem MJ.start (hw : ∀ x, x < n → ∃ c, Wk sc K x c (best x)) (hb : ∀ x, x < n → best x ≤ n + 1) : MJ sc K n M best false (sumB best n) 0 0 0 where
  w := hw
  inc0 := Nat.le_refl _
  inc1 := fun h => by cases h
  okA := fun _ x y h => by omega
  okM := fun _ p a b h => by omega
  bd := fun x hx => by have := hb x hx; omega
theorem MJ.setA (h : MJ sc K n M best more s0 i k j) (hi : i < n) (hk : k < n) (hs : k ∈ sc i) (hlt : best i < best k) : MJ sc K n M (upd best i (best k)) true s0 i (k + 1) j where
  w := fun x hx => by
    simp only [upd]; split
    · rename_i e; subst e
      obtain ⟨c, hc⟩ := h.w k hk
      exact ⟨c, .arr hs hc⟩
    · exact h.w x hx
  inc0 := by have := sumB_upd hi hlt; have := h.inc0; omega
  inc1 := fun _ => by have := sumB_upd hi hlt; have := h.inc0; omega
  okA := fun h => by cases h
  okM := fun h => by cases h
  bd := fun x hx => by
    simp only [upd]; split
    · exact h.bd k hk
    · exact h.bd x hx
theorem MJ.skipA (h : MJ sc K n M best more s0 i k j) (hs : k ∈ sc i → best k ≤ best i) : MJ sc K n M best more s0 i (k + 1) j :=
  { h with
    okA := fun hm x y hxy hx hy => by
      by_cases e : x = i ∧ y = k
      · obtain ⟨rfl, rfl⟩ := e; exact hs hy
      · exact h.okA hm x y (by omega) hx hy }
theorem MJ.nextI (hsc : ∀ x y, y ∈ sc x → y < n) (h : MJ sc K n M best more s0 i k j) (hk : n ≤ k) : MJ sc K n M best more s0 (i + 1) 0 j :=
  { h with
    okA := fun hm x y hxy hx hy => by
      have := hsc _ _ hy
      exact h.okA hm x y (by omega) hx hy }
theorem MJ.setM (h : MJ sc K n M best more s0 i k j) {a b : Nat} (ha : a < n) (hb : b < n) (hK : K a b) (hlt : best a < best b + 1) : MJ sc K n M (upd best a (best b + 1)) true s0 i k (j + 1) where
  w := fun x hx => by
    simp only [upd]; split
    · rename_i e; subst e
      obtain ⟨c, hc⟩ := h.w b hb
      exact ⟨c, .mrk hK hc⟩
    · exact h.w x hx
  inc0 := by have := sumB_upd ha hlt; have := h.inc0; omega
  inc1 := fun _ => by have := sumB_upd ha hlt; have := h.inc0; omega
  okA := fun h => by cases h
  okM := fun h => by cases h
  bd := fun x hx => by
    simp only [upd]; split
    · have := h.bd b hb; omega
    · have := h.bd x hx; omega
theorem MJ.skipM (h : MJ sc K n M best more s0 i k j) {a b : Nat} (hp : M[j]? = some (a, b)) (hs : best b + 1 ≤ best a) : MJ sc K n M best more s0 i k (j + 1) :=
  { h with
    okM := fun hm p a' b' hpj hp' => by
      by_cases e : p = j
      · subst e; rw [hp] at hp'; cases hp'; exact hs
      · exact h.okM hm p a' b' (by omega) hp'
    bd := fun x hx => by have := h.bd x hx; omega }
end
end Go.Proofs.Yteaemnkllpfbgaa.Cal
