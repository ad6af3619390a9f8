/- How far: layers, step by step (no program here). -/
import Derived.Test.YteaemnkllpfbgaaPa
namespace Go.Proofs.Yteaemnkllpfbgaa.Cal

/-- d is the least number of steps. -/
def Dist (sc : Nat → List Nat) (a b d : Nat) : Prop := Steps sc a b d ∧ ∀ e, Steps sc a b e → d ≤ e

theorem least {p : Nat → Prop} : ∀ n, p n → ∃ m, p m ∧ ∀ k, p k → m ≤ k := by
  intro n
  induction n using Nat.strongRecOn with
  | ind n ih =>
    intro hn
    by_cases h : ∃ m, m < n ∧ p m
    · obtain ⟨m, hm, hp⟩ := h
      exact ih m hm hp
    · exact ⟨n, hn, fun k hk => Nat.le_of_not_lt fun hlt => h ⟨k, hlt, hk⟩⟩
theorem Reach.dist {sc : Nat → List Nat} {a b : Nat} (h : Reach sc a b) : ∃ d, Dist sc a b d := by
  obtain ⟨d, hd⟩ := h.steps
  exact least (p := fun d => Steps sc a b d) d hd
theorem Dist.unique {sc : Nat → List Nat} {a b d e : Nat} (h : Dist sc a b d) (k : Dist sc a b e) : d = e := Nat.le_antisymm (h.2 _ k.1) (k.2 _ h.1)
theorem Dist.line {sc : Nat → List Nat} {n a : Nat} (ha : a < n) (hsc : ∀ x y, y ∈ sc x → y < n) : ∀ d b, Dist sc a b d → ∃ l : List Nat, l.length = d + 1 ∧ l.Nodup ∧ ∀ x, x ∈ l → x < n ∧ ∃ e, e ≤ d ∧ Dist sc a x e := by
  intro d
  induction d with
  | zero =>
    intro b hb
    obtain ⟨hs, _⟩ := hb
    cases hs
    exact ⟨[a], rfl, by simp, fun x hx => by
      obtain rfl : x = a := by simpa using hx
      exact ⟨ha, 0, Nat.le_refl _, .zero _, fun e _ => Nat.zero_le e⟩⟩
  | succ d ih =>
    intro b hb
    obtain ⟨hs, hmin⟩ := hb
    cases hs with
    | succ t hc =>
      rename_i y
      have hy : Dist sc a y d := ⟨t, fun e he => by have := hmin _ (.succ he hc); omega⟩
      obtain ⟨l, h1, h2, h3⟩ := ih y hy
      refine ⟨b :: l, by simp [h1], List.nodup_cons.2 ⟨fun hb => ?_, h2⟩, fun x hx => ?_⟩
      · obtain ⟨_, e, he, hd⟩ := h3 b hb
        have := hmin _ hd.1
        omega
      · rcases List.mem_cons.1 hx with rfl | hx
        · exact ⟨hsc _ _ hc, d + 1, Nat.le_refl _, .succ t hc, hmin⟩
        · obtain ⟨h4, e, he, hd⟩ := h3 x hx
          exact ⟨h4, e, by omega, hd⟩
theorem Dist.lt {sc : Nat → List Nat} {n a b d : Nat} (ha : a < n) (hsc : ∀ x y, y ∈ sc x → y < n) (h : Dist sc a b d) : d < n := by
  obtain ⟨l, h1, h2, h3⟩ := Dist.line ha hsc d b h
  have := length_le_of_lt h2 (fun x hx => (h3 x hx).1)
  omega

/-- In round s, at thing i, behind its first k candidates. -/
structure FJ (sc : Nat → List Nat) (n src : Nat) (out : Nat → Int) (s i k : Nat) : Prop where
  a : ∀ x, x < n → out x = -1 ∨ ∃ d : Nat, out x = d ∧ Dist sc src x d
  b : ∀ x, x < n → ∀ d, d ≤ s → Steps sc src x d → out x ≠ -1
  c : ∀ i', i' < i → i' < n → out i' = s → ∀ k', k' ∈ sc i' → out k' ≠ -1
  d : out i = s → ∀ k', k' < k → k' ∈ sc i → out k' ≠ -1

section
variable {sc : Nat → List Nat} {n src s i k : Nat} {out : Nat → Int}
theorem FJ.start (hs : src < n) : FJ sc n src (upd (fun _ => -1) src 0) 0 0 0 where
  a := fun x hx => by
    by_cases e : x = src
    · subst e; right; exact ⟨0, by simp [upd], .zero _, fun e _ => Nat.zero_le e⟩
    · left; simp [upd, e]
  b := fun x hx d hd h => by
    obtain rfl : d = 0 := by omega
    cases h
    simp [upd]
  c := fun i' h => by omega
  d := fun _ k' h => by omega
theorem FJ.skip (h : FJ sc n src out s i k) (hk : k ∈ sc i → out k ≠ -1) : FJ sc n src out s i (k + 1) :=
  { h with
    d := fun e k' h1 h2 => by
      by_cases e2 : k' = k
      · subst e2; exact hk h2
      · exact h.d e k' (by omega) h2 }
theorem FJ.set (h : FJ sc n src out s i k) (hi : i < n) (hk : k < n) (ho : out i = s) (hs : k ∈ sc i) (hf : out k = -1) : FJ sc n src (upd out k ((s + 1 : Nat) : Int)) s i (k + 1) where
  a := fun x hx => by
    by_cases e : x = k
    · subst e
      right
      refine ⟨s + 1, by simp [upd], ?_, fun d hd => ?_⟩
      · rcases h.a i hi with h1 | ⟨d, h1, h2⟩
        · omega
        · obtain rfl : d = s := by omega
          exact .succ h2.1 hs
      · apply Classical.byContradiction
        intro hlt
        exact h.b x hx d (by omega) hd hf
    · have := h.a x hx
      simpa [upd, e] using this
  b := fun x hx d hd hst => by
    simp only [upd]; split
    · omega
    · exact h.b x hx d hd hst
  c := fun i' h1 h2 h3 k' h4 => by
    simp only [upd] at h3 ⊢
    split at h3
    · omega
    · split
      · omega
      · exact h.c i' h1 h2 h3 k' h4
  d := fun h1 k' h2 h3 => by
    simp only [upd] at h1 ⊢
    split at h1
    · omega
    · split
      · omega
      · exact h.d h1 k' (by omega) h3
theorem FJ.nextI (hsc : ∀ x y, y ∈ sc x → y < n) (h : FJ sc n src out s i k) (hk : n ≤ k ∨ out i ≠ s) : FJ sc n src out s (i + 1) 0 :=
  { h with
    c := fun i' h1 h2 h3 k' h4 => by
      by_cases e : i' = i
      · subst e
        rcases hk with hk | hk
        · exact h.d h3 k' (by have := hsc _ _ h4; omega) h4
        · exact absurd h3 hk
      · exact h.c i' (by omega) h2 h3 k' h4
    d := fun _ k' h1 => by omega }
theorem FJ.nextS (hs : src < n) (hsc : ∀ x y, y ∈ sc x → y < n) (h : FJ sc n src out s i k) (hi : n ≤ i) : FJ sc n src out (s + 1) 0 0 :=
  { h with
    b := fun x hx d hd hst => by
      by_cases e : d ≤ s
      · exact h.b x hx d e hst
      · obtain rfl : d = s + 1 := by omega
        cases hst with
        | succ t hc =>
          rename_i y
          have hy : y < n := by
            cases t with
            | zero => exact hs
            | succ _ hc2 => exact hsc _ _ hc2
          rcases h.a y hy with h1 | ⟨d, h1, h2⟩
          · exact absurd h1 (h.b y hy s (Nat.le_refl _) t)
          · have := h2.2 _ t
            by_cases e2 : d = s
            · subst e2; exact h.c y (by omega) hy h1 x hc
            · exact h.b x hx (d + 1) (by omega) (.succ h2.1 hc)
    c := fun i' h1 => by omega
    d := fun _ k' h1 => by omega }
theorem FJ.done (hs : src < n) (hsc : ∀ x y, y ∈ sc x → y < n) (h : FJ sc n src out s i k) (hn : n ≤ s) : ∀ x, x < n → (¬ Reach sc src x ∧ out x = -1) ∨ ∃ d : Nat, out x = d ∧ Dist sc src x d := by
  intro x hx
  by_cases hr : Reach sc src x
  · right
    obtain ⟨d, hd⟩ := hr.dist
    have hlt := Dist.lt hs hsc hd
    rcases h.a x hx with h1 | h1
    · exact absurd h1 (h.b x hx d (by omega) hd.1)
    · exact h1
  · left
    refine ⟨hr, ?_⟩
    rcases h.a x hx with h1 | ⟨d, h1, h2⟩
    · exact h1
    · exact absurd h2.1.reach hr
end
end Go.Proofs.Yteaemnkllpfbgaa.Cal
