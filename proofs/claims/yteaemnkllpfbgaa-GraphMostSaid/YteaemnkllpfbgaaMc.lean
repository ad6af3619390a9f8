/- Most: the most marks on a walk out of a knot (no program here). -/
import Derived.Test.YteaemnkllpfbgaaMb
namespace Go.Proofs.Yteaemnkllpfbgaa
open Cal (Wk)
set_option linter.unusedSimpArgs false
set_option linter.unusedVariables false

theorem max_ex : ∀ (n : Nat) (P : Nat → Prop), P 0 → (∀ k, P k → k < n) → ∃ M, P M ∧ ∀ k, P k → k ≤ M := by
  intro n
  induction n with
  | zero => intro P h0 hb; exact absurd (hb 0 h0) (by omega)
  | succ n ih =>
    intro P h0 hb
    by_cases e : P n
    · exact ⟨n, e, fun k hk => by have := hb k hk; omega⟩
    · exact ih P h0 fun k hk => by
        have h1 := hb k hk
        have h2 : k ≠ n := fun h => e (h ▸ hk)
        omega
theorem count_lt (P Q : Nat → Bool) (h : ∀ z, P z = true → Q z = true) : ∀ l : List Nat, (∃ z, z ∈ l ∧ Q z = true ∧ P z = false) → l.countP P < l.countP Q := by
  intro l
  induction l with
  | nil => rintro ⟨z, hz, _⟩; simp at hz
  | cons a l ih =>
    rintro ⟨z, hz, h1, h2⟩
    have hm : l.countP P ≤ l.countP Q := List.countP_mono_left fun x _ => h x
    rw [List.countP_cons, List.countP_cons]
    rcases List.mem_cons.1 hz with rfl | hz
    · simp [h1, h2]; omega
    · have h3 := ih ⟨z, hz, h1, h2⟩
      by_cases e : P a = true
      · simp [e, h a e]; omega
      · simp [e]; omega

/-- The knots' entries tell the most marks. -/
theorem dag_ex {n m : Nat} {κ : Nat → Nat} {S : Nat → Int → Bool} {xs ys : List (Arw n S)} {l : List (Int × Int)} {mks : List (Nat × Nat)} {T : Nat → Int → Option Nat} (hx : AllA n S xs) (hy : AllA n S ys)
    (hall : ∀ p, p ∈ l → (inRange p.1 n && inRange p.2 n) = true) (hS : ∀ k y, S k y = true → k < n) (hk : KnF n m κ (arrows n (prs xs ++ l))) (hT : TI κ (prn ys) mks T) (hl : l = mks.map (fun p => ((p.1 : Int), (p.2 : Int))))
    (hmk : ∀ p, p ∈ mks → p.1 < n ∧ p.2 < n ∧ κ p.1 ≠ κ p.2) (hn : n ≤ 13) :
    ∃ L ρ : Nat → Nat, DAG m T L ρ ∧ (∀ i c k, i < n → Wk (sc n S) (Mks l) i c k → k ≤ L (κ i)) ∧ ∀ y, y < m → ∃ i c, i < n ∧ κ i = y ∧ Wk (sc n S) (Mks l) i c (L y) := by
  have hiff := all_iff hx hall hS
  have h1 : ∀ a b, b ∈ sc n S a → b ∈ sc n (arrows n (prs xs ++ l)) a := fun a b h => (hiff a b).2 (.inl h)
  have h2 : ∀ a b, Mks l a b → b ∈ sc n (arrows n (prs xs ++ l)) a := fun a b h => (hiff a b).2 (.inr h)
  have h3 : ∀ a b, b ∈ sc n (arrows n (prs xs ++ l)) a → b ∈ sc n S a ∨ Mks l a b := fun a b h => (hiff a b).1 h
  have hlt : ∀ a b, b ∈ sc n (arrows n (prs xs ++ l)) a → b < n := fun a b h => sc_lt n _ a b h
  have hm1 : ∀ a b, Mks l a b → (a, b) ∈ mks := fun a b h => by
    unfold Mks at h
    rw [hl] at h
    obtain ⟨p, hp, e⟩ := List.mem_map.1 h
    simp only [Prod.mk.injEq] at e
    have e1 : p.1 = a := by omega
    have e2 : p.2 = b := by omega
    rw [← e1, ← e2]; exact hp
  have hm2 : ∀ p, p ∈ mks → Mks l p.1 p.2 := fun p hp => by
    unfold Mks
    rw [hl]
    exact List.mem_map.2 ⟨p, hp, rfl⟩
  have hne : ∀ a b, a < n → b < n → b ∈ sc n (arrows n (prs xs ++ l)) a → κ a ≠ κ b → ¬ Cal.Reach (sc n (arrows n (prs xs ++ l))) b a := fun a b ha hb hab e hr =>
    e ((hk.iff a b ha hb).2 ⟨.step hab (.refl b), hr⟩)
  have hno : ∀ a b, Mks l a b → ¬ Cal.Reach (sc n (arrows n (prs xs ++ l))) b a := fun a b h => by
    obtain ⟨g1, g2, g3⟩ := hmk _ (hm1 a b h)
    exact hne a b g1 g2 (h2 a b h) g3
  have hbd : ∀ i c k, i < n → Wk (sc n S) (Mks l) i c k → k < n := fun i c k hi h => h.lt h1 h2 hlt hno hi
  have hL : ∀ y, ∃ M, y < m → (∃ i c, i < n ∧ κ i = y ∧ Wk (sc n S) (Mks l) i c M) ∧ ∀ k, (∃ i c, i < n ∧ κ i = y ∧ Wk (sc n S) (Mks l) i c k) → k ≤ M := fun y => by
    by_cases hym : y < m
    · obtain ⟨x, hx1, hx2⟩ := hk.on y hym
      obtain ⟨M, hM1, hM2⟩ := max_ex n (fun k => ∃ i c, i < n ∧ κ i = y ∧ Wk (sc n S) (Mks l) i c k) ⟨x, x, hx1, hx2, .nil x⟩ (fun k ⟨i, c, hi, _, h⟩ => hbd i c k hi h)
      exact ⟨M, fun _ => ⟨hM1, hM2⟩⟩
    · exact ⟨0, fun h => absurd h hym⟩
  obtain ⟨L, hL⟩ := Classical.axiomOfChoice hL
  have hmax : ∀ i c k, i < n → Wk (sc n S) (Mks l) i c k → k ≤ L (κ i) := fun i c k hi h => (hL (κ i) (hk.lt i hi)).2 k ⟨i, c, hi, rfl, h⟩
  have hstep : ∀ a b v, a < n → b < n → b ∈ sc n (arrows n (prs xs ++ l)) a → (∀ c k, Wk (sc n S) (Mks l) b c k → Wk (sc n S) (Mks l) a c (k + v)) → v + L (κ b) ≤ L (κ a) := fun a b v ha hb hab hw => by
    obtain ⟨⟨i, c, hi, e, h⟩, _⟩ := hL (κ b) (hk.lt b hb)
    obtain ⟨m0, hm0⟩ := (((hk.iff b i hb hi).1 e.symm).1).wk h3
    have := hmax a c _ ha (hw c _ (hm0.trans h))
    omega
  classical
  refine ⟨L, fun y => (List.range n).countP fun z => decide (∃ i, i < n ∧ κ i = y ∧ Cal.Reach (sc n (arrows n (prs xs ++ l))) i z), ⟨?_, ?_, ?_⟩, hmax, fun y hy => (hL y hy).1⟩
  · have hrho : ∀ a b, a < n → b < n → b ∈ sc n (arrows n (prs xs ++ l)) a → κ a ≠ κ b →
        (List.range n).countP (fun z => decide (∃ i, i < n ∧ κ i = κ b ∧ Cal.Reach (sc n (arrows n (prs xs ++ l))) i z)) < (List.range n).countP (fun z => decide (∃ i, i < n ∧ κ i = κ a ∧ Cal.Reach (sc n (arrows n (prs xs ++ l))) i z)) := fun a b ha hb hab e => by
      refine count_lt _ _ (fun z hz => ?_) _ ⟨a, by simpa using ha, by simpa using ⟨a, ha, rfl, .refl a⟩, ?_⟩
      · simp only [decide_eq_true_eq] at hz ⊢
        obtain ⟨i, hi, ei, hr⟩ := hz
        exact ⟨a, ha, rfl, .step hab ((((hk.iff b i hb hi).1 ei.symm).1).trans hr)⟩
      · simp only [decide_eq_false_iff_not]
        rintro ⟨i, hi, ei, hr⟩
        exact hne a b ha hb hab e ((((hk.iff b i hb hi).1 ei.symm).1).trans hr)
    intro x k v hxm hv
    obtain ⟨y, rfl, hy2⟩ := hT.sound x k v hv
    rcases hy2 with ⟨rfl, p, hp, rfl, rfl⟩ | ⟨rfl, p, hp, rfl, rfl, hxy⟩
    · obtain ⟨g1, g2, g3⟩ := hmk p hp
      have hM := hm2 p hp
      exact ⟨κ p.2, rfl, hk.lt _ g2, hrho _ _ g1 g2 (h2 _ _ hM) g3, hstep _ _ 1 g1 g2 (h2 _ _ hM) fun c k h => .mrk hM h⟩
    · obtain ⟨z, _, rfl⟩ := List.mem_map.1 hp
      have hs : z.1.2 ∈ sc n S z.1.1 := mem_sc.2 ⟨z.2.2.1, z.2.2.2⟩
      exact ⟨κ z.1.2, rfl, hk.lt _ z.2.2.1, hrho _ _ z.2.1 z.2.2.1 (h1 _ _ hs) hxy, hstep _ _ 0 z.2.1 z.2.2.1 (h1 _ _ hs) fun c k h => .arr hs h⟩
  · intro x hxm
    obtain ⟨⟨i, c, hi, e, h⟩, _⟩ := hL x hxm
    have hclaim : ∀ i c k, Wk (sc n S) (Mks l) i c k → i < n → k = 0 ∨ ∃ (y v : Nat), T (κ i) (y : Int) = some v ∧ k ≤ v + L y := by
      intro i c k h
      induction h with
      | nil a => intro _; exact .inl rfl
      | arr hab t ih =>
        rename_i a b c k
        intro ha
        have hb := sc_lt n S _ _ hab
        by_cases e : κ a = κ b
        · rw [e]; exact ih hb
        · obtain ⟨v, hv⟩ := hT.arrow (a, b) (hy.2 a b ha hb (mem_sc.1 hab).2) e
          exact .inr ⟨κ b, v, hv, by have := hmax b c k hb t; omega⟩
      | mrk hab t ih =>
        rename_i a b c k
        intro ha
        have hM := hm1 _ _ hab
        obtain ⟨_, hb, _⟩ := hmk _ hM
        exact .inr ⟨κ b, 1, hT.mark _ hM, by have := hmax b c k hb t; omega⟩
    have := hclaim i c _ h hi
    rw [e] at this
    exact this
  · intro x hxm
    obtain ⟨⟨i, c, hi, e, h⟩, _⟩ := hL x hxm
    have := hbd i c _ hi h
    omega
end Go.Proofs.Yteaemnkllpfbgaa
