/- Tarjan's knots: what is left to do; a frame below goes on; what is popped. -/
import Derived.Test.YteaemnkllpfbgaaPa
namespace Go.Proofs.Yteaemnkllpfbgaa.Cal

theorem upd_self {α : Type} (f : Nat → α) (i : Nat) : upd f i (f i) = f := by
  funext j; simp only [upd]; split
  · rename_i e; rw [e]
  · rfl

/-- A frame goes along an arrow more, no low is turned. -/
theorem Inv.bump {n : Nat} {sc : Nat → List Nat} {s : St} (h : Inv n sc s) {pre r : List (Nat × Nat)} {v j k : Nat} (e : s.frs = pre ++ (v, j) :: r) (hk : (sc v)[j]? = some k)
    (hm : 0 ≤ s.idx k) (hbig : s.on k = true → ∀ f, f ∈ s.frs → s.idx f.1 ≤ s.idx k) :
    Inv n sc { s with frs := pre ++ (v, j + 1) :: r } := by
  have hne : ∀ f, f ∈ pre ++ r → f.1 ≠ v := by
    intro f hf e2
    have hs := h.frsorted
    rw [e, List.pairwise_append] at hs
    rcases List.mem_append.1 hf with hf | hf
    · have := hs.2.2 f hf (v, j) List.mem_cons_self
      rw [e2] at this; simp at this
    · have := (List.pairwise_cons.1 hs.2.1).1 f hf
      rw [e2] at this; simp at this
  have hkm : k ∈ sc v := List.mem_of_getElem? hk
  have hold : ∀ f, f ∈ pre ++ (v, j + 1) :: r → ∃ g, g ∈ s.frs ∧ g.1 = f.1 := by
    intro f hf
    rw [e]
    simp only [List.mem_append, List.mem_cons] at hf ⊢
    rcases hf with hf | rfl | hf
    · exact ⟨f, .inl hf, rfl⟩
    · exact ⟨(v, j), .inr (.inl rfl), rfl⟩
    · exact ⟨f, .inr (.inr hf), rfl⟩
  have hnew : ∀ g, g ∈ s.frs → ∃ f, f ∈ pre ++ (v, j + 1) :: r ∧ f.1 = g.1 := by
    intro g hg
    rw [e] at hg
    simp only [List.mem_append, List.mem_cons] at hg ⊢
    rcases hg with hg | rfl | hg
    · exact ⟨g, .inl hg, rfl⟩
    · exact ⟨(v, j + 1), .inr (.inl rfl), rfl⟩
    · exact ⟨g, .inr (.inr hg), rfl⟩
  have hseen : ∀ x y, ({ s with frs := pre ++ (v, j + 1) :: r } : St).seen sc x y → s.seen sc x y ∨ (x = v ∧ y = k) := by
    rintro x y ⟨hx, hy⟩
    by_cases exv : x = v
    · subst exv
      obtain ⟨i, hi, hs⟩ := hx (x, j + 1) (by simp) rfl
      by_cases ei : i = j
      · subst ei
        rw [hk] at hs
        exact .inr ⟨rfl, by simpa using hs.symm⟩
      · refine .inl ⟨fun f hf ef => ?_, hy⟩
        rw [e] at hf
        simp only [List.mem_append, List.mem_cons] at hf
        rcases hf with hf | rfl | hf
        · exact absurd ef (hne f (List.mem_append_left _ hf))
        · exact ⟨i, by simp at hi ⊢; omega, hs⟩
        · exact absurd ef (hne f (List.mem_append_right _ hf))
    · refine .inl ⟨fun f hf ef => ?_, hy⟩
      rw [e] at hf
      simp only [List.mem_append, List.mem_cons] at hf
      rcases hf with hf | rfl | hf
      · exact hx f (by simp [hf]) ef
      · exact absurd ef.symm exv
      · exact hx f (by simp [hf]) ef
  constructor
  case bound => exact h.bound
  case ge => exact h.ge
  case lt => exact h.lt
  case inj => exact h.inj
  case onstk => exact h.onstk
  case stkmet => exact h.stkmet
  case sorted => exact h.sorted
  case frstk =>
    intro f hf
    obtain ⟨g, hg, eg⟩ := hold f hf
    rw [← eg]; exact h.frstk g hg
  case frsorted =>
    have hs := h.frsorted
    rw [e] at hs
    simp only [List.pairwise_append, List.pairwise_cons, List.mem_cons] at hs ⊢
    refine ⟨hs.1, ⟨hs.2.1.1, hs.2.1.2⟩, fun a ha b hb => ?_⟩
    rcases hb with rfl | hb
    · exact hs.2.2 a ha (v, j) (.inl rfl)
    · exact hs.2.2 a ha b (.inr hb)
  case frlen =>
    intro f hf
    simp only [List.mem_append, List.mem_cons] at hf
    rcases hf with hf | rfl | hf
    · exact h.frlen f (by rw [e]; simp [hf])
    · have := (List.getElem?_eq_some_iff.1 hk).1
      simp; omega
    · exact h.frlen f (by rw [e]; simp [hf])
  case black => exact h.black
  case knots => exact h.knots
  case many => exact h.many
  case seenmet =>
    intro x y hx hs
    rcases hseen x y hs with hs | ⟨rfl, rfl⟩
    · exact h.seenmet x y hx hs
    · exact hm
  case lows =>
    intro f hf x y hx hfx hs hy hyf
    obtain ⟨f', hf', ef⟩ := hold f hf
    rcases hseen x y hs with hs | ⟨rfl, rfl⟩
    · obtain ⟨g, hg, a, b, c⟩ := h.lows f' hf' x y hx (by rw [ef]; exact hfx) hs hy (by rw [ef]; exact hyf)
      obtain ⟨g', hg', eg⟩ := hnew g hg
      refine ⟨g', hg', ?_, ?_, ?_⟩ <;> rw [eg]
      · rw [← ef]; exact a
      · exact b
      · exact c
    · have := hbig hy f' hf'
      rw [ef] at this
      simp only at hyf
      omega
  case lowat =>
    intro f hf
    obtain ⟨f', hf', ef⟩ := hold f hf
    rw [← ef]
    exact h.lowat f' hf'
  case up =>
    intro x hx
    obtain ⟨f, hf, a, b⟩ := h.up x hx
    obtain ⟨g, hg, eg⟩ := hnew f hf
    exact ⟨g, hg, by rw [eg]; exact a, by rw [eg]; exact b⟩
  case down =>
    intro x hx f hf hle
    obtain ⟨g, hg, eg⟩ := hold f hf
    rw [← eg]
    exact h.down x hx g hg (by rw [eg]; exact hle)

/-- A new thing is met along the top frame's next arrow. -/
theorem Inv.goNew {n : Nat} {sc : Nat → List Nat} {s : St} (h : Inv n sc s) {r : List (Nat × Nat)} {v j k : Nat} (e : s.frs = (v, j) :: r) (hk : (sc v)[j]? = some k) (hkn : k < n) (hu : s.idx k = -1) :
    Inv n sc { s.meet k with frs := (k, 0) :: (v, j + 1) :: r } := by
  have hvs : v ∈ s.stk := by have := h.frstk (v, j) (by rw [e]; exact List.mem_cons_self); simpa using this
  have h1 := h.meet k hkn hu (fun f hf => by
    have := top_max h e f hf
    exact (h.down v hvs f hf this).trans (.one (List.mem_of_getElem? hk)))
  have := h1.bump (pre := [(k, 0)]) (v := v) (j := j) (k := k) (r := r) (by simp [St.meet, e]) hk (by simp [St.meet, upd]) (fun _ f hf => by
    have hlt := h.lt f.1
    simp only [St.meet, upd]
    by_cases e1 : f.1 = k
    · simp [e1]
    · simp [e1]; omega)
  simpa using this

/-- Things on the stack are distinct. -/
theorem Inv.nodup {n : Nat} {sc : Nat → List Nat} {s : St} (h : Inv n sc s) : s.stk.Nodup := h.sorted.imp (fun hab e => by rw [e] at hab; omega)
theorem Inv.stklt {n : Nat} {sc : Nat → List Nat} {s : St} (h : Inv n sc s) : ∀ x, x ∈ s.stk → x < n := fun x hx => h.bound x (h.stkmet x hx)
theorem Inv.stklen {n : Nat} {sc : Nat → List Nat} {s : St} (h : Inv n sc s) : s.stk.length ≤ n := length_le_of_lt h.nodup h.stklt
theorem Inv.frsnodup {n : Nat} {sc : Nat → List Nat} {s : St} (h : Inv n sc s) : (s.frs.map (·.1)).Nodup := List.pairwise_map.2 (h.frsorted.imp (fun hab e => by rw [e] at hab; omega))
theorem Inv.frslen {n : Nat} {sc : Nat → List Nat} {s : St} (h : Inv n sc s) : s.frs.length ≤ n := by
  have := length_le_of_lt h.frsnodup (fun x hx => by
    obtain ⟨f, hf, rfl⟩ := List.mem_map.1 hx
    exact h.stklt _ (h.frstk f hf))
  simpa using this

/-- What lies on the stack down to a thing. -/
theorem Inv.popped {n : Nat} {sc : Nat → List Nat} {s : St} (h : Inv n sc s) {v : Nat} {out rest : List Nat} (e : s.stk = out ++ rest) (hv : v ∈ out) (hlast : ∀ x, x ∈ out → x = v ∨ ∃ a b, out = a ++ b ∧ x ∈ a ∧ v ∈ b) :
    ∀ x, (x ∈ out ↔ x ∈ s.stk ∧ s.idx v ≤ s.idx x) ∧ (x ∈ rest ↔ x ∈ s.stk ∧ s.idx x < s.idx v) := by
  have hs := h.sorted
  rw [e, List.pairwise_append] at hs
  have h1 : ∀ x, x ∈ out → s.idx v ≤ s.idx x := by
    intro x hx
    rcases hlast x hx with rfl | ⟨a, b, eab, ha, hb⟩
    · exact Int.le_refl _
    · have h2 := hs.1
      rw [eab, List.pairwise_append] at h2
      have := h2.2.2 x ha v hb
      omega
  have h2 : ∀ x, x ∈ rest → s.idx x < s.idx v := fun x hx => hs.2.2 v hv x hx
  intro x
  rw [e]
  constructor
  · constructor
    · intro hx; exact ⟨List.mem_append_left _ hx, h1 x hx⟩
    · rintro ⟨hx, hle⟩
      rcases List.mem_append.1 hx with hx | hx
      · exact hx
      · have := h2 x hx; omega
  · constructor
    · intro hx; exact ⟨List.mem_append_right _ hx, h2 x hx⟩
    · rintro ⟨hx, hlt⟩
      rcases List.mem_append.1 hx with hx | hx
      · have := h1 x hx; omega
      · exact hx

/-! ### What is left to do -/
theorem sum_one {n k c : Nat} (f f' : Nat → Nat) (hk : k < n) (h : ∀ i, i ≠ k → f' i = f i) (h0 : f' k + c = f k) : ((List.range n).map f').sum + c = ((List.range n).map f).sum := by
  induction n with
  | zero => omega
  | succ n ih =>
    simp only [List.range_succ, List.map_append, List.sum_append, List.map_cons, List.map_nil, List.sum_cons, List.sum_nil]
    by_cases e : k = n
    · subst e
      have : (List.range k).map f' = (List.range k).map f := List.map_congr_left (fun i hi => h i (by have := List.mem_range.1 hi; omega))
      rw [this]; omega
    · have := ih (by omega)
      have := h n (fun e' => e e'.symm)
      omega

theorem cost_bump {sc : Nat → List Nat} {n : Nat} (s s' : St) {pre r : List (Nat × Nat)} {v j : Nat} (hi : s'.idx = s.idx) (e : s.frs = pre ++ (v, j) :: r) (e' : s'.frs = pre ++ (v, j + 1) :: r) (hj : j < (sc v).length) : cost sc s' n < cost sc s n := by
  unfold cost
  rw [hi, e, e']
  simp only [List.map_append, List.map_cons, List.sum_append, List.sum_cons]
  omega
theorem cost_drop {sc : Nat → List Nat} {n : Nat} (s s' : St) {r : List (Nat × Nat)} {f : Nat × Nat} (hi : s'.idx = s.idx) (e : s.frs = f :: r) (e' : s'.frs = r) : cost sc s' n < cost sc s n := by
  unfold cost
  rw [hi, e, e']
  simp only [List.map_cons, List.sum_cons]
  omega
theorem cost_new {sc : Nat → List Nat} {n : Nat} (s s' : St) {r : List (Nat × Nat)} {v j k : Nat} {m : Int} (hm : 0 ≤ m) (hi : s'.idx = upd s.idx k m) (hk : k < n) (hu : s.idx k = -1) (e : s.frs = (v, j) :: r) (e' : s'.frs = (k, 0) :: (v, j + 1) :: r) (hj : j < (sc v).length) :
    cost sc s' n < cost sc s n := by
  unfold cost
  rw [e, e']
  have := sum_one (n := n) (k := k) (c := (sc k).length + 2) (fun v => if 0 ≤ s.idx v then 0 else (sc v).length + 2) (fun v => if 0 ≤ s'.idx v then 0 else (sc v).length + 2) hk
    (fun i h => by simp only [hi, upd_ne _ _ h]) (by simp only [hi, upd_same, hu]; simp [hm])
  simp only [List.map_cons, List.sum_cons]
  omega
end Go.Proofs.Yteaemnkllpfbgaa.Cal
