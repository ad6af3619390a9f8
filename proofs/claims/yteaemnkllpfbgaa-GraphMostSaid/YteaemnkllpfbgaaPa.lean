/- Tarjan's knots, as a state machine over plain data: its invariant, and what it gives at the end. -/
namespace Go.Proofs.Yteaemnkllpfbgaa.Cal

/-- One thing reaches another one along arrows; `sc v`: where the arrows of v lead. -/
inductive Reach (sc : Nat → List Nat) : Nat → Nat → Prop
  | refl (a : Nat) : Reach sc a a
  | step {a b c : Nat} (h : b ∈ sc a) (t : Reach sc b c) : Reach sc a c

theorem Reach.trans {sc : Nat → List Nat} {a b c : Nat} (h : Reach sc a b) (k : Reach sc b c) : Reach sc a c := by
  induction h with
  | refl => exact k
  | step h _ ih => exact .step h (ih k)
theorem Reach.one {sc : Nat → List Nat} {a b : Nat} (h : b ∈ sc a) : Reach sc a b := .step h (.refl _)
/-- A set that arrows don't leave isn't left. -/
theorem Reach.closed {sc : Nat → List Nat} {P : Nat → Prop} (hP : ∀ a b, P a → b ∈ sc a → P b) {a b : Nat} (h : Reach sc a b) (ha : P a) : P b := by
  induction h with
  | refl => exact ha
  | step h _ ih => exact ih (hP _ _ ha h)

def upd {α : Type} (f : Nat → α) (i : Nat) (v : α) : Nat → α := fun j => if j = i then v else f j
theorem upd_same {α : Type} (f : Nat → α) (i : Nat) (v : α) : upd f i v i = v := by simp [upd]
theorem upd_ne {α : Type} (f : Nat → α) {i j : Nat} (v : α) (h : j ≠ i) : upd f i v j = f j := by simp [upd, h]

/-- The state: `stk` and `frs` have their tops first; a frame is a thing, and how many of its arrows were gone along. -/
structure St where
  idx : Nat → Int
  low : Nat → Int
  on : Nat → Bool
  stk : List Nat
  knot : Nat → Nat
  met : Nat
  many : Nat
  frs : List (Nat × Nat)

/-- An arrow of x that was gone along. -/
def St.seen (sc : Nat → List Nat) (s : St) (x y : Nat) : Prop :=
  (∀ f, f ∈ s.frs → f.1 = x → ∃ j, j < f.2 ∧ (sc x)[j]? = some y) ∧ y ∈ sc x

structure Inv (n : Nat) (sc : Nat → List Nat) (s : St) : Prop where
  bound : ∀ v, 0 ≤ s.idx v → v < n
  ge : ∀ v, -1 ≤ s.idx v
  lt : ∀ v, s.idx v < s.met
  inj : ∀ u v, 0 ≤ s.idx u → s.idx u = s.idx v → u = v
  onstk : ∀ v, s.on v = true ↔ v ∈ s.stk
  stkmet : ∀ v, v ∈ s.stk → 0 ≤ s.idx v
  sorted : s.stk.Pairwise (fun a b => s.idx b < s.idx a)
  frstk : ∀ f, f ∈ s.frs → f.1 ∈ s.stk
  frsorted : s.frs.Pairwise (fun a b => s.idx b.1 < s.idx a.1)
  frlen : ∀ f, f ∈ s.frs → f.2 ≤ (sc f.1).length
  black : ∀ v, 0 ≤ s.idx v → s.on v = false → ∀ w, w ∈ sc v → 0 ≤ s.idx w ∧ s.on w = false
  knots : ∀ u v, 0 ≤ s.idx u → s.on u = false → 0 ≤ s.idx v → s.on v = false → (s.knot u = s.knot v ↔ Reach sc u v ∧ Reach sc v u)
  many : ∀ u, 0 ≤ s.idx u → s.on u = false → s.knot u < s.many
  seenmet : ∀ x y, x ∈ s.stk → s.seen sc x y → 0 ≤ s.idx y
  lows : ∀ f, f ∈ s.frs → ∀ x y, x ∈ s.stk → s.idx f.1 ≤ s.idx x → s.seen sc x y → s.on y = true → s.idx y < s.idx f.1 →
    ∃ g, g ∈ s.frs ∧ s.idx f.1 ≤ s.idx g.1 ∧ s.idx g.1 ≤ s.idx x ∧ s.low g.1 ≤ s.idx y
  lowat : ∀ f, f ∈ s.frs → s.low f.1 ≤ s.idx f.1 ∧ ∃ z, z ∈ s.stk ∧ s.idx z = s.low f.1 ∧ Reach sc f.1 z
  up : ∀ x, x ∈ s.stk → ∃ f, f ∈ s.frs ∧ s.idx f.1 ≤ s.idx x ∧ Reach sc x f.1
  down : ∀ x, x ∈ s.stk → ∀ f, f ∈ s.frs → s.idx f.1 ≤ s.idx x → Reach sc f.1 x

/-- At the beginning. -/
theorem Inv.start (n : Nat) (sc : Nat → List Nat) (lw : Nat → Int) (kn : Nat → Nat) :
    Inv n sc { idx := fun _ => -1, low := lw, on := fun _ => false, stk := [], knot := kn, met := 0, many := 0, frs := [] } := by
  constructor <;> simp <;> omega

/-- A thing is met: on the stack, and a frame. -/
def St.meet (s : St) (k : Nat) : St :=
  { s with idx := upd s.idx k s.met, low := upd s.low k s.met, on := upd s.on k true, stk := k :: s.stk, met := s.met + 1, frs := (k, 0) :: s.frs }

/-- The top frame goes along one arrow more. -/
def St.next (s : St) : St :=
  match s.frs with
  | (v, j) :: r => { s with frs := (v, j + 1) :: r }
  | [] => s

theorem top_max {s : St} {n : Nat} {sc : Nat → List Nat} (h : Inv n sc s) {t : Nat × Nat} {r : List (Nat × Nat)} (e : s.frs = t :: r) : ∀ f, f ∈ s.frs → s.idx f.1 ≤ s.idx t.1 := by
  intro f hf
  have := h.frsorted
  rw [e] at this hf
  rcases List.mem_cons.1 hf with rfl | hf
  · omega
  · have := (List.pairwise_cons.1 this).1 f hf
    omega

/-- A thing that wasn't met is met, by an arrow of the top frame, or from nowhere. -/
theorem Inv.meet {n : Nat} {sc : Nat → List Nat} {s : St} (h : Inv n sc s) (k : Nat) (hk : k < n) (hu : s.idx k = -1)
    (ht : ∀ f, f ∈ s.frs → Reach sc f.1 k)  :
    Inv n sc (s.meet k) := by
  have hns : k ∉ s.stk := fun hm => by have := h.stkmet k hm; omega
  have hne : ∀ v, v ∈ s.stk → v ≠ k := fun v hv e => hns (e ▸ hv)
  have hfne : ∀ f, f ∈ s.frs → f.1 ≠ k := fun f hf => hne _ (h.frstk f hf)
  have hi : ∀ v, v ≠ k → upd s.idx k s.met v = s.idx v := fun v hv => upd_ne _ _ hv
  have hseen : ∀ x y, x ≠ k → (s.meet k).seen sc x y → s.seen sc x y := by
    rintro x y hx ⟨h1, h2⟩
    exact ⟨fun f hf e => h1 f (by simp [St.meet, hf]) e, h2⟩
  constructor
  case bound =>
    intro v hv
    by_cases e : v = k
    · omega
    · exact h.bound v (by simpa [St.meet, upd, e] using hv)
  case ge =>
    intro v
    have := h.ge v
    simp only [St.meet, upd]; split <;> omega
  case lt =>
    intro v
    have := h.lt v
    simp only [St.meet, upd]; split <;> omega
  case inj =>
    intro u v h0 he
    simp only [St.meet, upd] at h0 he
    have hu1 := h.lt u; have hv1 := h.lt v
    split at he <;> split at he <;> try omega
    rename_i a b
    rw [if_neg a] at h0
    exact h.inj u v h0 he
  case onstk =>
    intro v
    simp only [St.meet, upd, List.mem_cons]
    by_cases e : v = k
    · simp [e]
    · simp [e, h.onstk v]
  case stkmet =>
    intro v hv
    simp only [St.meet, upd, List.mem_cons] at hv ⊢
    split
    · omega
    · rename_i e
      exact h.stkmet v (by simpa [e] using hv)
  case sorted =>
    simp only [St.meet, List.pairwise_cons]
    refine ⟨fun v hv => ?_, ?_⟩
    · rw [upd_same, hi v (hne v hv)]
      exact h.lt v
    · refine h.sorted.imp_of_mem ?_
      intro a b ha hb hab
      rw [hi a (hne a ha), hi b (hne b hb)]; exact hab
  case frstk =>
    intro f hf
    simp only [St.meet, List.mem_cons] at hf ⊢
    rcases hf with rfl | hf
    · exact .inl rfl
    · exact .inr (h.frstk f hf)
  case frsorted =>
    simp only [St.meet, List.pairwise_cons]
    refine ⟨fun f hf => ?_, ?_⟩
    · rw [upd_same, hi _ (hfne f hf)]
      exact h.lt _
    · refine h.frsorted.imp_of_mem ?_
      intro a b ha hb hab
      rw [hi _ (hfne a ha), hi _ (hfne b hb)]; exact hab
  case frlen =>
    intro f hf
    simp only [St.meet, List.mem_cons] at hf
    rcases hf with rfl | hf
    · exact Nat.zero_le _
    · exact h.frlen f hf
  case black =>
    intro v hv ho w hw
    have e : v ≠ k := fun e => by simp [St.meet, upd, e] at ho
    have h1 : 0 ≤ s.idx v := by simpa [St.meet, upd, e] using hv
    have h2 : s.on v = false := by simpa [St.meet, upd, e] using ho
    obtain ⟨h3, h4⟩ := h.black v h1 h2 w hw
    have e2 : w ≠ k := fun e => by rw [e] at h3; omega
    simp [St.meet, upd, e2, h3, h4]
  case knots =>
    intro u v hu0 hu1 hv0 hv1
    have e : u ≠ k := fun e => by simp [St.meet, upd, e] at hu1
    have e2 : v ≠ k := fun e => by simp [St.meet, upd, e] at hv1
    exact h.knots u v (by simpa [St.meet, upd, e] using hu0) (by simpa [St.meet, upd, e] using hu1) (by simpa [St.meet, upd, e2] using hv0) (by simpa [St.meet, upd, e2] using hv1)
  case many =>
    intro u hu0 hu1
    have e : u ≠ k := fun e => by simp [St.meet, upd, e] at hu1
    exact h.many u (by simpa [St.meet, upd, e] using hu0) (by simpa [St.meet, upd, e] using hu1)
  case seenmet =>
    intro x y hx hs
    by_cases e : x = k
    · obtain ⟨j, hj, _⟩ := hs.1 (k, 0) (by simp [St.meet]) e.symm
      omega
    · have hx' : x ∈ s.stk := by simpa [St.meet, e] using hx
      have := h.seenmet x y hx' (hseen x y e hs)
      simp only [St.meet, upd]; split <;> omega
  case lows =>
    intro f hf x y hx hfx hs hy hyf
    by_cases e : x = k
    · obtain ⟨j, hj, _⟩ := hs.1 (k, 0) (by simp [St.meet]) e.symm
      omega
    · have hx' : x ∈ s.stk := by simpa [St.meet, e] using hx
      have hm := h.seenmet x y hx' (hseen x y e hs)
      have hyk : y ≠ k := fun e => by rw [e] at hm; omega
      simp only [St.meet] at hfx hyf hy
      rw [hi x e] at hfx
      rw [hi y hyk] at hyf
      have hy' : s.on y = true := by simpa [upd, hyk] using hy
      have hfk : f.1 ≠ k := fun e' => by
        rw [e', upd_same] at hfx
        have := h.lt x
        omega
      rw [hi _ hfk] at hfx hyf
      have hf' : f ∈ s.frs := by
        simp only [St.meet, List.mem_cons] at hf
        rcases hf with rfl | hf
        · exact absurd rfl hfk
        · exact hf
      obtain ⟨g, hg, h1, h2, h3⟩ := h.lows f hf' x y hx' hfx (hseen x y e hs) hy' hyf
      refine ⟨g, by simp [St.meet, hg], ?_, ?_, ?_⟩
      · simp only [St.meet]; rw [hi _ hfk, hi _ (hfne g hg)]; exact h1
      · simp only [St.meet]; rw [hi _ e, hi _ (hfne g hg)]; exact h2
      · simp only [St.meet]; rw [hi _ hyk, upd_ne _ _ (hfne g hg)]; exact h3
  case lowat =>
    intro f hf
    simp only [St.meet, List.mem_cons] at hf
    rcases hf with rfl | hf
    · refine ⟨by simp [St.meet, upd], k, by simp [St.meet], by simp [St.meet, upd], .refl _⟩
    · obtain ⟨h1, z, hz, h2, h3⟩ := h.lowat f hf
      refine ⟨?_, z, by simp [St.meet, hz], ?_, h3⟩
      · simp only [St.meet]; rw [hi _ (hfne f hf), upd_ne _ _ (hfne f hf)]; exact h1
      · simp only [St.meet]; rw [hi _ (hne z hz), upd_ne _ _ (hfne f hf)]; exact h2
  case up =>
    intro x hx
    by_cases e : x = k
    · subst e
      exact ⟨(x, 0), by simp [St.meet], Int.le_refl _, .refl _⟩
    · have hx' : x ∈ s.stk := by simpa [St.meet, e] using hx
      obtain ⟨f, hf, h1, h2⟩ := h.up x hx'
      refine ⟨f, by simp [St.meet, hf], ?_, h2⟩
      simp only [St.meet]; rw [hi _ e, hi _ (hfne f hf)]; exact h1
  case down =>
    intro x hx f hf hle
    by_cases e : x = k
    · subst e
      simp only [St.meet, List.mem_cons] at hf
      rcases hf with rfl | hf
      · exact .refl _
      · exact ht f hf
    · have hx' : x ∈ s.stk := by simpa [St.meet, e] using hx
      simp only [St.meet, List.mem_cons] at hf
      rcases hf with rfl | hf
      · simp only [St.meet] at hle
        rw [upd_same, hi x e] at hle
        have := h.lt x
        omega
      · simp only [St.meet] at hle
        rw [hi x e, hi _ (hfne f hf)] at hle
        exact h.down x hx' f hf hle


theorem mem_frs_top {s : St} {v j : Nat} {r : List (Nat × Nat)} (e : s.frs = (v, j) :: r) (hs : s.frs.Pairwise (fun a b => s.idx b.1 < s.idx a.1)) : ∀ f, f ∈ r → f.1 ≠ v := by
  intro f hf e2
  rw [e] at hs
  have := (List.pairwise_cons.1 hs).1 f hf
  rw [e2] at this
  simp at this

/-- The top frame goes along an arrow that leads to what was met; `lo`: its low then. -/
theorem Inv.along {n : Nat} {sc : Nat → List Nat} {s : St} (h : Inv n sc s) {v j k : Nat} {r : List (Nat × Nat)} (e : s.frs = (v, j) :: r) (hk : (sc v)[j]? = some k)
    (hm : 0 ≤ s.idx k) (lo : Int) (h1 : lo ≤ s.low v) (h2 : lo = s.low v ∨ (s.on k = true ∧ lo = s.idx k)) (h3 : s.on k = true → lo ≤ s.idx k) :
    Inv n sc { s with low := upd s.low v lo, frs := (v, j + 1) :: r } := by
  have hfr := mem_frs_top e h.frsorted
  have hmem : ∀ f, f ∈ r → f ∈ s.frs := fun f hf => by rw [e]; exact List.mem_cons_of_mem _ hf
  have htop : (v, j) ∈ s.frs := by rw [e]; exact List.mem_cons_self
  have hkm : k ∈ sc v := List.mem_of_getElem? hk
  have hseen : ∀ x y, ({ s with low := upd s.low v lo, frs := (v, j + 1) :: r } : St).seen sc x y → s.seen sc x y ∨ (x = v ∧ y = k) := by
    rintro x y ⟨hx, hy⟩
    by_cases exv : x = v
    · subst exv
      obtain ⟨i, hi, hs⟩ := hx (x, j + 1) (by simp) rfl
      by_cases ei : i = j
      · subst ei
        rw [hk] at hs
        exact .inr ⟨rfl, by simpa using hs.symm⟩
      · refine .inl ⟨fun f hf ef => ?_, hy⟩
        rw [e] at hf
        rcases List.mem_cons.1 hf with rfl | hf
        · exact ⟨i, by simp at hi ⊢; omega, hs⟩
        · exact absurd ef (hfr f hf)
    · refine .inl ⟨fun f hf ef => ?_, hy⟩
      rw [e] at hf
      rcases List.mem_cons.1 hf with rfl | hf
      · exact absurd ef.symm exv
      · exact hx f (List.mem_cons_of_mem _ hf) ef
  -- a frame of the new state stands for one of the old state
  have hold : ∀ f, f ∈ (v, j + 1) :: r → ∃ g, g ∈ s.frs ∧ g.1 = f.1 := by
    intro f hf
    rcases List.mem_cons.1 hf with rfl | hf
    · exact ⟨_, htop, rfl⟩
    · exact ⟨f, hmem f hf, rfl⟩
  have hnew : ∀ g, g ∈ s.frs → ∃ f, f ∈ (v, j + 1) :: r ∧ f.1 = g.1 := by
    intro g hg
    rw [e] at hg
    rcases List.mem_cons.1 hg with rfl | hg
    · exact ⟨(v, j + 1), List.mem_cons_self, rfl⟩
    · exact ⟨g, List.mem_cons_of_mem _ hg, rfl⟩
  have hlow : ∀ u, upd s.low v lo u ≤ s.low u := by
    intro u
    simp only [upd]; split
    · rename_i e; rw [e]; exact h1
    · omega
  constructor
  case bound => exact h.bound
  case ge => exact h.ge
  case lt => exact h.lt
  case inj => exact h.inj
  case onstk => exact h.onstk
  case stkmet => exact h.stkmet
  case sorted => exact h.sorted
  case frstk =>
    intro f hf
    obtain ⟨g, hg, eg⟩ := hold f hf
    rw [← eg]; exact h.frstk g hg
  case frsorted =>
    have := h.frsorted
    rw [e] at this
    exact List.pairwise_cons.2 (List.pairwise_cons.1 this)
  case frlen =>
    intro f hf
    rcases List.mem_cons.1 hf with rfl | hf
    · have := (List.getElem?_eq_some_iff.1 hk).1
      simp; omega
    · exact h.frlen f (hmem f hf)
  case black => exact h.black
  case knots => exact h.knots
  case many => exact h.many
  case seenmet =>
    intro x y hx hs
    rcases hseen x y hs with hs | ⟨rfl, rfl⟩
    · exact h.seenmet x y hx hs
    · exact hm
  case lows =>
    intro f hf x y hx hfx hs hy hyf
    obtain ⟨f', hf', ef⟩ := hold f hf
    rcases hseen x y hs with hs | ⟨rfl, rfl⟩
    · obtain ⟨g, hg, a, b, c⟩ := h.lows f' hf' x y hx (by rw [ef]; exact hfx) hs hy (by rw [ef]; exact hyf)
      obtain ⟨g', hg', eg⟩ := hnew g hg
      have := hlow g.1
      refine ⟨g', hg', ?_, ?_, ?_⟩ <;> rw [eg] <;> simp only <;> first | (rw [← ef]; exact a) | exact b | omega
    · refine ⟨(x, j + 1), List.mem_cons_self, hfx, Int.le_refl _, ?_⟩
      simp only [upd_same]
      exact h3 hy
  case lowat =>
    intro f hf
    obtain ⟨f', hf', ef⟩ := hold f hf
    obtain ⟨a, z, hz, b, c⟩ := h.lowat f' hf'
    rw [ef] at a b c
    by_cases ev : f.1 = v
    · have h0 := h.stkmet v (by have := h.frstk _ htop; simpa using this)
      simp only [ev] at a b c ⊢
      rw [upd_same]
      rcases h2 with h2 | ⟨ho, h2⟩
      · exact ⟨by omega, z, hz, by omega, c⟩
      · exact ⟨by omega, k, (h.onstk k).1 ho, h2.symm, .one hkm⟩
    · exact ⟨by simp only; rw [upd_ne _ _ ev]; exact a, z, hz, by simp only; rw [upd_ne _ _ ev]; exact b, c⟩
  case up =>
    intro x hx
    obtain ⟨f, hf, a, b⟩ := h.up x hx
    obtain ⟨g, hg, eg⟩ := hnew f hf
    exact ⟨g, hg, by rw [eg]; exact a, by rw [eg]; exact b⟩
  case down =>
    intro x hx f hf hle
    obtain ⟨g, hg, eg⟩ := hold f hf
    rw [← eg]
    exact h.down x hx g hg (by rw [eg]; exact hle)

/-- What lies on the stack down to a thing, and what lies below. -/
def cut (v : Nat) : List Nat → List Nat × List Nat
  | [] => ([], [])
  | k :: l => if k = v then ([k], l) else (k :: (cut v l).1, (cut v l).2)

theorem cut_append (v : Nat) (l : List Nat) : (cut v l).1 ++ (cut v l).2 = l := by
  induction l with
  | nil => rfl
  | cons k l ih => simp only [cut]; split <;> simp [ih]

/-- The top frame, all of whose arrows were gone along, ends without a knot of its own. -/
theorem Inv.leave {n : Nat} {sc : Nat → List Nat} {s : St} (h : Inv n sc s) {v j : Nat} {r : List (Nat × Nat)} (e : s.frs = (v, j) :: r) (hj : j = (sc v).length)
    (hl : s.low v ≠ s.idx v) :
    ∃ u i r', r = (u, i) :: r' ∧ Inv n sc { s with low := upd s.low u (min (s.low u) (s.low v)), frs := r } := by
  have hfr := mem_frs_top e h.frsorted
  have hmem : ∀ f, f ∈ r → f ∈ s.frs := fun f hf => by rw [e]; exact List.mem_cons_of_mem _ hf
  have htop : (v, j) ∈ s.frs := by rw [e]; exact List.mem_cons_self
  have hmax := top_max h e
  obtain ⟨la, z, hz, lb, lc⟩ := h.lowat _ htop
  simp only at la lb lc
  -- z's frame is one below
  have hbelow : ∀ x, x ∈ s.stk → Reach sc x v → s.idx v ≤ s.idx x → ∃ f, f ∈ r ∧ s.idx f.1 ≤ s.idx x ∧ Reach sc x f.1 := by
    intro x hx hxv hvx
    obtain ⟨g, hg, a, b⟩ := h.up z hz
    have hgr : g ∈ r := by
      rw [e] at hg
      rcases List.mem_cons.1 hg with rfl | hg
      · simp only at a; omega
      · exact hg
    exact ⟨g, hgr, by omega, hxv.trans (lc.trans b)⟩
  obtain ⟨f0, hf0, _⟩ := hbelow v (by have := h.frstk _ htop; simpa using this) (.refl _) (Int.le_refl _)
  obtain ⟨⟨u, i⟩, r', er⟩ : ∃ p r', r = p :: r' := by cases r with
    | nil => simp at hf0
    | cons p r' => exact ⟨p, r', rfl⟩
  refine ⟨u, i, r', er, ?_⟩
  have hur : (u, i) ∈ r := by rw [er]; exact List.mem_cons_self
  have huv : u ≠ v := hfr _ hur
  have hsr : r.Pairwise (fun a b => s.idx b.1 < s.idx a.1) := by
    have := h.frsorted; rw [e] at this; exact (List.pairwise_cons.1 this).2
  have hrmax : ∀ f, f ∈ r → s.idx f.1 ≤ s.idx u := by
    intro f hf
    rw [er] at hf hsr
    rcases List.mem_cons.1 hf with rfl | hf
    · simp
    · have := (List.pairwise_cons.1 hsr).1 f hf
      simp only at this; omega
  have huvi : s.idx u < s.idx v := by
    have := h.frsorted; rw [e] at this
    exact (List.pairwise_cons.1 this).1 _ hur
  have hseen : ∀ x y, x ∈ s.stk → ({ s with low := upd s.low u (min (s.low u) (s.low v)), frs := r } : St).seen sc x y → s.seen sc x y := by
    rintro x y _ ⟨hx, hy⟩
    refine ⟨fun f hf ef => ?_, hy⟩
    rw [e] at hf
    rcases List.mem_cons.1 hf with rfl | hf
    · simp only at ef
      subst ef
      obtain ⟨i, hi⟩ := List.getElem?_of_mem hy
      exact ⟨i, by simp only; rw [hj]; exact (List.getElem?_eq_some_iff.1 hi).1, hi⟩
    · exact hx f hf ef
  have hlow : ∀ x, upd s.low u (min (s.low u) (s.low v)) x ≤ s.low x := by
    intro x
    simp only [upd]; split
    · rename_i e; rw [e]; omega
    · omega
  constructor
  case bound => exact h.bound
  case ge => exact h.ge
  case lt => exact h.lt
  case inj => exact h.inj
  case onstk => exact h.onstk
  case stkmet => exact h.stkmet
  case sorted => exact h.sorted
  case frstk => exact fun f hf => h.frstk f (hmem f hf)
  case frsorted => exact hsr
  case frlen => exact fun f hf => h.frlen f (hmem f hf)
  case black => exact h.black
  case knots => exact h.knots
  case many => exact h.many
  case seenmet => exact fun x y hx hs => h.seenmet x y hx (hseen x y hx hs)
  case lows =>
    intro f hf x y hx hfx hs hy hyf
    obtain ⟨g, hg, a, b, c⟩ := h.lows f (hmem f hf) x y hx hfx (hseen x y hx hs) hy hyf
    rw [e] at hg
    rcases List.mem_cons.1 hg with rfl | hg
    · simp only at a b c
      refine ⟨(u, i), hur, hrmax f hf, by simp only; omega, ?_⟩
      simp only [upd_same]; omega
    · have := hlow g.1
      exact ⟨g, hg, a, b, by simp only; omega⟩
  case lowat =>
    intro f hf
    obtain ⟨a, y, hy, b, c⟩ := h.lowat f (hmem f hf)
    by_cases ev : f.1 = u
    · simp only [ev] at a b c ⊢
      rw [upd_same]
      have huvr : Reach sc u v := by
        have := h.down v (by have := h.frstk _ htop; simpa using this) (u, i) (hmem _ hur) (by simp only; omega)
        exact this
      by_cases hle : s.low u ≤ s.low v
      · exact ⟨by omega, y, hy, by omega, c⟩
      · exact ⟨by omega, z, hz, by omega, huvr.trans lc⟩
    · exact ⟨by simp only; rw [upd_ne _ _ ev]; exact a, y, hy, by simp only; rw [upd_ne _ _ ev]; exact b, c⟩
  case up =>
    intro x hx
    obtain ⟨f, hf, a, b⟩ := h.up x hx
    rw [e] at hf
    rcases List.mem_cons.1 hf with rfl | hf
    · exact hbelow x hx b a
    · exact ⟨f, hf, a, b⟩
  case down => exact fun x hx f hf hle => h.down x hx f (hmem f hf) hle

/-- The top frame, all of whose arrows were gone along, closes a knot. -/
theorem Inv.close {n : Nat} {sc : Nat → List Nat} {s : St} (h : Inv n sc s) {v j : Nat} {r : List (Nat × Nat)} (e : s.frs = (v, j) :: r) (hj : j = (sc v).length)
    (hl : s.low v = s.idx v) (stk' : List Nat) (on' : Nat → Bool) (knot' : Nat → Nat)
    (hstk : ∀ x, x ∈ stk' ↔ x ∈ s.stk ∧ s.idx x < s.idx v) (hsub : stk'.Sublist s.stk)
    (hon : ∀ x, on' x = if x ∈ s.stk ∧ s.idx v ≤ s.idx x then false else s.on x)
    (hkn : ∀ x, knot' x = if x ∈ s.stk ∧ s.idx v ≤ s.idx x then s.many else s.knot x) :
    Inv n sc { s with on := on', stk := stk', knot := knot', many := s.many + 1, frs := r } ∧
      (∀ u i r', r = (u, i) :: r' → min (s.low u) (s.low v) = s.low u) := by
  have hfr := mem_frs_top e h.frsorted
  have hmem : ∀ f, f ∈ r → f ∈ s.frs := fun f hf => by rw [e]; exact List.mem_cons_of_mem _ hf
  have htop : (v, j) ∈ s.frs := by rw [e]; exact List.mem_cons_self
  have hvs : v ∈ s.stk := by have := h.frstk _ htop; simpa using this
  have hmax := top_max h e
  have hsr : r.Pairwise (fun a b => s.idx b.1 < s.idx a.1) := by
    have := h.frsorted; rw [e] at this; exact (List.pairwise_cons.1 this).2
  have hlt : ∀ f, f ∈ r → s.idx f.1 < s.idx v := by
    have := h.frsorted; rw [e] at this
    exact fun f hf => (List.pairwise_cons.1 this).1 f hf
  -- what is popped: all of it and v reach one another
  have hto : ∀ x, x ∈ s.stk → s.idx v ≤ s.idx x → Reach sc v x := fun x hx hle => h.down x hx (v, j) htop hle
  have hback : ∀ x, x ∈ s.stk → s.idx v ≤ s.idx x → Reach sc x v := by
    intro x hx hle
    obtain ⟨f, hf, a, b⟩ := h.up x hx
    exact b.trans (h.down v hvs f hf (hmax f hf))
  have hseen : ∀ x y, x ∈ s.stk → s.idx v ≤ s.idx x → y ∈ sc x → s.seen sc x y := by
    intro x y hx hle hy
    refine ⟨fun f hf ef => ?_, hy⟩
    rw [e] at hf
    rcases List.mem_cons.1 hf with rfl | hf
    · simp only at ef
      subst ef
      obtain ⟨i, hi⟩ := List.getElem?_of_mem hy
      exact ⟨i, by simp only; rw [hj]; exact (List.getElem?_eq_some_iff.1 hi).1, hi⟩
    · have := hlt f hf
      rw [ef] at this; omega
  -- the set of what is popped, and what was closed before, isn't left
  have hclosed : ∀ x y, x ∈ s.stk → s.idx v ≤ s.idx x → y ∈ sc x → (0 ≤ s.idx y ∧ (s.on y = false ∨ (y ∈ s.stk ∧ s.idx v ≤ s.idx y))) := by
    intro x y hx hle hy
    have hs := hseen x y hx hle hy
    have hm := h.seenmet x y hx hs
    refine ⟨hm, ?_⟩
    cases ho : s.on y with
    | false => exact .inl rfl
    | true =>
      have hy2 := (h.onstk y).1 ho
      refine .inr ⟨hy2, ?_⟩
      by_cases hlt2 : s.idx y < s.idx v
      · obtain ⟨g, hg, a, b, c⟩ := h.lows (v, j) htop x y hx hle hs ho hlt2
        simp only at a
        have hgm := hmax g hg
        simp only at hgm
        have hgv : g.1 = v := h.inj _ _ (h.stkmet _ (h.frstk g hg)) (by omega)
        rw [hgv] at c
        omega
      · omega
  refine ⟨?_, ?_⟩
  · constructor
    case bound => exact h.bound
    case ge => exact h.ge
    case lt => exact h.lt
    case inj => exact h.inj
    case onstk =>
      intro x
      simp only [hon, hstk]
      split
      · rename_i hc; simp; intro _; omega
      · rename_i hc
        rw [h.onstk x]
        constructor
        · intro hx; exact ⟨hx, by by_cases hh : s.idx x < s.idx v; exact hh; exact absurd ⟨hx, by omega⟩ hc⟩
        · exact fun hx => hx.1
    case stkmet => exact fun x hx => h.stkmet x ((hstk x).1 hx).1
    case sorted => exact h.sorted.sublist hsub
    case frstk => exact fun f hf => (hstk _).2 ⟨h.frstk f (hmem f hf), hlt f hf⟩
    case frsorted => exact hsr
    case frlen => exact fun f hf => h.frlen f (hmem f hf)
    case black =>
      intro x hx ho y hy
      simp only [hon] at ho ⊢
      by_cases hc : x ∈ s.stk ∧ s.idx v ≤ s.idx x
      · obtain ⟨h1, h2⟩ := hclosed x y hc.1 hc.2 hy
        refine ⟨h1, ?_⟩
        rcases h2 with h2 | h2
        · split
          · rfl
          · exact h2
        · rw [if_pos h2]
      · rw [if_neg hc] at ho
        obtain ⟨h1, h2⟩ := h.black x hx ho y hy
        refine ⟨h1, ?_⟩
        split
        · rfl
        · exact h2
    case knots =>
      intro a b ha hao hb hbo
      simp only at ha hb
      simp only [hon] at hao hbo
      -- a thing that was closed before doesn't reach what is popped
      have hno : ∀ a b, 0 ≤ s.idx a → s.on a = false → b ∈ s.stk → ¬ Reach sc a b := by
        intro a b ha0 ha1 hb hr
        have := hr.closed (P := fun x => 0 ≤ s.idx x ∧ s.on x = false) (fun x y hx hy => h.black x hx.1 hx.2 y hy) ⟨ha0, ha1⟩
        have h2 := (h.onstk b).2 hb
        rw [this.2] at h2; simp at h2
      simp only [hkn]
      by_cases ca : a ∈ s.stk ∧ s.idx v ≤ s.idx a
      · by_cases cb : b ∈ s.stk ∧ s.idx v ≤ s.idx b
        · rw [if_pos ca, if_pos cb]
          simp only [true_iff]
          exact ⟨(hback a ca.1 ca.2).trans (hto b cb.1 cb.2), (hback b cb.1 cb.2).trans (hto a ca.1 ca.2)⟩
        · rw [if_neg cb] at hbo
          rw [if_pos ca, if_neg cb]
          have := h.many b hb hbo
          constructor
          · intro hh; omega
          · intro hh; exact absurd hh.2 (hno b a hb hbo ca.1)
      · rw [if_neg ca] at hao
        by_cases cb : b ∈ s.stk ∧ s.idx v ≤ s.idx b
        · rw [if_neg ca, if_pos cb]
          have := h.many a ha hao
          constructor
          · intro hh; omega
          · intro hh; exact absurd hh.1 (hno a b ha hao cb.1)
        · rw [if_neg cb] at hbo
          rw [if_neg ca, if_neg cb]
          exact h.knots a b ha hao hb hbo
    case many =>
      intro a ha hao
      simp only [hon] at hao
      simp only [hkn]
      by_cases ca : a ∈ s.stk ∧ s.idx v ≤ s.idx a
      · rw [if_pos ca]; omega
      · rw [if_neg ca] at hao ⊢
        have := h.many a ha hao
        omega
    case seenmet =>
      intro x y hx hs
      obtain ⟨hx1, hx2⟩ := (hstk x).1 hx
      refine h.seenmet x y hx1 ⟨fun f hf ef => ?_, hs.2⟩
      rw [e] at hf
      rcases List.mem_cons.1 hf with rfl | hf
      · simp only at ef; rw [ef] at hx2; omega
      · exact hs.1 f hf ef
    case lows =>
      intro f hf x y hx hfx hs hy hyf
      obtain ⟨hx1, hx2⟩ := (hstk x).1 hx
      have hs' : s.seen sc x y := by
        refine ⟨fun f hf ef => ?_, hs.2⟩
        rw [e] at hf
        rcases List.mem_cons.1 hf with rfl | hf
        · simp only at ef; rw [ef] at hx2; omega
        · exact hs.1 f hf ef
      have hy' : s.on y = true := by
        simp only [hon] at hy
        split at hy
        · simp at hy
        · exact hy
      obtain ⟨g, hg, a, b, c⟩ := h.lows f (hmem f hf) x y hx1 hfx hs' hy' hyf
      rw [e] at hg
      rcases List.mem_cons.1 hg with rfl | hg
      · simp only at b; omega
      · exact ⟨g, hg, a, b, c⟩
    case lowat =>
      intro f hf
      obtain ⟨a, z, hz, b, c⟩ := h.lowat f (hmem f hf)
      have := hlt f hf
      exact ⟨a, z, (hstk z).2 ⟨hz, by omega⟩, b, c⟩
    case up =>
      intro x hx
      obtain ⟨hx1, hx2⟩ := (hstk x).1 hx
      obtain ⟨f, hf, a, b⟩ := h.up x hx1
      rw [e] at hf
      rcases List.mem_cons.1 hf with rfl | hf
      · simp only at a; omega
      · exact ⟨f, hf, a, b⟩
    case down => exact fun x hx f hf hle => h.down x ((hstk x).1 hx).1 f (hmem f hf) hle
  · intro u i r' er
    have hur : (u, i) ∈ r := by rw [er]; exact List.mem_cons_self
    have h1 := (h.lowat _ (hmem _ hur)).1
    have h2 := hlt _ hur
    simp only at h1 h2
    omega

/-- When no frame is left, nothing lies on the stack. -/
theorem Inv.empty {n : Nat} {sc : Nat → List Nat} {s : St} (h : Inv n sc s) (e : s.frs = []) : s.stk = [] := by
  cases hs : s.stk with
  | nil => rfl
  | cons x l =>
    obtain ⟨f, hf, _⟩ := h.up x (by rw [hs]; exact List.mem_cons_self)
    rw [e] at hf; simp at hf

/-- At the end: things are of one knot just if they reach one another. -/
theorem Inv.final {n : Nat} {sc : Nat → List Nat} {s : St} (h : Inv n sc s) (e : s.frs = []) (hall : ∀ v, v < n → 0 ≤ s.idx v) :
    ∀ u v, u < n → v < n → (s.knot u = s.knot v ↔ Reach sc u v ∧ Reach sc v u) := by
  intro u v hu hv
  have hs := h.empty e
  have ho : ∀ x, s.on x = false := by
    intro x
    cases hx : s.on x with
    | false => rfl
    | true => have := (h.onstk x).1 hx; rw [hs] at this; simp at this
  exact h.knots u v (hall u hu) (ho u) (hall v hv) (ho v)

/-- What is left to do. -/
def cost (sc : Nat → List Nat) (s : St) (n : Nat) : Nat :=
  ((List.range n).map fun v => if 0 ≤ s.idx v then 0 else (sc v).length + 2).sum + (s.frs.map fun f => (sc f.1).length - f.2 + 1).sum

/-! ### Going through all that is reached, the nearest ones first -/
theorem length_le_of_lt {n : Nat} : ∀ {l : List Nat}, l.Nodup → (∀ x, x ∈ l → x < n) → l.length ≤ n := by
  induction n with
  | zero =>
    intro l _ h
    cases l with
    | nil => simp
    | cons a l => exact absurd (h a List.mem_cons_self) (by omega)
  | succ n ih =>
    intro l hd h
    by_cases hn : n ∈ l
    · have h1 := ih (hd.erase n) (fun x hx => by
        have h2 := (hd.mem_erase_iff.1 hx)
        have := h x h2.2
        have := h2.1
        omega)
      rw [List.length_erase_of_mem hn] at h1
      omega
    · have := ih hd (fun x hx => by
        have h2 := h x hx
        have : x ≠ n := fun e => hn (e ▸ hx)
        omega)
      omega

/-- A walk of so many steps. -/
inductive Steps (sc : Nat → List Nat) : Nat → Nat → Nat → Prop
  | zero (a : Nat) : Steps sc a a 0
  | succ {a b c d : Nat} (t : Steps sc a b d) (h : c ∈ sc b) : Steps sc a c (d + 1)
theorem Steps.reach {sc : Nat → List Nat} {a b d : Nat} (h : Steps sc a b d) : Reach sc a b := by
  induction h with
  | zero => exact .refl _
  | succ t h ih => exact ih.trans (.one h)
theorem Steps.cons {sc : Nat → List Nat} {a b c d : Nat} (h : b ∈ sc a) (t : Steps sc b c d) : Steps sc a c (d + 1) := by
  induction t with
  | zero => exact .succ (.zero _) h
  | succ t h' ih => exact .succ ih h'
theorem Reach.steps {sc : Nat → List Nat} {a b : Nat} (h : Reach sc a b) : ∃ d, Steps sc a b d := by
  induction h with
  | refl => exact ⟨0, .zero _⟩
  | step h _ ih =>
    obtain ⟨d, hd⟩ := ih
    exact ⟨d + 1, .cons h hd⟩

/-- While it is gone through: i things are done, and j arrows of the next one. -/
structure BInv (sc : Nat → List Nat) (n src : Nat) (fr : Nat → Int) (l : List Nat) (dep : Nat → Nat) (i j : Nat) : Prop where
  nodup : l.Nodup
  lt : ∀ x, x ∈ l → x < n
  met : ∀ k, k < n → (fr k = -1 ↔ k ∉ l)
  first : src ∈ l ∧ fr src = (src : Int) ∧ dep src = 0
  pred : ∀ x, x ∈ l → x ≠ src → ∃ p : Nat, fr x = (p : Int) ∧ p ∈ l ∧ x ∈ sc p ∧ dep x = dep p + 1
  sorted : ∀ (a b x y : Nat), a ≤ b → l[a]? = some x → l[b]? = some y → dep x ≤ dep y
  near : ∀ (x y : Nat), l[i]? = some x → y ∈ l → dep y ≤ dep x + 1
  done : ∀ (a x y : Nat), a < i → l[a]? = some x → y ∈ sc x → y ∈ l ∧ dep y ≤ dep x + 1
  part : ∀ (x b y : Nat), l[i]? = some x → b < j → (sc x)[b]? = some y → y ∈ l
  le : i ≤ l.length

theorem BInv.start (sc : Nat → List Nat) (n src : Nat) (h : src < n) : BInv sc n src (upd (fun _ => -1) src (src : Int)) [src] (fun _ => 0) 0 0 where
  nodup := by simp
  lt := by simp [h]
  met := by
    intro k hk
    simp only [upd]
    split <;> simp_all <;> omega
  first := by simp [upd]
  pred := by intro x hx hn; simp at hx; exact absurd hx hn
  sorted := by intros; exact Nat.le_refl _
  near := by intros; omega
  done := by intro a x y ha; omega
  part := by intro x b y _ hb; omega
  le := Nat.zero_le _

/-- The next arrow leads to what was met. -/
theorem BInv.old {sc : Nat → List Nat} {n src : Nat} {fr : Nat → Int} {l : List Nat} {dep : Nat → Nat} {i j : Nat} (h : BInv sc n src fr l dep i j) {x k : Nat} (hx : l[i]? = some x) (hk : (sc x)[j]? = some k) (hkn : k < n) (hf : fr k ≠ -1) :
    BInv sc n src fr l dep i (j + 1) :=
  { h with
    part := by
      intro x' b y hx' hb hy
      obtain rfl : x' = x := by rw [hx] at hx'; simpa using hx'.symm
      by_cases e : b = j
      · subst e
        obtain rfl : y = k := by rw [hk] at hy; simpa using hy.symm
        by_cases hm : y ∈ l
        · exact hm
        · exact absurd ((h.met y hkn).2 hm) hf
      · exact h.part x' b y hx (by omega) hy }

/-- The next arrow leads to what wasn't met. -/
theorem BInv.new {sc : Nat → List Nat} {n src : Nat} {fr : Nat → Int} {l : List Nat} {dep : Nat → Nat} {i j : Nat} (h : BInv sc n src fr l dep i j) {x k : Nat} (hx : l[i]? = some x) (hk : (sc x)[j]? = some k) (hkn : k < n) (hf : fr k = -1) :
    BInv sc n src (upd fr k (x : Int)) (l ++ [k]) (upd dep k (dep x + 1)) i (j + 1) := by
  have hkl : k ∉ l := (h.met k hkn).1 hf
  have hne : ∀ y, y ∈ l → y ≠ k := fun y hy e => hkl (e ▸ hy)
  have hil : i < l.length := (List.getElem?_eq_some_iff.1 hx).1
  have hxl : x ∈ l := List.mem_of_getElem? hx
  have hd : ∀ y, y ∈ l → upd dep k (dep x + 1) y = dep y := fun y hy => upd_ne _ _ (hne y hy)
  have hget : ∀ {a y}, (l ++ [k])[a]? = some y → (a < l.length ∧ l[a]? = some y) ∨ (a = l.length ∧ y = k) := by
    intro a y ha
    by_cases hal : a < l.length
    · rw [List.getElem?_append_left hal] at ha
      exact .inl ⟨hal, ha⟩
    · have h2 := (List.getElem?_eq_some_iff.1 ha).1
      simp at h2
      obtain rfl : a = l.length := by omega
      simp at ha
      exact .inr ⟨rfl, ha.symm⟩
  have hnear : ∀ y, y ∈ l ++ [k] → upd dep k (dep x + 1) y ≤ dep x + 1 := by
    intro y hy
    rcases List.mem_append.1 hy with hy | hy
    · rw [hd y hy]; exact h.near x y hx hy
    · simp at hy; rw [hy, upd_same]; omega
  constructor
  case nodup => exact List.nodup_append.2 ⟨h.nodup, by simp, fun a ha b hb => by simp at hb; rw [hb]; exact hne a ha⟩
  case lt =>
    intro y hy
    rcases List.mem_append.1 hy with hy | hy
    · exact h.lt y hy
    · simp at hy; omega
  case met =>
    intro y hy
    by_cases e : y = k
    · subst e; simp [upd]
    · simp [upd, e, h.met y hy]
  case first =>
    have h1 := h.first
    have e := hne src h1.1
    exact ⟨List.mem_append_left _ h1.1, by rw [upd_ne _ _ e]; exact h1.2.1, by rw [upd_ne _ _ e]; exact h1.2.2⟩
  case pred =>
    intro y hy hys
    rcases List.mem_append.1 hy with hy | hy
    · obtain ⟨p, h1, h2, h3, h4⟩ := h.pred y hy hys
      exact ⟨p, by rw [upd_ne _ _ (hne y hy)]; exact h1, List.mem_append_left _ h2, h3, by rw [hd y hy, hd p h2]; exact h4⟩
    · simp at hy
      subst hy
      exact ⟨x, upd_same _ _ _, List.mem_append_left _ hxl, List.mem_of_getElem? hk, by rw [upd_same, hd x hxl]⟩
  case sorted =>
    intro a b u v hab hu hv
    rcases hget hu with ⟨hu1, hu2⟩ | ⟨hu1, hu2⟩ <;> rcases hget hv with ⟨hv1, hv2⟩ | ⟨hv1, hv2⟩
    · rw [hd u (List.mem_of_getElem? hu2), hd v (List.mem_of_getElem? hv2)]
      exact h.sorted a b u v hab hu2 hv2
    · rw [hv2, upd_same]
      exact hnear u (List.mem_append_left _ (List.mem_of_getElem? hu2))
    · omega
    · rw [hu2, hv2]; exact Nat.le_refl _
  case near =>
    intro x' y hx' hy
    rw [List.getElem?_append_left hil] at hx'
    obtain rfl : x' = x := by rw [hx] at hx'; simpa using hx'.symm
    rw [hd x' hxl]
    exact hnear y hy
  case done =>
    intro a u y ha hu hy
    rw [List.getElem?_append_left (by omega)] at hu
    obtain ⟨h1, h2⟩ := h.done a u y ha hu hy
    exact ⟨List.mem_append_left _ h1, by rw [hd y h1, hd u (List.mem_of_getElem? hu)]; exact h2⟩
  case part =>
    intro x' b y hx' hb hy
    rw [List.getElem?_append_left hil] at hx'
    obtain rfl : x' = x := by rw [hx] at hx'; simpa using hx'.symm
    by_cases e : b = j
    · subst e
      obtain rfl : y = k := by rw [hk] at hy; simpa using hy.symm
      simp
    · exact List.mem_append_left _ (h.part x' b y hx (by omega) hy)
  case le => simp; omega

/-- A thing is done. -/
theorem BInv.next {sc : Nat → List Nat} {n src : Nat} {fr : Nat → Int} {l : List Nat} {dep : Nat → Nat} {i j : Nat} (h : BInv sc n src fr l dep i j) {x : Nat} (hx : l[i]? = some x) (hj : (sc x).length ≤ j) :
    BInv sc n src fr l dep (i + 1) 0 :=
  { h with
    near := by
      intro x' y hx' hy
      have := h.near x y hx hy
      have := h.sorted i (i + 1) x x' (by omega) hx hx'
      omega
    done := by
      intro a u y ha hu hy
      by_cases e : a = i
      · subst e
        obtain rfl : u = x := by rw [hx] at hu; simpa using hu.symm
        obtain ⟨b, hb⟩ := List.getElem?_of_mem hy
        have hbl := (List.getElem?_eq_some_iff.1 hb).1
        have hyl := h.part u b y hx (by omega) hb
        exact ⟨hyl, h.near u y hx hyl⟩
      · exact h.done a u y (by omega) hu hy
    part := by intro x b y _ hb; omega
    le := (List.getElem?_eq_some_iff.1 hx).1 }

/-- What is known at the end. -/
structure BDone (sc : Nat → List Nat) (n src : Nat) (fr : Nat → Int) (l : List Nat) (dep : Nat → Nat) : Prop where
  lt : ∀ x, x ∈ l → x < n
  len : l.length ≤ n
  met : ∀ k, k < n → (fr k = -1 ↔ k ∉ l)
  first : src ∈ l ∧ fr src = (src : Int) ∧ dep src = 0
  pred : ∀ x, x ∈ l → x ≠ src → ∃ p : Nat, fr x = (p : Int) ∧ p ∈ l ∧ x ∈ sc p ∧ dep x = dep p + 1
  closed : ∀ x y, x ∈ l → y ∈ sc x → y ∈ l ∧ dep y ≤ dep x + 1

theorem BInv.len {sc : Nat → List Nat} {n src : Nat} {fr : Nat → Int} {l : List Nat} {dep : Nat → Nat} {i j : Nat} (h : BInv sc n src fr l dep i j) : l.length ≤ n := length_le_of_lt h.nodup h.lt
theorem BInv.over {sc : Nat → List Nat} {n src : Nat} {fr : Nat → Int} {l : List Nat} {dep : Nat → Nat} {i j : Nat} (h : BInv sc n src fr l dep i j) (hi : l.length ≤ i) : BDone sc n src fr l dep where
  lt := h.lt
  len := h.len
  met := h.met
  first := h.first
  pred := h.pred
  closed := by
    intro x y hx hy
    obtain ⟨a, ha⟩ := List.getElem?_of_mem hx
    have := (List.getElem?_eq_some_iff.1 ha).1
    exact h.done a x y (by omega) ha hy

section
variable {sc : Nat → List Nat} {n src : Nat} {fr : Nat → Int} {l : List Nat} {dep : Nat → Nat}
theorem BDone.near (h : BDone sc n src fr l dep) {x d : Nat} (hs : Steps sc src x d) : x ∈ l ∧ dep x ≤ d := by
  have : ∀ a x d, Steps sc a x d → a = src → x ∈ l ∧ dep x ≤ d := by
    intro a x d hs
    induction hs with
    | zero => intro e; subst e; exact ⟨h.first.1, by rw [h.first.2.2]; omega⟩
    | succ t hc ih =>
      intro e
      obtain ⟨h1, h2⟩ := ih e
      obtain ⟨h3, h4⟩ := h.closed _ _ h1 hc
      exact ⟨h3, by omega⟩
  exact this src x d hs rfl
theorem BDone.walk (h : BDone sc n src fr l dep) : ∀ d x, x ∈ l → dep x = d → Steps sc src x d := by
  intro d
  induction d with
  | zero =>
    intro x hx hd
    by_cases e : x = src
    · subst e; exact .zero _
    · obtain ⟨p, _, _, _, h4⟩ := h.pred x hx e
      omega
  | succ d ih =>
    intro x hx hd
    have e : x ≠ src := fun e => by rw [e, h.first.2.2] at hd; omega
    obtain ⟨p, _, h2, h3, h4⟩ := h.pred x hx e
    exact .succ (ih p h2 (by omega)) h3
theorem BDone.reach (h : BDone sc n src fr l dep) (x : Nat) : x ∈ l ↔ Reach sc src x := by
  constructor
  · intro hx; exact (h.walk _ x hx rfl).reach
  · intro hr
    obtain ⟨d, hd⟩ := hr.steps
    exact (h.near hd).1
end
end Go.Proofs.Yteaemnkllpfbgaa.Cal
