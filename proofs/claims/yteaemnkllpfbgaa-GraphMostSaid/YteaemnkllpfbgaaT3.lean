/- Tarjan's walk: what is kept between two rounds. -/
import Derived.Test.YteaemnkllpfbgaaT2
import Derived.Test.YteaemnkllpfbgaaPb
namespace Go.Proofs.Yteaemnkllpfbgaa
open Go.RowKit
open Cal (upd upd_same upd_ne St Inv upd_self)
set_option linter.unusedSimpArgs false
set_option linter.unusedVariables false

/-- Frames as cells. -/
def fcells (l : List (Nat × Value × Nat)) : List Value := l.flatMap fun f => [.int .i64 (f.1 : Int), f.2.1, .int .i64 (f.2.2 : Int)]
theorem fcells_length (l : List (Nat × Value × Nat)) : (fcells l).length = l.length * 3 := by
  induction l with
  | nil => rfl
  | cons f l ih =>
    have : fcells (f :: l) = [.int .i64 (f.1 : Int), f.2.1, .int .i64 (f.2.2 : Int)] ++ fcells l := by simp [fcells]
    rw [this, List.length_append, ih]; simp; omega
theorem fcells_snoc (l : List (Nat × Value × Nat)) (f : Nat × Value × Nat) : fcells (l ++ [f]) = fcells l ++ [.int .i64 (f.1 : Int), f.2.1, .int .i64 (f.2.2 : Int)] := by simp [fcells]
theorem fcells_at (l : List (Nat × Value × Nat)) (f : Nat × Value × Nat) (m : Nat) (hm : l.length = m) :
    (fcells (l ++ [f]))[m * 3]? = some (.int .i64 (f.1 : Int)) ∧ (fcells (l ++ [f]))[m * 3 + 1]? = some f.2.1 ∧ (fcells (l ++ [f]))[m * 3 + 2]? = some (.int .i64 (f.2.2 : Int)) := by
  subst hm
  rw [fcells_snoc]
  have := fcells_length l
  refine ⟨?_, ?_, ?_⟩ <;> rw [List.getElem?_append_right (by omega), this] <;> simp
theorem fcells_set (l : List (Nat × Value × Nat)) (v : Nat) (x : Value) (j j' m : Nat) (hm : l.length = m) :
    (fcells (l ++ [(v, x, j)])).set (m * 3 + 2) (.int .i64 (j' : Int)) = fcells (l ++ [(v, x, j')]) := by
  subst hm
  rw [fcells_snoc, fcells_snoc]
  have := fcells_length l
  rw [List.set_append_right _ _ (by omega), this]
  simp

theorem own_blk {w : World} {base n size b : Nat} {e : TypeId} {v : Value} {xs : List Value} (h : w.ownsRow base e size v n xs) (hv : v.ownBlock = some b) : ∃ cur, Blk w b cur e := by
  rcases h.2 with ⟨h0, _⟩ | ⟨g', cap, cur, h0, _, h2, _⟩
  · rw [h0] at hv; simp [Value.ownBlock] at hv
  · rw [h0] at hv
    obtain rfl : g' = b := by simpa [Value.ownBlock] using hv
    exact ⟨cur, h2⟩

section
variable {P : Program} {ops : Array Oper} {rest : List Oper} {o : Oper} {a : Act} {Q : Exit → Act → World → Prop}
/-- append(v, y), y of some cells. -/
theorem app_row {W : World} (hgd : o.guard = none) (s x : Operand) (t e : TypeId) (z : Value) (size bytes : Nat)
    (ho : o.op = .call { callee := .builtin .append, args := #[s, x], argTypes := #[t, t] })
    (ht : P.underlying t = some (.slice e)) (hinfo : (P.info? e).map (fun i => (i.zero, i.size, i.bytes)) = some (some z, size, bytes)) (hz : z.cells.size = size) (hs0 : 0 < size) (hb0 : 0 < bytes)
    (v : Value) (n : Nat) (xs ys : List Value) (hs : a.eval s = v) (bx : Nat) (hx : a.eval x = .slice (some ⟨bx, 0, none⟩) 1 1) (hbx : bx = W.heap.size) (hy : ys.length = size) (h1 : ∀ u ∈ ys, u.oneCell' = true)
    (base : Nat) (HO : W.ownsRow base e size v n xs) (hbase : base ≤ W.heap.size) (hl : (n + 1) * bytes ≤ 140737488355328)
    (h : ∀ v1 w1, w1.ownsRow base e size v1 (n + 1) (xs ++ ys) → Fr (fun b => v.ownBlock = some b) W w1 → (v1.ownBlock = v.ownBlock ∨ ∃ b, v1.ownBlock = some b ∧ W.heap.size ≤ b) → wpList P ops Q rest (a.put o.dst v1) w1) :
    wpList P ops Q (o :: rest) a (W.alloc (.cells ys.toArray e)) := by
  subst hbx
  obtain ⟨i0, hi, hzz⟩ := Option.map_eq_some_iff.1 hinfo
  simp only [Prod.mk.injEq] at hzz
  obtain ⟨hz0, hz1, hz2⟩ := hzz
  have hlen : n + 1 ≤ 140737488355328 := Nat.le_trans (Nat.le_mul_of_pos_right _ hb0) hl
  refine wpList_append_own_at (W.alloc (.cells ys.toArray e)) hgd s x t ho base e i0 z size bytes ht hi hz0 hz1 hz2 hz hs0 v n xs hs (HO.alloc _) ⟨W.heap.size, 0, none⟩ 1 1 ys hx (by omega)
    (fun j u hu => ?_) h1 (by simp only [maxLen]; omega) hl (by simp; omega) ?_
  · have ea : (⟨W.heap.size, 0, none⟩ : Addr).add j = ⟨W.heap.size, j, none⟩ := by unfold Addr.add; split <;> simp_all
    rw [ea]
    have := (Blk.new W ys.toArray e).cell j
    rw [this]; simpa using hu
  · intro v1 w1 hown hg _ hat
    refine h v1 w1 hown ?_ ?_
    · refine ((Fr.refl _ W).alloc _).trans (Fr.of_grown hg) (fun i hi e => e.symm)
    · rcases hat with hat | hat
      · exact .inl hat
      · exact .inr ⟨_, hat, by simp⟩
end

theorem info83 : (Try.prog.info? 83).map (fun i => (i.zero, i.size, i.bytes)) = some (some (.agg #[.int .i64 0, .slice none 0 0, .int .i64 0]), 3, 40) := by kernel_rfl

/-- How many things weren't met. -/
def unmet (n : Nat) (st : St) : Nat := ((List.range n).map fun v => if 0 ≤ st.idx v then 0 else 1).sum

/-- What is kept between two rounds. -/
structure WR (w wr : World) (tb g ib lb ob kb n B : Nat) (S : Nat → Int → Bool) (stv0 : Value) (fv : Value) (FL : List (Nat × Value × Nat)) (stv : Value) (st : St) : Prop where
  T : IsT wr tb g ib lb ob kb n B stv st
  inv : Inv n (sc n S) st
  frs : st.frs = FL.map fun f => (f.1, f.2.2)
  row : wr.ownsRow w.heap.size 83 3 fv FL.length (fcells FL.reverse)
  ls : ∀ f, f ∈ FL → wr.ownsRow w.heap.size 3 1 f.2.1 (sc n S f.1).length (cellsN (sc n S f.1)) ∧ (∀ b, f.2.1.ownBlock = some b → stv.ownBlock ≠ some b)
  fr : Fr (TF tb ib lb ob kb stv0) w wr
  loc : stv.ownBlock = stv0.ownBlock ∨ ∃ b, stv.ownBlock = some b ∧ w.heap.size ≤ b
  lt0 : ∀ b, TF tb ib lb ob kb stv0 b → b < w.heap.size
  cnt : st.met + unmet n st = n
  many : st.many + st.stk.length ≤ st.met

theorem WR.met {w wr : World} {tb g ib lb ob kb n B : Nat} {S : Nat → Int → Bool} {stv0 fv : Value} {FL : List (Nat × Value × Nat)} {stv : Value} {st : St} (h : WR w wr tb g ib lb ob kb n B S stv0 fv FL stv st) : st.met ≤ n := by
  have := h.cnt; omega
/-- What lies in the struct's blocks as they are now, and lay there ahead, was the struct's. -/
theorem WR.old {w wr : World} {tb g ib lb ob kb n B : Nat} {S : Nat → Int → Bool} {stv0 fv : Value} {FL : List (Nat × Value × Nat)} {stv : Value} {st : St} (h : WR w wr tb g ib lb ob kb n B S stv0 fv FL stv st) : ∀ b, b < w.heap.size → TF tb ib lb ob kb stv b → TF tb ib lb ob kb stv0 b := by
  intro b hb hT
  rcases hT with e | e | e | e | e | e
  · exact .inl e
  · exact .inr (.inl e)
  · exact .inr (.inr (.inl e))
  · exact .inr (.inr (.inr (.inl e)))
  · exact .inr (.inr (.inr (.inr (.inl e))))
  · rcases h.loc with h1 | ⟨b', h1, h2⟩
    · exact .inr (.inr (.inr (.inr (.inr (by rw [← h1]; exact e)))))
    · rw [h1] at e; simp at e; omega
/-- The frames' row is no block of the struct's, and no row of arrows is. -/
theorem WR.rowoff {w wr : World} {tb g ib lb ob kb n B : Nat} {S : Nat → Int → Bool} {stv0 fv : Value} {FL : List (Nat × Value × Nat)} {stv : Value} {st : St} (h : WR w wr tb g ib lb ob kb n B S stv0 fv FL stv st) : ∀ b, fv.ownBlock = some b → ¬ TF tb ib lb ob kb stv b := by
  intro b hb
  obtain ⟨cur, hc⟩ := own_blk h.row hb
  exact h.T.off hc (by decide) (by decide) (by decide)
theorem WR.lsoff {w wr : World} {tb g ib lb ob kb n B : Nat} {S : Nat → Int → Bool} {stv0 fv : Value} {FL : List (Nat × Value × Nat)} {stv : Value} {st : St} (h : WR w wr tb g ib lb ob kb n B S stv0 fv FL stv st) : ∀ f, f ∈ FL → ∀ b, f.2.1.ownBlock = some b → ¬ TF tb ib lb ob kb stv b ∧ fv.ownBlock ≠ some b := by
  intro f hf b hb
  obtain ⟨h1, h2⟩ := h.ls f hf
  have hge := (h1.lt b hb).1
  refine ⟨?_, ?_⟩
  · rintro (e | e | e | e | e | e)
    · have := h.lt0 b (.inl e); omega
    · have := h.lt0 b (.inr (.inl e)); omega
    · have := h.lt0 b (.inr (.inr (.inl e))); omega
    · have := h.lt0 b (.inr (.inr (.inr (.inl e)))); omega
    · have := h.lt0 b (.inr (.inr (.inr (.inr (.inl e))))); omega
    · exact h2 b hb e
  · intro e
    obtain ⟨c1, hc1⟩ := own_blk h1 hb
    obtain ⟨c2, hc2⟩ := own_blk h.row e
    exact hc1.ne hc2 (by decide) rfl
theorem WR.FLlen {w wr : World} {tb g ib lb ob kb n B : Nat} {S : Nat → Int → Bool} {stv0 fv : Value} {FL : List (Nat × Value × Nat)} {stv : Value} {st : St} (h : WR w wr tb g ib lb ob kb n B S stv0 fv FL stv st) : FL.length ≤ n := by
  have := h.inv.frslen
  rw [h.frs] at this
  simpa using this

theorem WR.keepRow {w wr w' : World} {tb g ib lb ob kb n B : Nat} {S : Nat → Int → Bool} {stv0 fv : Value} {FL : List (Nat × Value × Nat)} {stv : Value} {st : St} (h : WR w wr tb g ib lb ob kb n B S stv0 fv FL stv st)
    (hf : Fr (TF tb ib lb ob kb stv) wr w') : w'.ownsRow w.heap.size 83 3 fv FL.length (fcells FL.reverse) := own_fr h.row hf (fun b hb m => h.rowoff b hb m)
theorem WR.keepLs {w wr w' : World} {tb g ib lb ob kb n B : Nat} {S : Nat → Int → Bool} {stv0 fv : Value} {FL : List (Nat × Value × Nat)} {stv : Value} {st : St} (h : WR w wr tb g ib lb ob kb n B S stv0 fv FL stv st)
    (hf : Fr (TF tb ib lb ob kb stv) wr w') : ∀ f, f ∈ FL → w'.ownsRow w.heap.size 3 1 f.2.1 (sc n S f.1).length (cellsN (sc n S f.1)) := fun f hfm => own_fr (h.ls f hfm).1 hf (fun b hb m => (h.lsoff f hfm b hb).1 m)
theorem WR.frNext {w wr w' : World} {tb g ib lb ob kb n B : Nat} {S : Nat → Int → Bool} {stv0 fv : Value} {FL : List (Nat × Value × Nat)} {stv : Value} {st : St} (h : WR w wr tb g ib lb ob kb n B S stv0 fv FL stv st)
    (hf : Fr (TF tb ib lb ob kb stv) wr w') : Fr (TF tb ib lb ob kb stv0) w w' := h.fr.trans hf (fun i hi m => h.old i hi m)

theorem IsT.drew {w : World} {tb g ib lb ob kb n B : Nat} {stv : Value} {st : St} (h : IsT w tb g ib lb ob kb n B stv st) : IsT w.drew tb g ib lb ob kb n B stv st := h.fr ((Fr.refl (fun _ => False) w).drew) (by simp)
theorem IsT.setLow {w : World} {tb g ib lb ob kb n B : Nat} {stv : Value} {st : St} (h : IsT w tb g ib lb ob kb n B stv st) (u : Nat) (x : Int) :
    IsT (w.setCell ⟨lb, u, none⟩ (.int .i64 x)) tb g ib lb ob kb n B stv { st with low := upd st.low u x } := by
  have hf : Fr (fun b => b = lb) w (w.setCell ⟨lb, u, none⟩ (.int .i64 x)) := (Fr.refl (fun b => b = lb) w).set (p := ⟨lb, u, none⟩) (fun _ => rfl) _
  exact {
    t := hf.blk h.t (h.t.ne h.l (by decide))
    i := hf.blk h.i h.il
    l := by
      refine Eq.trans (h.l.setRow u (.int .i64 x)).eq ?_
      congr 2
      exact rowA_congr fun j _ => by simp only [upd, intC]; split <;> rfl
    o := hf.blk h.o (h.o.ne h.l (by decide))
    k := hf.blk h.k (fun e => h.lk e.symm)
    s := own_fr h.s hf (fun b hb e => h.sl (by rw [hb, e]))
    il := h.il
    ik := h.ik
    lk := h.lk
    si := h.si
    sl := h.sl
    sk := h.sk }
theorem IsT.congr {w : World} {tb g ib lb ob kb n B : Nat} {stv : Value} {st st' : St} (h : IsT w tb g ib lb ob kb n B stv st) (e1 : st'.idx = st.idx) (e2 : st'.low = st.low) (e3 : st'.on = st.on) (e4 : st'.stk = st.stk) (e5 : st'.knot = st.knot) (e6 : st'.met = st.met) (e7 : st'.many = st.many) :
    IsT w tb g ib lb ob kb n B stv st' := by
  cases st; cases st'
  simp only at e1 e2 e3 e4 e5 e6 e7
  subst e1; subst e2; subst e3; subst e4; subst e5; subst e6; subst e7
  exact ⟨h.t, h.i, h.l, h.o, h.k, h.s, h.il, h.ik, h.lk, h.si, h.sl, h.sk⟩

theorem unmet_congr (n : Nat) {st st' : St} (e : st'.idx = st.idx) : unmet n st' = unmet n st := by unfold unmet; rw [e]
theorem unmet_new {n k : Nat} {st st' : St} (hk : k < n) (hu : st.idx k = -1) {m : Int} (hm : 0 ≤ m) (e : st'.idx = upd st.idx k m) : unmet n st' + 1 = unmet n st := by
  unfold unmet
  exact Cal.sum_one (c := 1) _ _ hk (fun i h => by simp only [e, upd_ne _ _ h]) (by simp only [e, upd_same, hu]; simp [hm])

/-- The close's two ways in one word. -/
def ClosedAs (n : Nat) (k : Nat) (st st' : St) : Prop :=
  (st.low k ≠ st.idx k ∧ st' = st) ∨
  (st.low k = st.idx k ∧ ∃ out rest, st.stk = out ++ rest ∧ k ∈ out ∧ (∀ x, x ∈ out → x = k ∨ ∃ a b, out = a ++ b ∧ x ∈ a ∧ k ∈ b) ∧ st' = { popSt st out rest with many := st.many + 1 })

theorem close_any (g k tb ib lb ob kb n B : Nat) (stv : Value) (st : St) (w : World) (hT : IsT w tb g ib lb ob kb n B stv st) (hk : k < n) (hin : k ∈ st.stk) (hst : ∀ x, x ∈ st.stk → x < n)
    (hnd : st.stk.Nodup) (hsl : Small st.stk.length) (hmany : Small st.many) :
    Calls Try.prog 35 #[.pointer (some ⟨tb, 0, none⟩), .int .i64 k] w fun e w' => e = .returned (.tuple #[]) ∧ ∃ stv' st', ClosedAs n k st st' ∧ IsT w' tb g ib lb ob kb n B stv' st' ∧ Fr (TF tb ib lb ob kb stv) w w' ∧ stv'.ownBlock = stv.ownBlock := by
  by_cases h : st.low k = st.idx k
  · refine (close_pop g k tb ib lb ob kb n B stv st w hT hk h hin hst hnd hsl hmany).mono ?_
    rintro e w' ⟨rfl, stv', out, rest, h1, h2, h3, h4, h5, h6⟩
    exact ⟨rfl, stv', _, .inr ⟨h, out, rest, h1, h2, h3, rfl⟩, h4, h5, h6⟩
  · refine (close_skip g k tb ib lb ob kb n B stv st w hT hk h).mono ?_
    rintro e w' ⟨rfl, h4, h5⟩
    exact ⟨rfl, stv, st, .inl ⟨h, rfl⟩, h4, h5.mono (fun _ _ h => h.elim), rfl⟩

theorem ClosedAs.idx {n k : Nat} {st st' : St} (h : ClosedAs n k st st') : st'.idx = st.idx := by
  rcases h with ⟨_, rfl⟩ | ⟨_, out, rest, _, _, _, rfl⟩ <;> rfl
theorem ClosedAs.low {n k : Nat} {st st' : St} (h : ClosedAs n k st st') : st'.low = st.low := by
  rcases h with ⟨_, rfl⟩ | ⟨_, out, rest, _, _, _, rfl⟩ <;> rfl
theorem ClosedAs.met {n k : Nat} {st st' : St} (h : ClosedAs n k st st') : st'.met = st.met := by
  rcases h with ⟨_, rfl⟩ | ⟨_, out, rest, _, _, _, rfl⟩ <;> rfl
theorem ClosedAs.many {n k : Nat} {st st' : St} (h : ClosedAs n k st st') : st'.many + st'.stk.length ≤ st.many + st.stk.length := by
  rcases h with ⟨_, rfl⟩ | ⟨_, out, rest, h1, h2, _, rfl⟩
  · exact Nat.le_refl _
  · have h3 : 0 < out.length := List.length_pos_of_mem h2
    simp only [popSt]
    rw [h1, List.length_append]
    omega
/-- The top frame has ended: what holds of the rest. -/
theorem ClosedAs.last {n : Nat} {sc : Nat → List Nat} {k j : Nat} {st st' : St} {r : List (Nat × Nat)} (h : ClosedAs n k st st') (hI : Inv n sc st) (e : st.frs = (k, j) :: r) (hj : j = (sc k).length) :
    (r = [] → Inv n sc { st' with frs := r }) ∧ (∀ u i r', r = (u, i) :: r' → Inv n sc { st' with low := upd st'.low u (min (st'.low u) (st'.low k)), frs := r }) := by
  rcases h with ⟨hl, rfl⟩ | ⟨hl, out, rest, h1, h2, h3, rfl⟩
  · obtain ⟨u, i, r', er, h4⟩ := hI.leave e hj hl
    refine ⟨fun e2 => by rw [er] at e2; simp at e2, fun u' i' r'' e2 => ?_⟩
    rw [er] at e2
    simp only [List.cons.injEq, Prod.mk.injEq] at e2
    obtain ⟨⟨rfl, rfl⟩, rfl⟩ := e2
    exact h4
  · have hp := hI.popped h1 h2 h3
    have hsub : rest.Sublist st.stk := by rw [h1]; exact List.sublist_append_right _ _
    have h4 := hI.close e hj hl rest (fun x => if x ∈ out then false else st.on x) (fun x => if x ∈ out then st.many else st.knot x) (fun x => (hp x).2) hsub
      (fun x => by
        have := (hp x).1
        by_cases hx : x ∈ out
        · rw [if_pos hx, if_pos (this.1 hx)]
        · rw [if_neg hx, if_neg (fun h => hx (this.2 h))])
      (fun x => by
        have := (hp x).1
        by_cases hx : x ∈ out
        · rw [if_pos hx, if_pos (this.1 hx)]
        · rw [if_neg hx, if_neg (fun h => hx (this.2 h))])
    refine ⟨fun _ => h4.1, fun u i r' e2 => ?_⟩
    have h5 := h4.2 u i r' e2
    simp only [popSt]
    rw [h5, upd_self]
    exact h4.1
end Go.Proofs.Yteaemnkllpfbgaa
