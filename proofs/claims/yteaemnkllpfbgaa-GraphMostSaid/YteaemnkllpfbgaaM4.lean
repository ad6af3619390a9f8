/- Most: what lies in memory between its parts. -/
import Derived.Test.YteaemnkllpfbgaaA7
import Derived.Test.YteaemnkllpfbgaaM3
import Derived.Test.YteaemnkllpfbgaaM2
namespace Go.Proofs.Yteaemnkllpfbgaa
open Go.RowKit Go.Shelf Go.Maps
open Cal (upd upd_same upd_ne)
set_option linter.unusedSimpArgs false
set_option linter.unusedVariables false

theorem Blk.new' {w : World} {b : Nat} (cs : Array Value) (t : TypeId) (hb : b = w.heap.size) : Blk (w.alloc (.cells cs t)) b cs t := by subst hb; exact Blk.new w cs t
theorem blk_data {W : World} {b : Nat} {cs : Array Value} {t : TypeId} (h : Blk W b cs t) : ∀ o, W.heap[b]? = some o → isData o = true := fun o ho => by
  rw [h.eq] at ho; cases ho; rfl
theorem mapIs_data {W : World} {r c : Nat} {S : Int → Bool} (h : MapIs W r c S) : ∀ o, W.heap[r]? = some o → isData o = true := fun o ho => by
  obtain ⟨D, ⟨es, clock, hb, _⟩, _⟩ := h
  rw [hb] at ho; cases ho; rfl
theorem mapN_data {W : World} {r c : Nat} {T : Int → Option Nat} (h : MapN W r c T) : ∀ o, W.heap[r]? = some o → isData o = true := fun o ho => by
  obtain ⟨D, ⟨es, clock, hb, _⟩, _⟩ := h
  rw [hb] at ho; cases ho; rfl
theorem foot_data {W : World} {g s n c : Nat} {ms : Nat → Option Nat} {S : Nat → Int → Bool} (h : IsG W g s n ms c S) {b : Nat} (hb : foot s n ms b) : ∀ o, W.heap[b]? = some o → isData o = true := by
  rcases hb with rfl | ⟨k, hk, e⟩
  · exact blk_data h.sb
  · exact mapIs_data (h.some_ k hk b e)

/-- The turn of one block that is no data, as a frame. -/
theorem fr_bk {W W' : World} {row : Option Nat} {B : Nat} (hg : W.grownBy W' row) (hr : ∀ r, row = some r → B ≤ r ∧ ∃ o : Obj, W.heap[r]? = some o ∧ isData o = false) :
    ∃ M : Nat → Prop, Fr M W W' ∧ (∀ b, M b → B ≤ b) ∧ ∀ b, M b → ∃ o : Obj, W.heap[b]? = some o ∧ isData o = false :=
  ⟨fun k => some k = row, Fr.of_grown hg, fun b e => (hr b e.symm).1, fun b e => (hr b e.symm).2⟩
theorem not_bk {W : World} {M : Nat → Prop} (hM : ∀ b, M b → ∃ o : Obj, W.heap[b]? = some o ∧ isData o = false) {b : Nat} (hlt : b < W.heap.size) (hd : ∀ o, W.heap[b]? = some o → isData o = true) : ¬ M b := fun h => by
  obtain ⟨o, ho, hi⟩ := hM b h
  rw [hd o ho] at hi; cases hi

/-- A block of deferred calls, empty, beyond w. -/
structure Dfd (w W : World) (D : Nat) : Prop where
  d : W.heap[D]? = some (.deferred (some []))
  ge : w.heap.size ≤ D
theorem Dfd.fr {M : Nat → Prop} {w W W' : World} {D : Nat} (h : Dfd w W D) (hf : Fr M W W') (hM : ∀ b, M b → ∀ o, W.heap[b]? = some o → isData o = true) : Dfd w W' D :=
  ⟨(hf.block D (Array.getElem?_eq_some_iff.1 h.d).1 (fun hm => by have := hM D hm _ h.d; cases this)).trans h.d, h.ge⟩

/-- The graph of all arrows, and the boxes, as the first loops keep them. -/
structure MA (w W : World) (gX sX xb n c : Nat) (ms : Nat → Option Nat) (S : Nat → Int → Bool) : Prop where
  G : GW w W gX sX n c ms S
  bx : Blk W xb #[.pointer (some ⟨gX, 0, none⟩)] 24
  xge : w.heap.size ≤ xb

theorem MA.fr {M : Nat → Prop} {w W W' : World} {gX sX xb n c : Nat} {ms : Nat → Option Nat} {S : Nat → Int → Bool} (h : MA w W gX sX xb n c ms S) (hf : Fr M W W') (hB : ∀ b, M b → w.heap.size ≤ b)
    (h1 : ¬ M gX) (h2 : ∀ b, M b → ¬ foot sX n ms b) (h3 : ¬ M xb) : MA w W' gX sX xb n c ms S :=
  ⟨h.G.fr hf hB h1 h2, hf.blk h.bx h3, h.xge⟩
theorem MA.quiet {w W W' : World} {gX sX xb n c : Nat} {ms : Nat → Option Nat} {S : Nat → Int → Bool} (h : MA w W gX sX xb n c ms S) (hf : Fr (fun _ => False) W W') : MA w W' gX sX xb n c ms S :=
  h.fr hf (fun _ e => e.elim) (fun e => e) (fun _ e => e.elim) (fun e => e)
theorem MA.bk {B : Nat} {w W W' : World} {gX sX xb n c : Nat} {ms : Nat → Option Nat} {S : Nat → Int → Bool} {row : Option Nat} (h : MA w W gX sX xb n c ms S) (hwB : w.heap.size ≤ B) (hg : W.grownBy W' row)
    (hr : ∀ r, row = some r → B ≤ r ∧ ∃ o : Obj, W.heap[r]? = some o ∧ isData o = false) : MA w W' gX sX xb n c ms S := by
  obtain ⟨M, hf, hB, hM⟩ := fr_bk hg hr
  refine h.fr hf (fun b hb => Nat.le_trans hwB (hB b hb)) (not_bk hM h.G.lt (blk_data h.G.G.gb)) (fun b hb hft => ?_) (not_bk hM h.bx.lt (blk_data h.bx))
  obtain ⟨o, ho, hi⟩ := hM b hb
  rw [foot_data h.G.G hft o ho] at hi; cases hi
/-- An arrow is added. -/
theorem MA.add {w W W' : World} {gX sX xb n c a b : Nat} {ms ms' : Nat → Option Nat} {S : Nat → Int → Bool} (h : MA w W gX sX xb n c ms S) (hG : GW w W' gX sX n (c + 1) ms' (addS S a b)) (hf : Fr (foot sX n ms) W W') :
    MA w W' gX sX xb n (c + 1) ms' (addS S a b) :=
  ⟨hG, hf.blk h.bx (h.G.G.off h.bx (by decide)), h.xge⟩

/-- The pairs of arrows. -/
def prs {n : Nat} {S : Nat → Int → Bool} (xs : List (Arw n S)) : List (Int × Int) := xs.map fun x => ((x.1.1 : Int), (x.1.2 : Int))
theorem prs_snoc {n : Nat} {S : Nat → Int → Bool} (xs : List (Arw n S)) (x : Arw n S) : prs (xs ++ [x]) = prs xs ++ [((x.1.1 : Int), (x.1.2 : Int))] := by simp [prs]

/-- The knots' row, in its box. -/
structure MK (w W : World) (kx ob n : Nat) (kv : Value) (κ : Nat → Nat) : Prop where
  bk : Blk W kx #[kv] 30
  bv : 0 < n → kv = .slice (some ⟨ob, 0, none⟩) n n ∧ Blk W ob (rowA n (natC κ)) 3
  kge : w.heap.size ≤ kx
  bel : Below w.heap.size w W
theorem MK.fr {M : Nat → Prop} {w W W' : World} {kx ob n : Nat} {kv : Value} {κ : Nat → Nat} (h : MK w W kx ob n kv κ) (hf : Fr M W W') (hB : ∀ b, M b → w.heap.size ≤ b) (h1 : ¬ M kx) (h2 : 0 < n → ¬ M ob) : MK w W' kx ob n kv κ :=
  ⟨hf.blk h.bk h1, fun hn => ⟨(h.bv hn).1, hf.blk (h.bv hn).2 (h2 hn)⟩, h.kge, h.bel.trans (hf.below _ hB h.bel.size)⟩

/-- The counter. -/
structure MC (w W : World) (px cb tb bb m c : Nat) (f : Nat → Option Nat) (T : Nat → Int → Option Nat) : Prop where
  fp : Blk W px #[.pointer (some ⟨cb, 0, none⟩)] 74
  fc : Blk W cb #[.slice (some ⟨tb, 0, none⟩) m m, .slice (some ⟨bb, 0, none⟩) m m] 77
  ft : Blk W tb (rowA m fun x => .map (f x)) 62
  fb : Blk W bb (rowA m fun _ => .int .i64 (-1)) 3
  mp : ∀ x, x < m → ∀ r, f x = some r → MapN W r c (T x)
  inj : ∀ x y r, x < m → y < m → f x = some r → f y = some r → x = y
  ge : w.heap.size ≤ px ∧ w.heap.size ≤ cb ∧ w.heap.size ≤ tb ∧ w.heap.size ≤ bb ∧ ∀ x r, x < m → f x = some r → w.heap.size ≤ r
theorem MC.fr {M : Nat → Prop} {w W W' : World} {px cb tb bb m c : Nat} {f : Nat → Option Nat} {T : Nat → Int → Option Nat} (h : MC w W px cb tb bb m c f T) (hf : Fr M W W') (h1 : ¬ M px) (h2 : ¬ M cb) (h3 : ¬ M tb) (h4 : ¬ M bb)
    (h5 : ∀ x r, x < m → f x = some r → ¬ M r) : MC w W' px cb tb bb m c f T where
  fp := hf.blk h.fp h1
  fc := hf.blk h.fc h2
  ft := hf.blk h.ft h3
  fb := hf.blk h.fb h4
  mp := fun x hx r hr => (h.mp x hx r hr).fr hf (h5 x r hx hr)
  inj := h.inj
  ge := h.ge
theorem MC.quiet {w W W' : World} {px cb tb bb m c : Nat} {f : Nat → Option Nat} {T : Nat → Int → Option Nat} (h : MC w W px cb tb bb m c f T) (hf : Fr (fun _ => False) W W') : MC w W' px cb tb bb m c f T :=
  h.fr hf (fun e => e) (fun e => e) (fun e => e) (fun e => e) (fun _ _ _ _ e => e)
/-- A map is made. -/
theorem MC.make {w W : World} {px cb tb bb m c i : Nat} {f : Nat → Option Nat} (h : MC w W px cb tb bb m c f (fun _ _ => none)) (hi : i < m) (hB : w.heap.size ≤ W.heap.size) :
    MC w ((W.alloc (.map #[] 0)).setCell ⟨tb, i, none⟩ (.map (some W.heap.size))) px cb tb bb m c (upd f i (some W.heap.size)) (fun _ _ => none) := by
  have hf : Fr (fun b => b = tb) W ((W.alloc (.map #[] 0)).setCell ⟨tb, i, none⟩ (.map (some W.heap.size))) := ((Fr.refl (fun b => b = tb) W).alloc _).set (p := ⟨tb, i, none⟩) (fun _ => rfl) _
  have hfs : Fr (fun b => b = tb) (W.alloc (.map #[] 0)) ((W.alloc (.map #[] 0)).setCell ⟨tb, i, none⟩ (.map (some W.heap.size))) := (Fr.refl (fun b => b = tb) _).set (p := ⟨tb, i, none⟩) (fun _ => rfl) _
  have hnew : MapN (W.alloc (.map #[] 0)) W.heap.size c (fun _ => none) :=
    ⟨_, (World.ownsMap_made (H := Unit) W Try.prog 3 (plainElem Try.prog 3)).mono (Nat.zero_le _), fun k => by rfl, fun k v e => by cases e⟩
  have htl := h.ft.lt
  exact {
    fp := hf.blk h.fp (h.fp.ne h.ft (by decide))
    fc := hf.blk h.fc (h.fc.ne h.ft (by decide))
    ft := by
      refine Eq.trans ((h.ft.alloc (.map #[] 0)).setRow i (.map (some W.heap.size))).eq ?_
      congr 2
      refine rowA_congr fun k _ => ?_
      simp only [upd]; split <;> rfl
    fb := hf.blk h.fb (h.fb.ne h.ft (by decide))
    mp := fun x hx r hr => by
      by_cases e : x = i
      · subst e
        obtain rfl : W.heap.size = r := by simpa [upd] using hr
        exact hnew.fr hfs (by omega)
      · have hr' : f x = some r := by simpa [upd, e] using hr
        exact (h.mp x hx r hr').fr hf ((h.mp x hx r hr').ne h.ft)
    inj := fun x y r hx hy e1 e2 => by
      simp only [upd] at e1 e2
      split at e1 <;> split at e2
      · omega
      · have := (h.mp y hy r e2).lt; simp at e1; omega
      · have := (h.mp x hx r e1).lt; simp at e2; omega
      · exact h.inj x y r hx hy e1 e2
    ge := ⟨h.ge.1, h.ge.2.1, h.ge.2.2.1, h.ge.2.2.2.1, fun x r hx hr => by
      by_cases e : x = i
      · subst e
        obtain rfl : W.heap.size = r := by simpa [upd] using hr
        exact hB
      · exact h.ge.2.2.2.2 x r hx (by simpa [upd, e] using hr)⟩ }

/-- One entry more. -/
def putT (T : Nat → Int → Option Nat) (x y v : Nat) : Nat → Int → Option Nat := fun a k => if a = x ∧ k = (y : Int) then some v else T a k
theorem mapN_put {W' : World} {r c y v : Nat} {T : Int → Option Nat} {D : DataW Unit} (hh : ∀ k : Int, Maps.has D (.int .i64 k) = (T k).isSome) (ha : ∀ k v, T k = some v → ∀ z, D.atKey (.int .i64 k) z = .lit (.int .i64 (v : Int))) (hm : Maps.IsMap D)
    (ho : W'.ownsMap (H := Unit) Try.prog 3 (plainElem Try.prog 3) r c (D.put (.int .i64 (y : Int)) (.lit (.int .i64 (v : Int))))) : MapN W' r c (fun k => if k = (y : Int) then some v else T k) := by
  refine ⟨_, ho, fun k => ?_, fun k u e z => ?_⟩
  · rw [has_put D hm, hh k]
    by_cases e : k = (y : Int)
    · simp [e]
    · simp [e]
  · simp only at e
    by_cases e2 : k = (y : Int)
    · subst e2
      rw [if_pos rfl] at e; cases e
      rw [Maps.atKey_put_same hm (show WideAt.IsKeyLit (.int .i64 (y : Int)) from trivial)]
    · rw [if_neg e2] at e
      have e' : (Lit.int .i64 k) ≠ .int .i64 (y : Int) := by simp; omega
      rw [Maps.atKey_put_other e', ha k u e]
/-- A map is written. -/
theorem MC.put {w W W' : World} {px cb tb bb m c x y v r : Nat} {f : Nat → Option Nat} {T : Nat → Int → Option Nat} {D : DataW Unit} (h : MC w W px cb tb bb m c f T) (hx : x < m) (hr : f x = some r)
    (hh : ∀ k : Int, Maps.has D (.int .i64 k) = (T x k).isSome) (ha : ∀ k v, T x k = some v → ∀ z, D.atKey (.int .i64 k) z = .lit (.int .i64 (v : Int))) (hm : Maps.IsMap D)
    (ho : W'.ownsMap (H := Unit) Try.prog 3 (plainElem Try.prog 3) r (c + 1) (D.put (.int .i64 (y : Int)) (.lit (.int .i64 (v : Int))))) (hg : W.grownBy W' (some r)) :
    MC w W' px cb tb bb m (c + 1) f (putT T x y v) := by
  have hf : Fr (fun b => b = r) W W' := (Fr.of_grown hg).mono fun i _ e => by simpa using e
  have hN := h.mp x hx r hr
  exact {
    fp := hf.blk h.fp (hN.ne h.fp).symm
    fc := hf.blk h.fc (hN.ne h.fc).symm
    ft := hf.blk h.ft (hN.ne h.ft).symm
    fb := hf.blk h.fb (hN.ne h.fb).symm
    mp := fun z hz q hq => by
      by_cases e : z = x
      · subst e
        obtain rfl : r = q := by rw [hr] at hq; simpa using hq
        have := mapN_put hh ha hm ho
        refine (show MapN W' r (c + 1) (putT T z y v z) from ?_)
        have e2 : putT T z y v z = fun k => if k = (y : Int) then some v else T z k := by funext k; simp [putT]
        rw [e2]; exact this
      · have hne : q ≠ r := fun e2 => e (h.inj z x r hz hx (e2 ▸ hq) hr)
        have e2 : putT T x y v z = T z := by funext k; simp [putT, e]
        rw [e2]
        exact ((h.mp z hz q hq).fr hf hne).mono (Nat.le_succ c)
    inj := h.inj
    ge := h.ge }
theorem MC.own {w W : World} {px cb tb bb m c x r : Nat} {f : Nat → Option Nat} {T : Nat → Int → Option Nat} (h : MC w W px cb tb bb m c f T) (hx : x < m) (hr : f x = some r) :
    ∃ D, W.ownsMap (H := Unit) Try.prog 3 (plainElem Try.prog 3) r c D ∧ (∀ k : Int, Maps.has D (.int .i64 k) = (T x k).isSome) ∧ (∀ k v, T x k = some v → ∀ z, D.atKey (.int .i64 k) z = .lit (.int .i64 (v : Int))) ∧ Maps.IsMap D := by
  obtain ⟨D, ho, h1, h2⟩ := h.mp x hx r hr
  exact ⟨D, ho, h1, h2, ho.isMap⟩
end Go.Proofs.Yteaemnkllpfbgaa
