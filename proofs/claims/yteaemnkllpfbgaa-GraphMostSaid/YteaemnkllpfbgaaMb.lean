/- Most: exits, knots, what the entries say. -/
import Derived.Test.YteaemnkllpfbgaaM4
import Derived.StillTailTactics
import Derived.Deep.RegionWith
import Derived.Deep.DeepCutAuto
import Derived.Deep.CutBlock
import Derived.Maps.OwnIn
namespace Go.Proofs.Yteaemnkllpfbgaa
open Go.RowKit Go.Shelf Go.Maps
open Cal (upd upd_same upd_ne)
attribute [local go_sem] Oper.semAt_some
set_option linter.unusedSimpArgs false
set_option linter.unusedVariables false

/-- Marks between things. -/
def Mks (l : List (Int × Int)) (a b : Nat) : Prop := ((a : Int), (b : Int)) ∈ l
/-- What Most answers. -/
def MostQ (w : World) (n : Nat) (S : Nat → Int → Bool) (l : List (Int × Int)) (e : Ending) (w' : World) : Prop :=
  ∃ (v : Int) (b : Bool), e = .returned (.tuple #[.int .i64 v, .bool b]) ∧ Below w.heap.size w w' ∧
    ((b = false ∧ v = 0 ∧ ((∃ p, p ∈ l ∧ (inRange p.1 n && inRange p.2 n) = false) ∨ ∃ a c m, Mks l a c ∧ Cal.Wk (sc n S) (Mks l) c a m)) ∨
      (b = true ∧ (∀ p, p ∈ l → (inRange p.1 n && inRange p.2 n) = true) ∧ ∃ W : Nat, v = W ∧ (W = 0 ∨ ∃ i c, i < n ∧ Cal.Wk (sc n S) (Mks l) i c W) ∧ ∀ i c m, i < n → Cal.Wk (sc n S) (Mks l) i c m → m ≤ W))

theorem Pairs.atI {w wr : World} {A : Option Addr} {cap len : Nat} {l : List (Int × Int)} (h : Pairs w (.slice A len cap) l) (hb : Below w.heap.size w wr) {j : Nat} {a b : Int} (hj : l[j]? = some (a, b)) :
    ∃ mb off, A = some ⟨mb, off, none⟩ ∧ wr.cell? ⟨mb, off + j * 2, none⟩ = some (.int .i64 a) ∧ wr.cell? ⟨mb, off + j * 2 + 1, none⟩ = some (.int .i64 b) := by
  obtain ⟨A', cap', e, hc⟩ := h.len
  simp only [Value.slice.injEq] at e
  obtain ⟨rfl, _, _⟩ := e
  have hne : l ≠ [] := by rintro rfl; simp at hj
  obtain ⟨mb, off, e1, hlt, hcs⟩ := hc hne
  have := hcs j a b hj
  exact ⟨mb, off, e1, (World.cell?_of_block (hb.block mb hlt)).trans this.1, (World.cell?_of_block (hb.block mb hlt)).trans this.2⟩
theorem Pairs.lenI {w : World} {A : Option Addr} {cap len : Nat} {l : List (Int × Int)} (h : Pairs w (.slice A len cap) l) : len = l.length := by
  obtain ⟨A', cap', e, hc⟩ := h.len
  simp only [Value.slice.injEq] at e
  exact e.2.1
/-- The marks that have come are all between things. -/
def OkTo (n : Nat) (l : List (Int × Int)) (j : Nat) : Prop := ∀ i p, i < j → l[i]? = some p → (inRange p.1 n && inRange p.2 n) = true

/-- How the function is left. -/
def QM (R : Ending → World → Prop) : Exit → Act → World → Prop
  | .ret, a, w => bodyPostM Fence.wide 5 Try.prog Try.f20 R .ret a w
  | .normal, a, w => bodyPostM Fence.wide 5 Try.prog Try.f20 R .normal a w
  | _, _, _ => False
theorem leave1 {R : Ending → World → Prop} {t : Array Value} {W : World} {D : Nat} {v b : Value} (hd : W.heap[D]? = some (.deferred (some []))) (h4 : t.getD 4 undef = v) (h5 : t.getD 5 undef = b)
    (hR : ∀ W', Fr (fun k => k = D) W W' → R (.returned (.tuple #[v, b])) W') : bodyPostM Fence.wide 5 Try.prog Try.f20 R .ret { tmps := t, defers := [{ target := .collected D, args := #[] }] } W := by
  refine ⟨by simp, .inl ⟨_, _, rfl, run_takeDeferred hd, ?_⟩⟩
  refine ⟨_, results_tmp2 rfl _ _ _, ?_⟩
  rw [h4, h5]
  exact hR _ ((Fr.of_grown (grownBy_putObj' W D _)).mono fun i _ e => by simpa using e)
theorem leave2 {R : Ending → World → Prop} {t : Array Value} {W : World} {D D2 : Nat} {v b : Value} (hd : W.heap[D]? = some (.deferred (some []))) (hd2 : W.heap[D2]? = some (.deferred (some []))) (hne : D ≠ D2) (h4 : t.getD 4 undef = v) (h5 : t.getD 5 undef = b)
    (hR : ∀ W', Fr (fun k => k = D ∨ k = D2) W W' → R (.returned (.tuple #[v, b])) W') :
    bodyPostM Fence.wide 5 Try.prog Try.f20 R .ret { tmps := t, defers := [{ target := .collected D2, args := #[] }, { target := .collected D, args := #[] }] } W := by
  refine ⟨by simp, .inl ⟨_, _, rfl, run_takeDeferred hd2, ?_⟩⟩
  refine ⟨by simp, .inl ⟨_, _, rfl, run_takeDeferred ((World.putObj_heap_other hne).trans hd), ?_⟩⟩
  refine ⟨_, results_tmp2 rfl _ _ _, ?_⟩
  rw [h4, h5]
  have f1 : Fr (fun k => k = D ∨ k = D2) W (W.putObj D2 (.deferred none)) := (Fr.of_grown (grownBy_putObj' W D2 _)).mono fun i _ e => .inr (by simpa using e)
  have f2 : Fr (fun k => k = D ∨ k = D2) (W.putObj D2 (.deferred none)) ((W.putObj D2 (.deferred none)).putObj D (.deferred none)) := (Fr.of_grown (grownBy_putObj' _ D _)).mono fun i _ e => .inl (by simpa using e)
  exact hR _ (f1.trans f2 fun i _ e => e)

theorem firsts_nodup (kn : Nat → Nat) (k : Nat) : (firsts kn k).Nodup := by
  induction k with
  | zero => simp [firsts]
  | succ k ih =>
    simp only [firsts]
    split
    · exact ih
    · rename_i h
      exact List.nodup_append.2 ⟨ih, by simp, fun a ha b hb e => by
        have hb' : b = kn k := by simpa using hb
        exact h (hb' ▸ e ▸ ha)⟩

/-- What is known of the knots' numbers. -/
structure KnF (n m : Nat) (κ : Nat → Nat) (S : Nat → Int → Bool) : Prop where
  lt : ∀ x, x < n → κ x < m
  on : ∀ y, y < m → ∃ x, x < n ∧ κ x = y
  iff : ∀ u v, u < n → v < n → (κ u = κ v ↔ Cal.Reach (sc n S) u v ∧ Cal.Reach (sc n S) v u)

/-- Knots of any graph, of no thing too. -/
theorem knots_all (g s n c : Nat) (ms : Nat → Option Nat) (S : Nat → Int → Bool) (w : World) (h : IsG w g s n ms c S) (hn : Small n) (hc : Small c) :
    Calls Try.prog 12 #[.pointer (some ⟨g, 0, none⟩)] w fun e w' => ∃ (kA : Option Addr) (ob m : Nat) (κ : Nat → Nat), e = .returned (.tuple #[.slice kA n n, .int .i64 (m : Int)]) ∧ Below w.heap.size w w' ∧ m ≤ n ∧
      (0 < n → kA = some ⟨ob, 0, none⟩ ∧ Blk w' ob (rowA n (natC κ)) 3 ∧ w.heap.size ≤ ob ∧ 0 < m) ∧ (∀ x, x < n → κ x < m) ∧ (∀ y, y < m → ∃ x, x < n ∧ κ x = y) ∧
      ∀ u v, u < n → v < n → (κ u = κ v ↔ Cal.Reach (sc n S) u v ∧ Cal.Reach (sc n S) v u) := by
  by_cases hn0 : 0 < n
  · refine (knots_any g s n c ms S w h hn0 hn hc).mono ?_
    rintro e w' ⟨ob, kn, rfl, hb, hge, hbel, hk⟩
    have hlt : ∀ x, x < n → (firsts kn n).idxOf (kn x) < (firsts kn n).length := fun x hx => List.idxOf_lt_length_of_mem (mem_firsts.2 ⟨x, hx, rfl⟩)
    refine ⟨_, ob, (firsts kn n).length, fun i => (firsts kn n).idxOf (kn i), rfl, hbel, firsts_len kn n, fun _ => ⟨rfl, hb, hge, by have := hlt 0 hn0; omega⟩, hlt, fun y hy => ?_, fun u v hu hv => ?_⟩
    · obtain ⟨x, hx, e⟩ := mem_firsts.1 (List.getElem_mem hy)
      refine ⟨x, hx, ?_⟩
      show (firsts kn n).idxOf (kn x) = y
      rw [e]
      exact (firsts_nodup kn n).idxOf_getElem y hy
    · rw [← hk u v hu hv]
      exact ⟨fun e => idxOf_inj (mem_firsts.2 ⟨u, hu, rfl⟩) e, fun e => congrArg (fun z => (firsts kn n).idxOf z) e⟩
  · obtain rfl : n = 0 := by omega
    refine (knots_empty g s c ms S w h).mono ?_
    rintro e w' ⟨rfl, rfl⟩
    exact ⟨_, 0, 0, fun _ => 0, rfl, Below.refl _ _, Nat.le_refl _, fun h => absurd h hn0, fun x hx => by omega, fun y hy => by omega, fun u v hu => by omega⟩

theorem repeat_all (xb cap cnt : Nat) (x : Int) (w : World) (hx : w.cell? ⟨xb, 0, none⟩ = some (.int .i64 x)) (hc : Small cnt) :
    Calls Try.prog 24 #[.slice (some ⟨xb, 0, none⟩) 1 cap, .int .i64 cnt] w fun e w' => ∃ b, e = .returned (.slice (some ⟨b, 0, none⟩) cnt cnt) ∧
      Blk w' b (rowA cnt fun _ => .int .i64 x) 3 ∧ w.heap.size ≤ b ∧ Below w.heap.size w w' := by
  by_cases h0 : 0 < cnt
  · exact repeat_any xb cap cnt x w hx hc h0
  · obtain rfl : cnt = 0 := by omega
    exact repeat_zero xb cap w
theorem old0 {V w5 : World} {b : Nat} {cs : Array Value} {t : TypeId} {v : Value} (h : Blk V b cs t) (hv : cs[0]? = some v) (hb : Below V.heap.size V w5) : ∀ o o2 : Obj, ((w5.alloc o).cell? ⟨b, 0, none⟩ = some v ∧ (w5.alloc o).frozen? ⟨b, 0, none⟩ = false) ∧ ((w5.alloc o).alloc o2).cell? ⟨b, 0, none⟩ = some v ∧ ((w5.alloc o).alloc o2).frozen? ⟨b, 0, none⟩ = false := by
  have h' : Blk w5 b cs t := (hb.block b h.lt).trans h
  exact fun o o2 => ⟨⟨((h'.alloc o).cell 0).trans hv, (h'.alloc o).free 0⟩, (((h'.alloc o).alloc o2).cell 0).trans hv, ((h'.alloc o).alloc o2).free 0⟩
theorem old1 {V w5 : World} (hb : Below (V.alloc (.cells #[.pointer none] 74)).drew.heap.size (V.alloc (.cells #[.pointer none] 74)).drew w5) : ∀ o o2 : Obj, ((w5.alloc o).cell? ⟨V.heap.size, 0, none⟩ = some (.pointer none) ∧ (w5.alloc o).frozen? ⟨V.heap.size, 0, none⟩ = false) ∧ ((w5.alloc o).alloc o2).cell? ⟨V.heap.size, 0, none⟩ = some (.pointer none) ∧ ((w5.alloc o).alloc o2).frozen? ⟨V.heap.size, 0, none⟩ = false := old0 (Blk.new V _ 74).drew rfl hb
theorem old2 {V w5 : World} {o : Obj} (hb : Below ((V.alloc (.cells #[.pointer none] 74)).alloc o).drew.heap.size ((V.alloc (.cells #[.pointer none] 74)).alloc o).drew w5) : ∀ o o2 : Obj, ((w5.alloc o).cell? ⟨V.heap.size, 0, none⟩ = some (.pointer none) ∧ (w5.alloc o).frozen? ⟨V.heap.size, 0, none⟩ = false) ∧ ((w5.alloc o).alloc o2).cell? ⟨V.heap.size, 0, none⟩ = some (.pointer none) ∧ ((w5.alloc o).alloc o2).frozen? ⟨V.heap.size, 0, none⟩ = false := old0 ((Blk.new V _ 74).alloc _).drew rfl hb
theorem old3 {V w5 : World} {o o' : Obj} (hb : Below (((V.alloc (.cells #[.pointer none] 74)).alloc o).alloc o').drew.heap.size (((V.alloc (.cells #[.pointer none] 74)).alloc o).alloc o').drew w5) : ∀ o o2 : Obj, ((w5.alloc o).cell? ⟨V.heap.size, 0, none⟩ = some (.pointer none) ∧ (w5.alloc o).frozen? ⟨V.heap.size, 0, none⟩ = false) ∧ ((w5.alloc o).alloc o2).cell? ⟨V.heap.size, 0, none⟩ = some (.pointer none) ∧ ((w5.alloc o).alloc o2).frozen? ⟨V.heap.size, 0, none⟩ = false := old0 (((Blk.new V _ 74).alloc _).alloc _).drew rfl hb
theorem Blk.belowV {V w5 : World} {b : Nat} {cs : Array Value} {t : TypeId} (h : Blk V b cs t) (hb : Below V.heap.size V w5) : Blk w5 b cs t := (hb.block b h.lt).trans h
theorem Blk.setP {X : World} {p : Nat} {v : Value} (h : Blk X p #[.pointer none] 74) : Blk (X.setCell ⟨p, 0, none⟩ v) p #[v] 74 := h.setSame 0 v
theorem Fr.thenB {V W4 w5 : World} (h : Fr (fun _ => False) W4 V) (hb : Below V.heap.size V w5) : Fr (fun _ => False) W4 w5 := h.trans (Fr.of_below hb) fun _ _ e => e
theorem Fr.thenS {X W4 : World} {p : Nat} {v : Value} (h : Fr (fun _ => False) W4 X) (hp : W4.heap.size ≤ p) : Fr (fun _ => False) W4 (X.setCell ⟨p, 0, none⟩ v) := h.set (p := ⟨p, 0, none⟩) (fun e => by simp at e; omega) v
theorem leaf {w W4 wx : World} {kx ob n m D px cb tb bb : Nat} {kv : Value} {κ : Nat → Nat} (hK : MK w W4 kx ob n kv κ) (hD : Dfd w W4 D)
    (hp : Blk wx px #[.pointer (some ⟨cb, 0, none⟩)] 74) (hc : Blk wx cb #[.slice (some ⟨tb, 0, none⟩) m m, .slice (some ⟨bb, 0, none⟩) m m] 77) (ht : Blk wx tb (rowA m fun _ => .map none) 62) (hb : Blk wx bb (rowA m fun _ => .int .i64 (-1)) 3)
    (hf : Fr (fun _ => False) W4 wx) (g : W4.heap.size ≤ px ∧ W4.heap.size ≤ cb ∧ W4.heap.size ≤ tb ∧ W4.heap.size ≤ bb) :
    Hid (MC w wx px cb tb bb m 0 (fun _ => none) (fun _ _ => none)) ∧ Hid (MK w wx kx ob n kv κ) ∧ Hid (Dfd w wx D) := by
  have hs := hK.bel.size
  exact ⟨⟨hp, hc, ht, hb, fun _ _ _ e => (by cases e), fun _ _ _ _ _ e => (by cases e), by omega, by omega, by omega, by omega, fun _ _ _ e => (by cases e)⟩,
    hK.fr hf (fun _ e => e.elim) (fun e => e) (fun _ e => e), hD.fr hf (fun _ e => e.elim)⟩

theorem leafE {w W4 wx : World} {kx ob n m D px cb tb bb : Nat} {kv : Value} {κ : Nat → Nat} (hK : MK w W4 kx ob n kv κ) (hD : Dfd w W4 D)
    (hp : Blk wx px #[.pointer (some ⟨cb, 0, none⟩)] 74) (hc : Blk wx cb #[.slice (some ⟨tb, 0, none⟩) m m, .slice (some ⟨bb, 0, none⟩) m m] 77) (ht : Blk wx tb (rowA m fun _ => .map none) 62) (hb : Blk wx bb (rowA m fun _ => .int .i64 (-1)) 3)
    (hf : Fr (fun _ => False) W4 wx) (hg : W4.heap.size ≤ px ∧ W4.heap.size ≤ cb ∧ W4.heap.size ≤ tb ∧ W4.heap.size ≤ bb) :
    ∃ px' cb' tb' bb', Value.pointer (some ⟨px, 0, none⟩) = .pointer (some ⟨px', 0, none⟩) ∧ Hid (MC w wx px' cb' tb' bb' m 0 (fun _ => none) (fun _ _ => none)) ∧ Hid (MK w wx kx ob n kv κ) ∧ Hid (Dfd w wx D) :=
  ⟨px, cb, tb, bb, rfl, leaf hK hD hp hc ht hb hf hg⟩
theorem info62 : (Try.prog.info? 62).map (fun i => (i.zero, i.size, i.bytes)) = some (some (.map none), 1, 8) := by kernel_rfl

theorem MC.bk {B : Nat} {w W W' : World} {px cb tb bb m c : Nat} {f : Nat → Option Nat} {T : Nat → Int → Option Nat} {row : Option Nat} (h : MC w W px cb tb bb m c f T) (hg : W.grownBy W' row)
    (hr : ∀ r, row = some r → B ≤ r ∧ ∃ o : Obj, W.heap[r]? = some o ∧ isData o = false) : MC w W' px cb tb bb m c f T := by
  obtain ⟨M, hf, hB, hM⟩ := fr_bk hg hr
  exact h.fr hf (not_bk hM h.fp.lt (blk_data h.fp)) (not_bk hM h.fc.lt (blk_data h.fc)) (not_bk hM h.ft.lt (blk_data h.ft)) (not_bk hM h.fb.lt (blk_data h.fb)) fun x r hx e => not_bk hM (h.mp x hx r e).lt (mapN_data (h.mp x hx r e))
theorem MK.bk' {B : Nat} {w W W' : World} {kx ob n : Nat} {kv : Value} {κ : Nat → Nat} {row : Option Nat} (h : MK w W kx ob n kv κ) (hwB : w.heap.size ≤ B) (hg : W.grownBy W' row)
    (hr : ∀ r, row = some r → B ≤ r ∧ ∃ o : Obj, W.heap[r]? = some o ∧ isData o = false) : MK w W' kx ob n kv κ := by
  obtain ⟨M, hf, hB, hM⟩ := fr_bk hg hr
  exact h.fr hf (fun b hb => Nat.le_trans hwB (hB b hb)) (not_bk hM h.bk.lt (blk_data h.bk)) fun hn0 => not_bk hM (h.bv hn0).2.lt (blk_data (h.bv hn0).2)
theorem Dfd.bk {B : Nat} {w W W' : World} {D : Nat} {row : Option Nat} (h : Dfd w W D) (hDB : D < B) (hg : W.grownBy W' row)
    (hr : ∀ r, row = some r → B ≤ r ∧ ∃ o : Obj, W.heap[r]? = some o ∧ isData o = false) : Dfd w W' D :=
  ⟨grown_bk hg h.d fun e => by have := (hr D e).1; omega, h.ge⟩
/-- What the entries say so far: of these arrows, and these marks. -/
structure TI (κ : Nat → Nat) (arr mks : List (Nat × Nat)) (T : Nat → Int → Option Nat) : Prop where
  sound : ∀ x k v, T x k = some v → ∃ y : Nat, k = (y : Int) ∧ ((v = 1 ∧ ∃ p, p ∈ mks ∧ κ p.1 = x ∧ κ p.2 = y) ∨ (v = 0 ∧ ∃ p, p ∈ arr ∧ κ p.1 = x ∧ κ p.2 = y ∧ x ≠ y))
  mark : ∀ p, p ∈ mks → T (κ p.1) (κ p.2 : Int) = some 1
  arrow : ∀ p, p ∈ arr → κ p.1 ≠ κ p.2 → ∃ v, T (κ p.1) (κ p.2 : Int) = some v
theorem TI.start (κ : Nat → Nat) : TI κ [] [] (fun _ _ => none) := ⟨fun _ _ _ e => (by cases e), fun _ h => (by simp at h), fun _ h => (by simp at h)⟩
theorem TI.skip {κ : Nat → Nat} {arr mks : List (Nat × Nat)} {T : Nat → Int → Option Nat} (h : TI κ arr mks T) {a b : Nat} (e : κ a = κ b) : TI κ (arr ++ [(a, b)]) mks T where
  sound := fun x k v hv => by
    obtain ⟨y, h1, h2⟩ := h.sound x k v hv
    refine ⟨y, h1, h2.imp id ?_⟩
    rintro ⟨h3, p, h4, h5⟩
    exact ⟨h3, p, List.mem_append_left _ h4, h5⟩
  mark := h.mark
  arrow := fun p hp hne => by
    rcases List.mem_append.1 hp with hp | hp
    · exact h.arrow p hp hne
    · obtain rfl : p = (a, b) := by simpa using hp
      exact absurd e hne
theorem TI.arr {κ : Nat → Nat} {arr : List (Nat × Nat)} {T : Nat → Int → Option Nat} (h : TI κ arr [] T) {a b : Nat} (hne : κ a ≠ κ b) : TI κ (arr ++ [(a, b)]) [] (putT T (κ a) (κ b) 0) where
  sound := fun x k v hv => by
    simp only [putT] at hv
    split at hv
    · rename_i e
      cases hv
      exact ⟨κ b, e.2, .inr ⟨rfl, (a, b), by simp, e.1.symm, rfl, by rw [e.1]; exact hne⟩⟩
    · obtain ⟨y, h1, h2⟩ := h.sound x k v hv
      refine ⟨y, h1, h2.imp id ?_⟩
      rintro ⟨h3, p, h4, h5⟩
      exact ⟨h3, p, List.mem_append_left _ h4, h5⟩
  mark := fun _ hp => by simp at hp
  arrow := fun p hp hne' => by
    simp only [putT]
    split
    · exact ⟨_, rfl⟩
    · rename_i e
      rcases List.mem_append.1 hp with hp | hp
      · exact h.arrow p hp hne'
      · obtain rfl : p = (a, b) := by simpa using hp
        exact absurd ⟨rfl, rfl⟩ e
theorem TI.mrk {κ : Nat → Nat} {arr mks : List (Nat × Nat)} {T : Nat → Int → Option Nat} (h : TI κ arr mks T) (a b : Nat) : TI κ arr (mks ++ [(a, b)]) (putT T (κ a) (κ b) 1) where
  sound := fun x k v hv => by
    simp only [putT] at hv
    split at hv
    · rename_i e
      cases hv
      exact ⟨κ b, e.2, .inl ⟨rfl, (a, b), by simp, e.1.symm, rfl⟩⟩
    · obtain ⟨y, h1, h2⟩ := h.sound x k v hv
      refine ⟨y, h1, h2.imp ?_ id⟩
      rintro ⟨h3, p, h4, h5⟩
      exact ⟨h3, p, List.mem_append_left _ h4, h5⟩
  mark := fun p hp => by
    simp only [putT]
    split
    · rfl
    · rename_i e
      rcases List.mem_append.1 hp with hp | hp
      · exact h.mark p hp
      · obtain rfl : p = (a, b) := by simpa using hp
        exact absurd ⟨rfl, rfl⟩ e
  arrow := fun p hp hne' => by
    simp only [putT]
    split
    · exact ⟨_, rfl⟩
    · exact h.arrow p hp hne'
/-- As far as no mark has come, every entry is 0. -/
theorem TI.zero {κ : Nat → Nat} {arr : List (Nat × Nat)} {T : Nat → Int → Option Nat} (h : TI κ arr [] T) {x : Nat} {k : Int} {v : Nat} (hv : T x k = some v) : v = 0 := by
  obtain ⟨y, _, h2⟩ := h.sound x k v hv
  rcases h2 with ⟨_, p, hp, _⟩ | ⟨e, _⟩
  · simp at hp
  · exact e
/-- The pairs of arrows, as numbers. -/
def prn {n : Nat} {S : Nat → Int → Bool} (xs : List (Arw n S)) : List (Nat × Nat) := xs.map Subtype.val
theorem prn_snoc {n : Nat} {S : Nat → Int → Bool} (xs : List (Arw n S)) (x : Arw n S) : prn (xs ++ [x]) = prn xs ++ [(x.1.1, x.1.2)] := by simp [prn]

theorem all_iff {n : Nat} {S : Nat → Int → Bool} {xs : List (Arw n S)} {l : List (Int × Int)} (hx : AllA n S xs) (hl : ∀ p, p ∈ l → (inRange p.1 n && inRange p.2 n) = true) (hS : ∀ k y, S k y = true → k < n) (a b : Nat) :
    b ∈ sc n (arrows n (prs xs ++ l)) a ↔ b ∈ sc n S a ∨ Mks l a b := by
  rw [mem_sc, mem_sc]
  unfold Mks
  simp only [arrows, List.any_eq_true, List.mem_append, Bool.and_eq_true, beq_iff_eq]
  constructor
  · rintro ⟨hb, p, hp, ⟨⟨⟨_, _⟩, e1⟩, e2⟩⟩
    rcases hp with hp | hp
    · obtain ⟨x, _, rfl⟩ := List.mem_map.1 hp
      simp only at e1 e2
      have h1 : x.1.1 = a := by omega
      have h2 : x.1.2 = b := by omega
      exact .inl ⟨hb, by rw [← h1, ← h2]; exact x.2.2.2⟩
    · refine .inr ?_
      rw [← e1, ← e2]; exact hp
  · rintro (⟨hb, hs⟩ | hm)
    · have ha := hS _ _ hs
      obtain ⟨x, hx1, hx2⟩ := List.mem_map.1 (hx.2 a b ha hb hs)
      refine ⟨hb, ((a : Int), (b : Int)), .inl (List.mem_map.2 ⟨x, hx1, by rw [hx2]⟩), ⟨⟨inRange_true (by omega) (by omega), inRange_true (by omega) (by omega)⟩, rfl⟩, rfl⟩
    · have h1 := hl _ hm
      simp only [Bool.and_eq_true] at h1
      have h2 := h1.2
      simp only [inRange, Bool.and_eq_true, decide_eq_true_eq] at h2
      exact ⟨by omega, _, .inr hm, ⟨h1, rfl⟩, rfl⟩

end Go.Proofs.Yteaemnkllpfbgaa
