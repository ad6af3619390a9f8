/- Knots: the struct is laid, in whatever order. -/
import Derived.Test.YteaemnkllpfbgaaK0
import Derived.Test.YteaemnkllpfbgaaD1
namespace Go.Proofs.Yteaemnkllpfbgaa
open Go.RowKit
open Cal (upd upd_same upd_ne St Inv upd_self)
set_option linter.unusedSimpArgs false
set_option linter.unusedVariables false

/-- The struct's cells as they are laid. -/
def tcells (g x20 x22 x24 x26 n : Nat) : Array Value := #[.pointer (some ⟨g, 0, none⟩), .slice (some ⟨x20, 0, none⟩) n n, .slice (some ⟨x22, 0, none⟩) n n, .slice (some ⟨x24, 0, none⟩) n n, .slice none 0 0, .slice (some ⟨x26, 0, none⟩) n n, .int .i64 0, .int .i64 0]

/-- What is laid so far. -/
structure KF (w W : World) (g n x18 x20 x22 x24 x26 x28 : Nat) (b0 b1 b2 b3 b4 b5 b6 b7 b8 b9 b10 b11 b12 : Bool) : Prop where
  fr : Fr (fun _ => False) w W
  f1 : b1 = true → W.cell? ⟨x18, 0, none⟩ = some (.int .i64 (-1))
  f3 : b3 = true → Blk W x20 (rowA n (fun _ => .int .i64 (-1))) 3 ∧ w.heap.size ≤ x20
  f5 : b5 = true → Blk W x22 (rowA n (natC fun _ => 0)) 3 ∧ w.heap.size ≤ x22
  f7 : b7 = true → Blk W x24 (rowA n (boolC fun _ => false)) 4 ∧ w.heap.size ≤ x24
  f9 : b9 = true → Blk W x26 (rowA n (natC fun _ => 0)) 3 ∧ w.heap.size ≤ x26
  f11 : b11 = true → Blk W x28 (tcells g x20 x22 x24 x26 n) 60 ∧ w.heap.size ≤ x28
  d35 : b3 = true → b5 = true → x20 ≠ x22
  d39 : b3 = true → b9 = true → x20 ≠ x26
  d59 : b5 = true → b9 = true → x22 ≠ x26
  o3 : b3 = true → b1 = true
  o10 : b10 = true → b0 = true ∧ b3 = true ∧ b5 = true ∧ b7 = true ∧ b9 = true
  o11 : b11 = true → b10 = true
  o12 : b12 = true → b11 = true

def kframe (g n x18 x20 x22 x24 x26 x28 : Nat) (b0 b1 b2 b3 b4 b5 b6 b7 b8 b9 b10 b11 b12 : Bool) : Array Value :=
  #[.pointer (some ⟨g, 0, none⟩), undef, .slice none 0 0, .int .i64 0, .int .i64 (n : Int), sel b12 (.pointer (some ⟨x28, 0, none⟩)), undef, undef, undef, undef, undef, undef, .pointer (some ⟨g, 0, none⟩), .int .i64 (n : Int), .bool false, .pointer (some ⟨g, 0, none⟩), .int .i64 (n : Int), sel b0 (.pointer (some ⟨g, 0, none⟩)), sel b1 (.slice (some ⟨x18, 0, none⟩) 1 1), sel b2 (.int .i64 (n : Int)), sel b3 (.slice (some ⟨x20, 0, none⟩) n n), sel b4 (.int .i64 (n : Int)), sel b5 (.slice (some ⟨x22, 0, none⟩) n n), sel b6 (.int .i64 (n : Int)), sel b7 (.slice (some ⟨x24, 0, none⟩) n n), sel b8 (.int .i64 (n : Int)), sel b9 (.slice (some ⟨x26, 0, none⟩) n n), sel b10 (.agg (tcells g x20 x22 x24 x26 n)), sel b11 (.pointer (some ⟨x28, 0, none⟩)), undef, undef, undef, undef, undef, undef, undef, undef, undef, undef, undef, undef, undef, undef, undef, undef, undef, undef, undef, undef, undef, undef, undef, undef, undef, undef, undef, undef, undef, undef, undef, undef, undef, undef, undef, undef, undef, undef, undef, undef, undef, undef, undef, undef, undef, undef, undef, undef, undef, undef, undef, undef, undef, undef, undef, undef]

def KI (w : World) (g n : Nat) (L : Array Bool) (a : Act) (W : World) : Prop :=
  ∃ x18 x20 x22 x24 x26 x28 b0 b1 b2 b3 b4 b5 b6 b7 b8 b9 b10 b11 b12, L = #[b0, b1, b2, b3, b4, b5, b6, b7, b8, b9, b10, b11, b12] ∧ a = { tmps := kframe g n x18 x20 x22 x24 x26 x28 b0 b1 b2 b3 b4 b5 b6 b7 b8 b9 b10 b11 b12, defers := [] } ∧ KF w W g n x18 x20 x22 x24 x26 x28 b0 b1 b2 b3 b4 b5 b6 b7 b8 b9 b10 b11 b12
/-- What Knots keeps between two rounds of its first loop. -/
structure KR (w wr : World) (tb g ib lb ob kb n : Nat) (S : Nat → Int → Bool) (stv : Value) (st : St) (kk : Nat) : Prop where
  T : IsT wr tb g ib lb ob kb n w.heap.size stv st
  inv : Inv n (sc n S) st
  frs : st.frs = []
  cnt : st.met + unmet n st = n
  many : st.many + st.stk.length ≤ st.met
  done : ∀ x, x < kk → 0 ≤ st.idx x
  ge : ∀ b, TF tb ib lb ob kb stv b → w.heap.size ≤ b
  bel : Below w.heap.size w wr

theorem KR.next {w wr w2 : World} {tb g ib lb ob kb n kk : Nat} {S : Nat → Int → Bool} {stv fv stv2 : Value} {st st2 : St} (h : KR w wr tb g ib lb ob kb n S stv st kk)
    (h2 : WR wr w2 tb g ib lb ob kb n w.heap.size S stv fv [] stv2 st2) (hm : ∀ x, 0 ≤ st.idx x → 0 ≤ st2.idx x) (hk : 0 ≤ st2.idx kk) : KR w w2 tb g ib lb ob kb n S stv2 st2 (kk + 1) where
  T := h2.T
  inv := h2.inv
  frs := h2.frs
  cnt := h2.cnt
  many := h2.many
  done := fun x hx => by
    by_cases e : x = kk
    · subst e; exact hk
    · exact hm x (h.done x (by omega))
  ge := fun b hb => by
    by_cases e : b < wr.heap.size
    · exact h.ge b (h2.old b e hb)
    · have := h.bel.size; omega
  bel := h.bel.trans (h2.fr.below _ h.ge h.bel.size)

/-- What Knots keeps between two rounds of its second loop. -/
structure K2 (w wr : World) (tb kb mb ob n : Nat) (kn : Nat → Nat) (kk : Nat) : Prop where
  num : NumIs wr mb (firsts kn kk)
  out : Blk wr ob (rowA n (natC fun i => if i < kk then (firsts kn n).idxOf (kn i) else 0)) 3
  t : ∃ cs, Blk wr tb cs 60 ∧ cs[5]? = some (.slice (some ⟨kb, 0, none⟩) n n)
  k : Blk wr kb (rowA n (natC kn)) 3
  ne : ob ≠ kb
  gm : w.heap.size ≤ mb
  go : w.heap.size ≤ ob
  bel : Below w.heap.size w wr

theorem K2.c5 {w wr : World} {tb kb mb ob n : Nat} {kn : Nat → Nat} {kk : Nat} (h : K2 w wr tb kb mb ob n kn kk) : wr.cell? ⟨tb, 5, none⟩ = some (.slice (some ⟨kb, 0, none⟩) n n) := by
  obtain ⟨cs, h1, h2⟩ := h.t
  rw [h1.cell, h2]
theorem K2.stored {w wr w2 : World} {tb kb mb ob n : Nat} {kn : Nat → Nat} {kk : Nat} (h : K2 w wr tb kb mb ob n kn kk) (hk : kk < n) (hf : Fr (fun b => b = mb) wr w2) (hnum : NumIs w2 mb (firsts kn (kk + 1))) {x : Nat} (hx : (firsts kn n).idxOf (kn kk) = x) :
    K2 w (w2.setCell ⟨ob, kk, none⟩ (.int .i64 (x : Int))) tb kb mb ob n kn (kk + 1) := by
  obtain ⟨cs, ht, h5⟩ := h.t
  have hmo := h.num.ne h.out
  have hmk := h.num.ne h.k
  have hmt := h.num.ne ht
  have hot : ob ≠ tb := h.out.ne ht (by decide)
  have hs : Fr (fun b => b = ob) w2 (w2.setCell ⟨ob, kk, none⟩ (.int .i64 (x : Int))) := (Fr.refl (fun b => b = ob) w2).set (p := ⟨ob, kk, none⟩) (fun _ => rfl) _
  exact {
    num := hnum.fr hs hmo
    out := by
      refine Eq.trans ((hf.blk h.out hmo.symm).setRow kk (.int .i64 (x : Int))).eq ?_
      congr 2
      refine rowA_congr fun i _ => ?_
      simp only [upd, natC]
      by_cases e : i = kk
      · subst e; simp [hx]
      · have : i < kk + 1 ↔ i < kk := by omega
        simp [e, this]
    t := ⟨cs, hs.blk (hf.blk ht (Ne.symm hmt)) (Ne.symm hot), h5⟩
    k := hs.blk (hf.blk h.k (Ne.symm hmk)) (Ne.symm h.ne)
    ne := h.ne
    gm := h.gm
    go := h.go
    bel := (h.bel.trans (hf.below _ (fun i e => by rw [e]; exact h.gm) h.bel.size)).setCell (p := ⟨ob, kk, none⟩) h.go _ }

/-- What Knots answers. -/
def KnotsP (w : World) (n : Nat) (S : Nat → Int → Bool) (e : Ending) (w' : World) : Prop :=
  ∃ (ob : Nat) (kn : Nat → Nat), e = .returned (.tuple #[.slice (some ⟨ob, 0, none⟩) n n, .int .i64 ((firsts kn n).length : Int)]) ∧ Blk w' ob (rowA n (natC fun i => (firsts kn n).idxOf (kn i))) 3 ∧
    w.heap.size ≤ ob ∧ Below w.heap.size w w' ∧ ∀ u v, u < n → v < n → (kn u = kn v ↔ Cal.Reach (sc n S) u v ∧ Cal.Reach (sc n S) v u)

theorem KF.ext {w W W' : World} {g n x18 x20 x22 x24 x26 x28 : Nat} {b0 b1 b2 b3 b4 b5 b6 b7 b8 b9 b10 b11 b12 : Bool} (h : KF w W g n x18 x20 x22 x24 x26 x28 b0 b1 b2 b3 b4 b5 b6 b7 b8 b9 b10 b11 b12) (hf : Fr (fun _ => False) W W') :
    KF w W' g n x18 x20 x22 x24 x26 x28 b0 b1 b2 b3 b4 b5 b6 b7 b8 b9 b10 b11 b12 :=
  { h with
    fr := h.fr.trans hf (fun _ _ e => e)
    f1 := fun e => by
      have h1 := h.f1 e
      rw [← h1]
      exact World.cell?_of_block (w := W) (hf.block _ (World.block_lt_of_cell? W _ h1) (by simp))
    f3 := fun e => ⟨hf.blk (h.f3 e).1 (by simp), (h.f3 e).2⟩
    f5 := fun e => ⟨hf.blk (h.f5 e).1 (by simp), (h.f5 e).2⟩
    f7 := fun e => ⟨hf.blk (h.f7 e).1 (by simp), (h.f7 e).2⟩
    f9 := fun e => ⟨hf.blk (h.f9 e).1 (by simp), (h.f9 e).2⟩
    f11 := fun e => ⟨hf.blk (h.f11 e).1 (by simp), (h.f11 e).2⟩ }

set_option maxRecDepth 100000 in
set_option maxHeartbeats 8000000 in
theorem knots_any (g s n c : Nat) (ms : Nat → Option Nat) (S : Nat → Int → Bool) (w : World) (h : IsG w g s n ms c S) (hn0 : 0 < n) (hn : Small n) (hc : Small c) :
    Calls Try.prog 12 #[.pointer (some ⟨g, 0, none⟩)] w (KnotsP w n S) := by
  have hcell := h.cell
  have hn0' : ((n : Int) == 0) = false := by simp only [beq_eq_false_iff_ne, ne_eq]; omega
  go_enter Try.func12, Try.ntmps12
  go_wp2_with (go_at_call 10; refine (len_any g s n _ hcell).mono ?_; rintro e w' ⟨rfl, rfl⟩)
  have hmk3 : ∀ W : World, (Instr.makeSlice 30 (.int .i64 (n : Int)) (.int .i64 (n : Int))).run Try.prog W = .ok (.slice (some ⟨W.heap.size, 0, none⟩) n n) (W.alloc (.cells (rowA n (natC fun _ => 0)) 3)) := by
    intro W
    have := run_make_row' 30 3 (.int .i64 0) 8 Try.underlying30 info3 rfl .i64 .i64 n (by have := hn.out; omega) (by have := hn.out; omega) W
    rw [madeCells_row] at this
    exact this
  have hmk4 : ∀ W : World, (Instr.makeSlice 34 (.int .i64 (n : Int)) (.int .i64 (n : Int))).run Try.prog W = .ok (.slice (some ⟨W.heap.size, 0, none⟩) n n) (W.alloc (.cells (rowA n (boolC fun _ => false)) 4)) := by
    intro W
    have := run_make_row' 34 4 (.bool false) 1 Try.underlying34 info4' rfl .i64 .i64 n (by have := hn.out; omega) (by have := hn.out; omega) W
    rw [madeCells_row] at this
    exact this
  refine wp_region_any (by kernel_rfl) ?_
  refine wpAny_inv (KI w g n) ?hsz ?hstep ?hend _ _ _ _ (by decide) ?h0
  case h0 =>
    refine ⟨0, 0, 0, 0, 0, 0, false, false, false, false, false, false, false, false, false, false, false, false, false, rfl, rfl, ?_⟩
    constructor <;> first | exact (Fr.refl _ w).drew | (intro e; simp at e)
  case hsz =>
    rintro L a W ⟨x18, x20, x22, x24, x26, x28, b0, b1, b2, b3, b4, b5, b6, b7, b8, b9, b10, b11, b12, rfl, _, _⟩
    rfl
  case hend =>
    rintro L a W ⟨x18, x20, x22, x24, x26, x28, b0, b1, b2, b3, b4, b5, b6, b7, b8, b9, b10, b11, b12, rfl, rfl, hF⟩ hr
    obtain rfl : b0 = true := by
      cases b0 with
      | true => rfl
      | false =>
        exact ((List.eq_nil_iff_forall_not_mem.1 hr 0) (mem_ready.2 ⟨by simp, _, rfl, by simp [Region.binds]⟩)).elim
    obtain rfl : b1 = true := by
      cases b1 with
      | true => rfl
      | false =>
        exact ((List.eq_nil_iff_forall_not_mem.1 hr 1) (mem_ready.2 ⟨by simp, _, rfl, by simp [Region.binds]⟩)).elim
    obtain rfl : b2 = true := by
      cases b2 with
      | true => rfl
      | false =>
        exact ((List.eq_nil_iff_forall_not_mem.1 hr 2) (mem_ready.2 ⟨by simp, _, rfl, by simp [Region.binds]⟩)).elim
    obtain rfl : b4 = true := by
      cases b4 with
      | true => rfl
      | false =>
        exact ((List.eq_nil_iff_forall_not_mem.1 hr 4) (mem_ready.2 ⟨by simp, _, rfl, by simp [Region.binds]⟩)).elim
    obtain rfl : b6 = true := by
      cases b6 with
      | true => rfl
      | false =>
        exact ((List.eq_nil_iff_forall_not_mem.1 hr 6) (mem_ready.2 ⟨by simp, _, rfl, by simp [Region.binds]⟩)).elim
    obtain rfl : b8 = true := by
      cases b8 with
      | true => rfl
      | false =>
        exact ((List.eq_nil_iff_forall_not_mem.1 hr 8) (mem_ready.2 ⟨by simp, _, rfl, by simp [Region.binds]⟩)).elim
    obtain rfl : b3 = true := by
      cases b3 with
      | true => rfl
      | false =>
        exact ((List.eq_nil_iff_forall_not_mem.1 hr 3) (mem_ready.2 ⟨by simp, _, rfl, by simp [Region.binds]⟩)).elim
    obtain rfl : b5 = true := by
      cases b5 with
      | true => rfl
      | false =>
        exact ((List.eq_nil_iff_forall_not_mem.1 hr 5) (mem_ready.2 ⟨by simp, _, rfl, by simp [Region.binds]⟩)).elim
    obtain rfl : b7 = true := by
      cases b7 with
      | true => rfl
      | false =>
        exact ((List.eq_nil_iff_forall_not_mem.1 hr 7) (mem_ready.2 ⟨by simp, _, rfl, by simp [Region.binds]⟩)).elim
    obtain rfl : b9 = true := by
      cases b9 with
      | true => rfl
      | false =>
        exact ((List.eq_nil_iff_forall_not_mem.1 hr 9) (mem_ready.2 ⟨by simp, _, rfl, by simp [Region.binds]⟩)).elim
    obtain rfl : b10 = true := by
      cases b10 with
      | true => rfl
      | false =>
        exact ((List.eq_nil_iff_forall_not_mem.1 hr 10) (mem_ready.2 ⟨by simp, _, rfl, by simp [Region.binds]⟩)).elim
    obtain rfl : b11 = true := by
      cases b11 with
      | true => rfl
      | false =>
        exact ((List.eq_nil_iff_forall_not_mem.1 hr 11) (mem_ready.2 ⟨by simp, _, rfl, by simp [Region.binds]⟩)).elim
    obtain rfl : b12 = true := by
      cases b12 with
      | true => rfl
      | false =>
        exact ((List.eq_nil_iff_forall_not_mem.1 hr 12) (mem_ready.2 ⟨by simp, _, rfl, by simp [Region.binds]⟩)).elim
    clear hr
    simp only [kframe, sel_true]
    have hKR : KR w W x28 g x20 x22 x24 x26 n S (.slice none 0 0) { idx := fun _ => -1, low := fun _ => 0, on := fun _ => false, stk := [], knot := fun _ => 0, met := 0, many := 0, frs := [] } 0 := {
      T := {
        t := (hF.f11 rfl).1
        i := (hF.f3 rfl).1
        l := by
          refine Eq.trans (hF.f5 rfl).1.eq ?_
          rfl
        o := (hF.f7 rfl).1
        k := (hF.f9 rfl).1
        s := World.ownsRow_nil _ _ _ _
        il := hF.d35 rfl rfl
        ik := hF.d39 rfl rfl
        lk := hF.d59 rfl rfl
        si := by simp [Value.ownBlock]
        sl := by simp [Value.ownBlock]
        sk := by simp [Value.ownBlock] }
      inv := Inv.start _ _ _ _
      frs := rfl
      cnt := by
        simp only [unmet]
        have : ∀ m, ((List.range m).map fun v => if (0 : Int) ≤ -1 then 0 else 1).sum = m := by
          intro m
          induction m with
          | zero => rfl
          | succ m ih => rw [List.range_succ, List.map_append, List.sum_append, ih]; simp
        rw [this]; omega
      many := by simp
      done := fun x hx => by omega
      ge := by
        rintro b (e | e | e | e | e | e)
        · rw [e]; exact (hF.f11 rfl).2
        · rw [e]; exact (hF.f3 rfl).2
        · rw [e]; exact (hF.f5 rfl).2
        · rw [e]; exact (hF.f7 rfl).2
        · rw [e]; exact (hF.f9 rfl).2
        · simp [Value.ownBlock] at e
      bel := hF.fr.below _ (fun i e => e.elim) (Nat.le_refl _) }
    clear hF
    have hgB : g < w.heap.size := World.block_lt_of_cell? w _ hcell
    have hfB : ∀ b, foot s n ms b → b < w.heap.size := h.footlt
    have HFB := Lib.hid hfB
    clear hfB
    have HKR := Lib.hid hKR
    clear hKR
    rename_i hKc
    refine hKc _ _ ?_
    clear hKc
    go_wp2
    go_loopw [30] (fun i wr => ∃ kk stv st, kk ≤ n ∧ i = .int .i64 ((kk : Nat) : Int) ∧ Hid (KR w wr x28 g x20 x22 x24 x26 n S stv st kk)) (fun i _ => n - (intOf i).toNat)
    case atStart => exact ⟨0, _, _, Nat.zero_le _, rfl, HKR⟩
    case round =>
      clear HKR
      obtain ⟨kk, stv, st, hkk, rfl, hR⟩ := hrel
      have hib : (kk : Int) < 9223372036854775807 := by have := hn.out; omega
      by_cases hlt : kk < n
      · have hlt' : (kk : Int) < n := by omega
        have t1 := hR.out.T.c1
        have i1 := hR.out.T.idxAt hlt
        by_cases hu : st.idx kk = -1
        · rw [hu] at i1
          go_wp2_with (go_at_call 25; refine (walk_any g s n kk c x28 x20 x22 x24 x26 w.heap.size ms S stv st _ (h.below hR.out.bel hgB HFB.out) hR.out.T hR.out.inv hR.out.frs hR.out.cnt hR.out.many hu hlt hn hc hgB HFB.out hR.out.ge hR.out.bel.size).mono ?_; rintro e w2 ⟨rfl, fv, stv2, st2, hWR, hm, hk2⟩; have HW := Lib.hid (hR.out.next hWR hm hk2); clear hWR hm hk2)
          go_roundw
          case rel => exact ⟨kk + 1, stv2, st2, by omega, by go_num, HW⟩
          case measure => simp [intOf]; omega
        · have hne : (st.idx kk == -1) = false := by simpa using hu
          have hge : 0 ≤ st.idx kk := by have := hR.out.inv.ge kk; omega
          go_wp2
          go_roundw
          case rel =>
            refine ⟨kk + 1, stv, st, by omega, by go_num, { hR.out with done := fun x hx => ?_ }⟩
            by_cases e : x = kk
            · subst e; exact hge
            · exact hR.out.done x (by omega)
          case measure => simp [intOf]; omega
      · obtain rfl : kk = n := by omega
        have hempty := hR.out.inv.empty hR.out.frs
        have hfin := Lib.hid (hR.out.inv.final hR.out.frs hR.out.done)
        have hkb : Hid (∀ u, u < kk → st.knot u ≤ 1000000000000) := fun u hu => by
          have h1 := hR.out.inv.many u (hR.out.done u hu) (by
            cases e : st.on u with
            | false => rfl
            | true => have := (hR.out.inv.onstk u).1 e; rw [hempty] at this; simp at this)
          have h2 := hR.out.cnt
          have h3 := hR.out.many
          have := hn.out
          omega
        clear hempty
        have hmm := @run_makeMap Try.prog
        obtain ⟨w3, hw3⟩ : ∃ w3, (wr.alloc (.map #[] 0)).alloc (.cells (rowA kk (natC fun _ => 0)) 3) = w3 := ⟨_, rfl⟩
        have hK0 : K2 w w3 x28 x26 wr.heap.size (wr.alloc (.map #[] 0)).heap.size kk st.knot 0 := by
          subst hw3
          have ht := hR.out.T.t
          have hk := hR.out.T.k
          have hs := hR.out.bel.size
          exact {
            num := (NumIs.made wr).fr ((Fr.refl (fun _ => False) _).alloc _) (by simp)
            out := (Blk.new (wr.alloc (.map #[] 0)) (rowA kk (natC fun _ => 0)) 3)
            t := ⟨_, (ht.alloc _).alloc _, rfl⟩
            k := (hk.alloc _).alloc _
            ne := by have := hk.lt; rw [World.size_alloc]; omega
            gm := hs
            go := by rw [World.size_alloc]; omega
            bel := (hR.out.bel.alloc hs _).alloc (by rw [World.size_alloc]; omega) _ }
        have HK0 := Lib.hid hK0
        clear hR hK0
        obtain ⟨mb, hmb⟩ : ∃ mb, wr.heap.size = mb := ⟨_, rfl⟩
        obtain ⟨ob, hob⟩ : ∃ ob, (wr.alloc (.map #[] 0)).heap.size = ob := ⟨_, rfl⟩
        go_wp2
        rw [hmb, hob] at HK0
        clear hmb hob hw3
        go_loopw [49] (fun i wr2 => ∃ jj, jj ≤ kk ∧ i = .int .i64 ((jj : Nat) : Int) ∧ Hid (K2 w wr2 x28 x26 mb ob kk st.knot jj)) (fun i _ => kk - (intOf i).toNat)
        case atStart => exact ⟨0, Nat.zero_le _, rfl, HK0⟩
        case round =>
          clear HK0
          rename_i wr0 _ _
          obtain ⟨jj, hjj, rfl, hR⟩ := hrel
          have hib : (jj : Int) < 9223372036854775807 := by have := hn.out; omega
          by_cases hlt : jj < kk
          · have hlt' : (jj : Int) < kk := by omega
            have c5 := hR.out.c5
            have k1 := hR.out.k.row hlt
            have o1 := hR.out.out.row hlt
            have of := hR.out.out.free jj
            have hnum := Lib.hid hR.out.num
            have hkj : Hid (st.knot jj < 9223372036854775807) := by have := hkb.out jj hlt; exact (by omega : st.knot jj < 9223372036854775807)
            have hmem : st.knot jj ∈ firsts st.knot kk := mem_firsts.2 ⟨jj, hlt, rfl⟩
            by_cases hx : st.knot jj ∈ firsts st.knot jj
            · have hf1 : firsts st.knot (jj + 1) = firsts st.knot jj := by simp only [firsts]; rw [if_pos hx]
              have hix := firsts_idx hx (Nat.le_of_lt hlt)
              have HN := fun w2 (hf : Fr (fun b => b = mb) wr w2) (hnum : NumIs w2 mb (firsts st.knot (jj + 1))) => Lib.hid (hR.out.stored hlt hf hnum hix)
              rw [hf1] at HN
              go_wp2_with (first
                | (at_lookup; refine num_old hnum.out hx hkj.out _ _ rfl rfl rfl rfl ?_))
              go_roundw
              case rel => exact ⟨jj + 1, by omega, by go_num, HN _ (Fr.refl _ wr) hnum.out⟩
              case measure => simp [intOf]; omega
            · have hf1 : firsts st.knot (jj + 1) = firsts st.knot jj ++ [st.knot jj] := by simp only [firsts]; rw [if_neg hx]
              have hix : (firsts st.knot kk).idxOf (st.knot jj) = (firsts st.knot jj).length := by
                rw [firsts_idx (k := jj + 1) (mem_firsts.2 ⟨jj, by omega, rfl⟩) (by omega), hf1, List.idxOf_append, if_neg hx]
                simp
              have HN := fun w2 (hf : Fr (fun b => b = mb) wr w2) (hnum : NumIs w2 mb (firsts st.knot (jj + 1))) => Lib.hid (hR.out.stored hlt hf hnum hix)
              rw [hf1] at HN
              have hlen : Hid ((firsts st.knot jj).length < 1000000000000) := by have := firsts_len st.knot jj; have := hn.out; exact (by omega : (firsts st.knot jj).length < 1000000000000)
              have hlr := num_lenrun hR.out.num 3
              have hmo : Hid (mb ≠ ob) := hR.out.num.ne hR.out.out
              go_wp2_with (first
                | (at_lookup; refine num_not hnum.out hx hkj.out _ _ rfl rfl rfl rfl ?_)
                | (at_mapUpdate; refine num_put hnum.out hx hkj.out hlen.out _ _ _ rfl rfl rfl rfl rfl ?_; intro w2 hnum2 hf2; have o1 := (hf2.blk hR.out.out (Ne.symm hmo.out)).row hlt; have of := (hf2.blk hR.out.out (Ne.symm hmo.out)).free jj; have HN2 := HN w2 hf2 hnum2; clear hnum2 hf2))
              go_roundw
              case rel => exact ⟨jj + 1, by omega, by go_num, HN2⟩
              case measure => simp [intOf]; omega
          · obtain rfl : jj = kk := by omega
            have hnum := Lib.hid hR.out.num
            have hlr := num_lenrun hR.out.num 3
            go_wp2
            go_ret2
            refine ⟨ob, st.knot, rfl, ?_, hR.out.go, hR.out.bel, hfin.out⟩
            refine Eq.trans hR.out.out.eq ?_
            congr 2
            refine rowA_congr fun i hi => ?_
            simp [natC, hi]
  case hstep =>
    rintro L a W i ⟨x18, x20, x22, x24, x26, x28, b0, b1, b2, b3, b4, b5, b6, b7, b8, b9, b10, b11, b12, rfl, rfl, hF⟩ hr
    obtain ⟨hi1, o, ho, hi2⟩ := mem_ready.1 hr
    have hi : i < 13 := by
      have := (Array.getElem?_eq_some_iff.1 ho).1
      simpa using this
    obtain rfl | rfl | rfl | rfl | rfl | rfl | rfl | rfl | rfl | rfl | rfl | rfl | rfl : i = 0 ∨ i = 1 ∨ i = 2 ∨ i = 3 ∨ i = 4 ∨ i = 5 ∨ i = 6 ∨ i = 7 ∨ i = 8 ∨ i = 9 ∨ i = 10 ∨ i = 11 ∨ i = 12 := by omega
    all_goals
      have ho2 := ho
      simp at ho
      subst ho
      simp at hi1
      subst hi1
      simp [Region.binds] at hi2
      refine wpOp_step ho2 ?_
      clear ho2 hr
      intro K' hK
      unfold kframe
    case _ =>
      go_simp
      exact hK _ _ ⟨x18, x20, x22, x24, x26, x28, true, b1, b2, b3, b4, b5, b6, b7, b8, b9, b10, b11, b12, rfl, rfl, { hF with o10 := fun e => by have := hF.o10 e; simp at this }⟩
    case _ =>
      go_simp
      have hE := hF.ext ((Fr.refl (fun _ => False) W).alloc (.cells #[.int .i64 (-1)] 3))
      refine hK _ _ ⟨W.heap.size, x20, x22, x24, x26, x28, b0, true, b2, b3, b4, b5, b6, b7, b8, b9, b10, b11, b12, rfl, rfl, { hE with f1 := fun _ => (Blk.new W #[.int .i64 (-1)] 3).cell 0, o3 := fun _ => rfl }⟩
    case _ =>
      go_simp
      exact hK _ _ ⟨x18, x20, x22, x24, x26, x28, b0, b1, true, b3, b4, b5, b6, b7, b8, b9, b10, b11, b12, rfl, rfl, { hF with }⟩
    case _ =>
      obtain ⟨rfl, rfl⟩ := hi2
      obtain rfl : b10 = false := by cases b10 with
        | false => rfl
        | true => have := hF.o10 rfl; simp at this
      obtain rfl : b11 = false := by cases b11 with
        | false => rfl
        | true => have := hF.o11 rfl; simp at this
      obtain rfl : b12 = false := by cases b12 with
        | false => rfl
        | true => have := hF.o12 rfl; simp at this
      simp only [sel_true]
      go_simp
      refine (repeat_any _ _ n (-1) _ (hF.f1 rfl) hn hn0).mono ?_
      rintro e W' ⟨x, rfl, hx1, hx2, hx3⟩
      have hE := hF.ext (Fr.of_below hx3)
      have hlt := hF.fr.size
      exact hK _ _ ⟨x18, x, x22, x24, x26, x28, b0, true, true, true, b4, b5, b6, b7, b8, b9, false, false, false, rfl, rfl, { hE with
        f3 := fun _ => ⟨hx1, by omega⟩
        f11 := fun e => by simp at e
        d35 := fun _ e => by have := (hF.f5 e).1.lt; omega
        d39 := fun _ e => by have := (hF.f9 e).1.lt; omega
        o3 := fun _ => rfl
        o10 := fun e => by simp at e }⟩
    case _ =>
      go_simp
      exact hK _ _ ⟨x18, x20, x22, x24, x26, x28, b0, b1, b2, b3, true, b5, b6, b7, b8, b9, b10, b11, b12, rfl, rfl, { hF with }⟩
    case _ =>
      subst hi2
      obtain rfl : b10 = false := by cases b10 with
        | false => rfl
        | true => have := hF.o10 rfl; simp at this
      obtain rfl : b11 = false := by cases b11 with
        | false => rfl
        | true => have := hF.o11 rfl; simp at this
      obtain rfl : b12 = false := by cases b12 with
        | false => rfl
        | true => have := hF.o12 rfl; simp at this
      simp only [sel_true]
      go_simp
      have hE := hF.ext ((Fr.refl (fun _ => False) W).alloc (.cells (rowA n (natC fun _ => 0)) 3))
      have hlt := hF.fr.size
      exact hK _ _ ⟨x18, x20, W.heap.size, x24, x26, x28, b0, b1, b2, b3, true, true, b6, b7, b8, b9, false, false, false, rfl, rfl, { hE with
        f5 := fun _ => ⟨Blk.new W _ 3, hlt⟩
        f11 := fun e => by simp at e
        d35 := fun e _ => by have := (hF.f3 e).1.lt; omega
        d59 := fun _ e => by have := (hF.f9 e).1.lt; omega
        o10 := fun e => by simp at e }⟩
    case _ =>
      go_simp
      exact hK _ _ ⟨x18, x20, x22, x24, x26, x28, b0, b1, b2, b3, b4, b5, true, b7, b8, b9, b10, b11, b12, rfl, rfl, { hF with }⟩
    case _ =>
      subst hi2
      obtain rfl : b10 = false := by cases b10 with
        | false => rfl
        | true => have := hF.o10 rfl; simp at this
      obtain rfl : b11 = false := by cases b11 with
        | false => rfl
        | true => have := hF.o11 rfl; simp at this
      obtain rfl : b12 = false := by cases b12 with
        | false => rfl
        | true => have := hF.o12 rfl; simp at this
      simp only [sel_true]
      go_simp
      have hE := hF.ext ((Fr.refl (fun _ => False) W).alloc (.cells (rowA n (boolC fun _ => false)) 4))
      have hlt := hF.fr.size
      exact hK _ _ ⟨x18, x20, x22, W.heap.size, x26, x28, b0, b1, b2, b3, b4, b5, true, true, b8, b9, false, false, false, rfl, rfl, { hE with
        f7 := fun _ => ⟨Blk.new W _ 4, hlt⟩
        f11 := fun e => by simp at e
        o10 := fun e => by simp at e }⟩
    case _ =>
      go_simp
      exact hK _ _ ⟨x18, x20, x22, x24, x26, x28, b0, b1, b2, b3, b4, b5, b6, b7, true, b9, b10, b11, b12, rfl, rfl, { hF with }⟩
    case _ =>
      subst hi2
      obtain rfl : b10 = false := by cases b10 with
        | false => rfl
        | true => have := hF.o10 rfl; simp at this
      obtain rfl : b11 = false := by cases b11 with
        | false => rfl
        | true => have := hF.o11 rfl; simp at this
      obtain rfl : b12 = false := by cases b12 with
        | false => rfl
        | true => have := hF.o12 rfl; simp at this
      simp only [sel_true]
      go_simp
      have hE := hF.ext ((Fr.refl (fun _ => False) W).alloc (.cells (rowA n (natC fun _ => 0)) 3))
      have hlt := hF.fr.size
      exact hK _ _ ⟨x18, x20, x22, x24, W.heap.size, x28, b0, b1, b2, b3, b4, b5, b6, b7, true, true, false, false, false, rfl, rfl, { hE with
        f9 := fun _ => ⟨Blk.new W _ 3, hlt⟩
        f11 := fun e => by simp at e
        d39 := fun e _ => by have := (hF.f3 e).1.lt; omega
        d59 := fun e _ => by have := (hF.f5 e).1.lt; omega
        o10 := fun e => by simp at e }⟩
    case _ =>
      obtain ⟨rfl, rfl, rfl, rfl, rfl⟩ := hi2
      simp only [sel_true]
      go_simp
      exact hK _ _ ⟨x18, x20, x22, x24, x26, x28, true, b1, b2, true, b4, true, b6, true, b8, true, true, b11, b12, rfl, rfl, { hF with
        o10 := fun _ => ⟨rfl, rfl, rfl, rfl, rfl⟩
        o11 := fun _ => rfl }⟩
    case _ =>
      subst hi2
      obtain rfl : b12 = false := by cases b12 with
        | false => rfl
        | true => have := hF.o12 rfl; simp at this
      simp only [sel_true, tcells]
      go_simp
      have hE := hF.ext ((Fr.refl (fun _ => False) W).alloc (.cells (tcells g x20 x22 x24 x26 n) 60))
      have hlt := hF.fr.size
      exact hK _ _ ⟨x18, x20, x22, x24, x26, W.heap.size, b0, b1, b2, b3, b4, b5, b6, b7, b8, b9, true, true, false, rfl, rfl, { hE with
        f11 := fun _ => ⟨Blk.new W _ 60, hlt⟩
        o11 := fun _ => rfl
        o12 := fun _ => rfl }⟩
    case _ =>
      obtain rfl : b0 = true := by revert hi2; cases b0 <;> simp
      obtain rfl : b1 = true := by revert hi2; cases b1 <;> simp
      obtain rfl : b2 = true := by revert hi2; cases b2 <;> simp
      obtain rfl : b3 = true := by revert hi2; cases b3 <;> simp
      obtain rfl : b4 = true := by revert hi2; cases b4 <;> simp
      obtain rfl : b5 = true := by revert hi2; cases b5 <;> simp
      obtain rfl : b6 = true := by revert hi2; cases b6 <;> simp
      obtain rfl : b7 = true := by revert hi2; cases b7 <;> simp
      obtain rfl : b8 = true := by revert hi2; cases b8 <;> simp
      obtain rfl : b9 = true := by revert hi2; cases b9 <;> simp
      obtain rfl : b10 = true := by revert hi2; cases b10 <;> simp
      obtain rfl : b11 = true := by revert hi2; cases b11 <;> simp
      clear hi2
      simp only [sel_true]
      go_simp
      exact hK _ _ ⟨x18, x20, x22, x24, x26, x28, true, true, true, true, true, true, true, true, true, true, true, true, true, rfl, rfl, { hF with
        o12 := fun _ => rfl }⟩

set_option maxRecDepth 100000 in
theorem knots_empty (g s c : Nat) (ms : Nat → Option Nat) (S : Nat → Int → Bool) (w : World) (h : IsG w g s 0 ms c S) :
    Calls Try.prog 12 #[.pointer (some ⟨g, 0, none⟩)] w fun e w' => e = .returned (.tuple #[.slice none 0 0, .int .i64 0]) ∧ w = w' := by
  have hcell := h.cell
  go_enter Try.func12, Try.ntmps12
  go_wp2_with (go_at_call 10; refine (len_any g s 0 _ hcell).mono ?_; rintro e w' ⟨rfl, rfl⟩)
  go_ret2
  exact ⟨rfl, rfl⟩
set_option maxRecDepth 100000 in
theorem knots_nil (w : World) :
    Calls Try.prog 12 #[.pointer none] w fun e w' => e = .returned (.tuple #[.slice none 0 0, .int .i64 0]) ∧ w = w' := by
  go_enter Try.func12, Try.ntmps12
  go_wp2_with (go_at_call 10; refine (len_nil _).mono ?_; rintro e w' ⟨rfl, rfl⟩)
  go_ret2
  exact ⟨rfl, rfl⟩
end Go.Proofs.Yteaemnkllpfbgaa
