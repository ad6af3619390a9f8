/- Tarjan's struct: close. -/
import Derived.Test.YteaemnkllpfbgaaT1
import Derived.WalkSmall
namespace Go.Proofs.Yteaemnkllpfbgaa
open Go.RowKit
open Cal (upd upd_same upd_ne St Inv cut)
set_option linter.unusedSimpArgs false
set_option linter.unusedVariables false

theorem IsT.idxAt {w : World} {tb g ib lb ob kb n B : Nat} {stv : Value} {st : St} (h : IsT w tb g ib lb ob kb n B stv st) {k : Nat} (hk : k < n) : w.cell? ⟨ib, k, none⟩ = some (.int .i64 (st.idx k)) := h.i.row hk
theorem IsT.lowAt {w : World} {tb g ib lb ob kb n B : Nat} {stv : Value} {st : St} (h : IsT w tb g ib lb ob kb n B stv st) {k : Nat} (hk : k < n) : w.cell? ⟨lb, k, none⟩ = some (.int .i64 (st.low k)) := h.l.row hk
theorem IsT.onAt {w : World} {tb g ib lb ob kb n B : Nat} {stv : Value} {st : St} (h : IsT w tb g ib lb ob kb n B stv st) {k : Nat} (hk : k < n) : w.cell? ⟨ob, k, none⟩ = some (.bool (st.on k)) := h.o.row hk
theorem IsT.knotAt {w : World} {tb g ib lb ob kb n B : Nat} {stv : Value} {st : St} (h : IsT w tb g ib lb ob kb n B stv st) {k : Nat} (hk : k < n) : w.cell? ⟨kb, k, none⟩ = some (.int .i64 (st.knot k : Int)) := h.k.row hk
theorem IsT.c1 {w : World} {tb g ib lb ob kb n B : Nat} {stv : Value} {st : St} (h : IsT w tb g ib lb ob kb n B stv st) : w.cell? ⟨tb, 1, none⟩ = some (.slice (some ⟨ib, 0, none⟩) n n) := h.t.cell 1
theorem IsT.c2 {w : World} {tb g ib lb ob kb n B : Nat} {stv : Value} {st : St} (h : IsT w tb g ib lb ob kb n B stv st) : w.cell? ⟨tb, 2, none⟩ = some (.slice (some ⟨lb, 0, none⟩) n n) := h.t.cell 2
theorem IsT.c3 {w : World} {tb g ib lb ob kb n B : Nat} {stv : Value} {st : St} (h : IsT w tb g ib lb ob kb n B stv st) : w.cell? ⟨tb, 3, none⟩ = some (.slice (some ⟨ob, 0, none⟩) n n) := h.t.cell 3
theorem IsT.c4 {w : World} {tb g ib lb ob kb n B : Nat} {stv : Value} {st : St} (h : IsT w tb g ib lb ob kb n B stv st) : w.cell? ⟨tb, 4, none⟩ = some stv := h.t.cell 4
theorem IsT.c5 {w : World} {tb g ib lb ob kb n B : Nat} {stv : Value} {st : St} (h : IsT w tb g ib lb ob kb n B stv st) : w.cell? ⟨tb, 5, none⟩ = some (.slice (some ⟨kb, 0, none⟩) n n) := h.t.cell 5
theorem IsT.c6 {w : World} {tb g ib lb ob kb n B : Nat} {stv : Value} {st : St} (h : IsT w tb g ib lb ob kb n B stv st) : w.cell? ⟨tb, 6, none⟩ = some (.int .i64 (st.met : Int)) := h.t.cell 6
theorem IsT.c7 {w : World} {tb g ib lb ob kb n B : Nat} {stv : Value} {st : St} (h : IsT w tb g ib lb ob kb n B stv st) : w.cell? ⟨tb, 7, none⟩ = some (.int .i64 (st.many : Int)) := h.t.cell 7

set_option maxRecDepth 100000 in
set_option maxHeartbeats 1000000 in
theorem close_skip (g k tb ib lb ob kb n B : Nat) (stv : Value) (st : St) (w : World) (hT : IsT w tb g ib lb ob kb n B stv st) (hk : k < n) (hne : st.low k ≠ st.idx k) :
    Calls Try.prog 35 #[.pointer (some ⟨tb, 0, none⟩), .int .i64 k] w fun e w' => e = .returned (.tuple #[]) ∧ IsT w' tb g ib lb ob kb n B stv st ∧ Fr (fun _ => False) w w' := by
  have hk' : (k : Int) < n := by omega
  have c1 := hT.c1
  have c2 := hT.c2
  have d1 := hT.idxAt hk
  have d2 := hT.lowAt hk
  have hb : (st.low k != st.idx k) = true := by simpa using hne
  go_enter Try.func35, Try.ntmps35
  go_wp2
  go_region
  go_wp2
  exact bodyPost_ret (results_none rfl _ _ _) rfl ⟨rfl, hT.fr ((Fr.refl (fun _ => False) w).drew) (by simp), (Fr.refl (fun _ => False) w).drew⟩

/-- The state when some things lie on the stack no more. -/
def popSt (st : St) (out rest : List Nat) : St :=
  { st with on := fun x => if x ∈ out then false else st.on x, knot := fun x => if x ∈ out then st.many else st.knot x, stk := rest }

def CloseP (g k tb ib lb ob kb n B : Nat) (stv : Value) (st : St) (w : World) (e : Ending) (w' : World) : Prop :=
  e = .returned (.tuple #[]) ∧ ∃ stv' out rest, st.stk = out ++ rest ∧ k ∈ out ∧ (∀ x, x ∈ out → x = k ∨ ∃ a b, out = a ++ b ∧ x ∈ a ∧ k ∈ b) ∧
    IsT w' tb g ib lb ob kb n B stv' { popSt st out rest with many := st.many + 1 } ∧ Fr (TF tb ib lb ob kb stv) w w' ∧ stv'.ownBlock = stv.ownBlock

set_option maxRecDepth 100000 in
set_option maxHeartbeats 1000000 in
theorem close_pop (g k tb ib lb ob kb n B : Nat) (stv : Value) (st : St) (w : World) (hT : IsT w tb g ib lb ob kb n B stv st) (hk : k < n) (heq : st.low k = st.idx k) (hin : k ∈ st.stk) (hst : ∀ x, x ∈ st.stk → x < n)
    (hnd : st.stk.Nodup) (hsl : Small st.stk.length) (hmany : Small st.many) :
    Calls Try.prog 35 #[.pointer (some ⟨tb, 0, none⟩), .int .i64 k] w (CloseP g k tb ib lb ob kb n B stv st w) := by
  have hk' : (k : Int) < n := by omega
  have c1 := hT.c1
  have c2 := hT.c2
  have d1 := hT.idxAt hk
  have d2 := hT.lowAt hk
  have hb : (st.low k != st.idx k) = false := by simpa using heq
  go_enter Try.func35, Try.ntmps35
  go_wp2
  go_region
  go_wp2
  clear c1 c2 d1 d2 hb
  go_loopg [4] st.stk.length (fun gk _ wr => ∃ stv' out rest, gk = rest.length ∧ st.stk = out ++ rest ∧ k ∉ out ∧ IsT wr tb g ib lb ob kb n B stv' (popSt st out rest) ∧ Fr (TF tb ib lb ob kb stv) w wr ∧ stv'.ownBlock = stv.ownBlock)
  case atStart =>
    refine ⟨stv, [], st.stk, rfl, rfl, by simp, ?_, (Fr.refl _ w).drew, rfl⟩
    have := hT.fr ((Fr.refl (fun _ => False) w).drew) (by simp)
    simpa [popSt] using this
  case round =>
    obtain ⟨stv', out, rest, rfl, hsp, hno, hR, hF, how⟩ := hrel
    have hkr : k ∈ rest := by
      rw [hsp] at hin
      rcases List.mem_append.1 hin with h | h
      · exact absurd h hno
      · exact h
    obtain ⟨x, r, rfl⟩ : ∃ x r, rest = x :: r := by
      cases rest with
      | nil => simp at hkr
      | cons x r => exact ⟨x, r, rfl⟩
    have hxn : x < n := hst x (by rw [hsp]; simp)
    have hxn' : (x : Int) < n := by omega
    obtain ⟨sb, cap, rfl, hxc, hsbl⟩ : ∃ sb cap, stv' = .slice (some ⟨sb, 0, none⟩) (r.length + 1) cap ∧ wr.cell? ⟨sb, r.length, none⟩ = some (.int .i64 (x : Int)) ∧ r.length + 1 ≤ cap := by
      rcases own_cases hR.s with ⟨_, h0, _⟩ | ⟨sb, cap, e, _, _, h5, _, h3, _⟩
      · simp [popSt] at h0
      · exact ⟨sb, cap, e, h3 _ _ (cellsN_get (by simp [popSt])), h5⟩
    have c4 := hR.c4
    have f4 := hR.t.free 4
    have hrl : (r.length : Int) < 9223372036854775807 := by
      have := hsl.out
      have h2 : st.stk.length = out.length + (r.length + 1) := by rw [hsp]; simp
      omega
    go_wp2
    go_region
    go_wp2
    have hrc : (r.length : Int) ≤ cap := by omega
    go_region
    go_wp2
    clear c4 f4 hxc hrl hrc
    have hto : tb ≠ ob := hT.t.ne hT.o (by decide)
    have hti : tb ≠ ib := hT.t.ne hT.i (by decide)
    have htl : tb ≠ lb := hT.t.ne hT.l (by decide)
    have htk : tb ≠ kb := hT.t.ne hT.k (by decide)
    have hok : ob ≠ kb := hT.o.ne hT.k (by decide)
    have hok' := hok.symm
    have hto' := hto.symm
    have htk' := htk.symm
    obtain ⟨W2, hW2⟩ : ∃ W2, (wr.setCell ⟨tb, 4, none⟩ (.slice (some ⟨sb, 0, none⟩) r.length cap)).drew.drew = W2 := ⟨_, rfl⟩
    rw [hW2]
    have hFr : Fr (fun b => b = tb) wr W2 := by rw [← hW2]; exact ((Fr.refl (fun b => b = tb) wr).set (p := ⟨tb, 4, none⟩) (fun _ => rfl) _).drew.drew
    have hT2 : Blk W2 tb #[.pointer (some ⟨g, 0, none⟩), .slice (some ⟨ib, 0, none⟩) n n, .slice (some ⟨lb, 0, none⟩) n n, .slice (some ⟨ob, 0, none⟩) n n, .slice (some ⟨sb, 0, none⟩) r.length cap, .slice (some ⟨kb, 0, none⟩) n n, .int .i64 (st.met : Int), .int .i64 (st.many : Int)] 60 := by
      rw [← hW2]; exact (hR.t.setSame 4 _).drew.drew
    have hI2 := hFr.blk hR.i hti.symm
    have hL2 := hFr.blk hR.l htl.symm
    have hO2 := hFr.blk hR.o hto'
    have hK2 := hFr.blk hR.k htk'
    have hS2 : W2.ownsRow B 3 1 (.slice (some ⟨sb, 0, none⟩) r.length cap) r.length (cellsN r.reverse) := by
      have h1 : wr.ownsRow B 3 1 (.slice (some ⟨sb, 0, none⟩) (r.length + 1) cap) (r.length + 1) (cellsN r.reverse ++ [.int .i64 (x : Int)]) := by
        have := hR.s
        simpa [popSt, cellsN] using this
      have h2 := ownsRow_pop (n := r.length) (by simp [cellsN]) h1
      exact own_fr h2 hFr (fun b hb e => by
        subst e
        have : sb = b := by simpa [Value.ownBlock] using hb
        subst this
        rcases hR.s.2 with ⟨h0, _⟩ | ⟨g', cap', cur, h0, _, h5, _⟩
        · simp at h0
        · simp only [Value.slice.injEq, Option.some.injEq, Addr.mk.injEq, and_true] at h0
          obtain ⟨rfl, _⟩ := h0
          exact (show Blk wr sb cur 3 from h5).ne hR.t (by decide) rfl)
    have hF2 : Fr (TF tb ib lb ob kb stv) w W2 := hF.trans hFr (fun i _ e => .inl e)
    have hsi : (Value.slice (some ⟨sb, 0, none⟩) r.length cap).ownBlock ≠ some ib := hR.si
    have hsl' : (Value.slice (some ⟨sb, 0, none⟩) r.length cap).ownBlock ≠ some lb := hR.sl
    have hsk : (Value.slice (some ⟨sb, 0, none⟩) r.length cap).ownBlock ≠ some kb := hR.sk
    have how' : (Value.slice (some ⟨sb, 0, none⟩) r.length cap).ownBlock = stv.ownBlock := how
    have hso : (Value.slice (some ⟨sb, 0, none⟩) r.length cap).ownBlock ≠ some ob := fun e => by
      rcases hS2.2 with ⟨h0, _⟩ | ⟨g', cap', cur, h0, _, h5, _⟩
      · simp at h0
      · rw [h0] at e
        exact (show Blk W2 g' cur 3 from h5).ne hO2 (by decide) (by simpa [Value.ownBlock] using e)
    clear hW2 hFr hR how hF
    have c3 : W2.cell? ⟨tb, 3, none⟩ = some (.slice (some ⟨ob, 0, none⟩) n n) := hT2.cell 3
    have c5 : W2.cell? ⟨tb, 5, none⟩ = some (.slice (some ⟨kb, 0, none⟩) n n) := hT2.cell 5
    have c7 : W2.cell? ⟨tb, 7, none⟩ = some (.int .i64 (st.many : Int)) := hT2.cell 7
    have d1 := hO2.row hxn
    have d2 := hK2.row hxn
    have e1 := hO2.free x
    have e2 := hK2.free x
    simp only [boolC, natC] at d1 d2
    go_region
    clear c3 c5 c7 d1 d2 e1 e2
    obtain ⟨W3, hW3⟩ : ∃ W3, ((W2.setCell ⟨ob, x, none⟩ (.bool false)).setCell ⟨kb, x, none⟩ (.int .i64 (st.many : Int))).drew = W3 := ⟨_, rfl⟩
    rw [hW3]
    have hFr : Fr (fun b => b = ob ∨ b = kb) W2 W3 := by
      rw [← hW3]
      exact (((Fr.refl (fun b => b = ob ∨ b = kb) W2).set (p := ⟨ob, x, none⟩) (fun _ => .inl rfl) _).set (p := ⟨kb, x, none⟩) (fun _ => .inr rfl) _).drew
    have hF3 : Fr (TF tb ib lb ob kb stv) w W3 := hF2.trans hFr (fun i _ e => by rcases e with e | e <;> simp [TF, e])
    have hT3 : IsT W3 tb g ib lb ob kb n B (.slice (some ⟨sb, 0, none⟩) r.length cap) (popSt st (out ++ [x]) r) := {
      t := hFr.blk hT2 (by simp [hto, htk])
      i := hFr.blk hI2 (by rintro (e | e); exact hT.i.ne hT.o (by decide) e; exact hT.ik e)
      l := hFr.blk hL2 (by rintro (e | e); exact hT.l.ne hT.o (by decide) e; exact hT.lk e)
      o := by
        rw [← hW3]
        refine Eq.trans ((hO2.setRow x (.bool false)).setOther (a := ⟨kb, x, none⟩) hok _).drew.eq ?_
        congr 2
        refine rowA_congr fun j _ => ?_
        simp only [upd, boolC, popSt, List.mem_append, List.mem_singleton]
        by_cases e1 : j = x <;> by_cases e2 : j ∈ out <;> simp [e1, e2]
      k := by
        rw [← hW3]
        refine Eq.trans ((hK2.setOther (a := ⟨ob, x, none⟩) hok' _).setRow x (.int .i64 (st.many : Int))).drew.eq ?_
        congr 2
        refine rowA_congr fun j _ => ?_
        simp only [upd, natC, popSt, List.mem_append, List.mem_singleton]
        by_cases e1 : j = x <;> by_cases e2 : j ∈ out <;> simp [e1, e2]
      s := own_fr hS2 hFr (fun b hb e => by
        rcases e with e | e <;> rw [e] at hb
        · exact hso hb
        · exact hsk hb)
      il := hT.il
      ik := hT.ik
      lk := hT.lk
      si := hsi
      sl := hsl'
      sk := hsk }
    have hsp' : Hid (st.stk = (out ++ [x]) ++ r) := by rw [hsp]; exact (by simp : out ++ x :: r = (out ++ [x]) ++ r)
    have how2 := Lib.hid how'
    have hno2 := Lib.hid hno
    clear hW3 hFr hF2 hT2 hI2 hL2 hO2 hK2 hS2 hsi hsl' hsk hso how' hsp hno heq hkr
    have c7 : W3.cell? ⟨tb, 7, none⟩ = some (.int .i64 (st.many : Int)) := hT3.c7
    have f7 := hT3.t.free 7
    go_wp2
    · have hxk : x = k := by
        have h1 : ((x : Int) == (k : Int)) = true := by assumption
        have h2 : (x : Int) = (k : Int) := by simpa using h1
        omega
      subst hxk
      have hw : wrap64 ((st.many : Int) + 1) = (st.many : Int) + 1 := by have := hmany.out; unfold wrap64; omega
      rw [hw]
      have hF4 : Fr (fun b => b = tb) W3 (W3.setCell ⟨tb, 7, none⟩ (.int .i64 ((st.many : Int) + 1))) := (Fr.refl (fun b => b = tb) W3).set (p := ⟨tb, 7, none⟩) (fun _ => rfl) _
      refine bodyPost_ret (results_none rfl _ _ _) rfl ⟨rfl, _, out ++ [x], r, hsp'.out, by simp, ?_, ?_, hF3.trans hF4 (fun i _ e => .inl e), how2.out⟩
      · intro y hy
        rcases List.mem_append.1 hy with hy | hy
        · exact .inr ⟨out, [x], rfl, hy, by simp⟩
        · exact .inl (by simpa using hy)
      · exact {
          t := hT3.t.setSame 7 _
          i := hF4.blk hT3.i hti.symm
          l := hF4.blk hT3.l htl.symm
          o := hF4.blk hT3.o hto'
          k := hF4.blk hT3.k htk'
          s := own_fr hT3.s hF4 (fun b hb e => by
            subst e
            rcases hT3.s.2 with ⟨h0, _⟩ | ⟨g', cap', cur, h0, _, h5, _⟩
            · simp at h0
            · rw [h0] at hb
              exact (show Blk W3 g' cur 3 from h5).ne hT3.t (by decide) (by simpa [Value.ownBlock] using hb))
          il := hT.il
          ik := hT.ik
          lk := hT.lk
          si := hT3.si
          sl := hT3.sl
          sk := hT3.sk }
    · have hxk : x ≠ k := by
        have : ((x : Int) == (k : Int)) = false := by assumption
        intro e; subst e; simp at this
      go_roundg r.length
      case measure => simp
      case rel =>
        refine ⟨_, out ++ [x], r, rfl, hsp'.out, ?_, hT3, hF3, how2.out⟩
        simp only [List.mem_append, List.mem_singleton, not_or]
        exact ⟨hno2.out, fun e => hxk e.symm⟩
end Go.Proofs.Yteaemnkllpfbgaa
