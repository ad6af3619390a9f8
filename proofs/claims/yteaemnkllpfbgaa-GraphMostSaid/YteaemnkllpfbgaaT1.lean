/- Tarjan's struct in memory; meet. -/
import Derived.Test.YteaemnkllpfbgaaG8
import Derived.BigRegion
import Derived.Deep.DeepCutAuto
namespace Go.Proofs.Yteaemnkllpfbgaa
open Go.RowKit
open Cal (upd upd_same upd_ne St Inv)
set_option linter.unusedSimpArgs false
set_option linter.unusedVariables false

def natC (f : Nat → Nat) : Nat → Value := fun k => .int .i64 (f k : Int)

/-- The struct at block tb, its rows, and its stack. -/
structure IsT (w : World) (tb g ib lb ob kb n B : Nat) (stv : Value) (st : St) : Prop where
  t : Blk w tb #[.pointer (some ⟨g, 0, none⟩), .slice (some ⟨ib, 0, none⟩) n n, .slice (some ⟨lb, 0, none⟩) n n, .slice (some ⟨ob, 0, none⟩) n n, stv, .slice (some ⟨kb, 0, none⟩) n n, .int .i64 (st.met : Int), .int .i64 (st.many : Int)] 60
  i : Blk w ib (rowA n (intC st.idx)) 3
  l : Blk w lb (rowA n (intC st.low)) 3
  o : Blk w ob (rowA n (boolC st.on)) 4
  k : Blk w kb (rowA n (natC st.knot)) 3
  s : w.ownsRow B 3 1 stv st.stk.length (cellsN st.stk.reverse)
  il : ib ≠ lb
  ik : ib ≠ kb
  lk : lb ≠ kb
  si : stv.ownBlock ≠ some ib
  sl : stv.ownBlock ≠ some lb
  sk : stv.ownBlock ≠ some kb

/-- The blocks that the struct's methods may turn. -/
def TF (tb ib lb ob kb : Nat) (stv : Value) : Nat → Prop := fun b => b = tb ∨ b = ib ∨ b = lb ∨ b = ob ∨ b = kb ∨ stv.ownBlock = some b

theorem IsT.fr {M : Nat → Prop} {w w' : World} {tb g ib lb ob kb n B : Nat} {stv : Value} {st : St} (h : IsT w tb g ib lb ob kb n B stv st) (hf : Fr M w w') (hM : ∀ b, M b → ¬ TF tb ib lb ob kb stv b) : IsT w' tb g ib lb ob kb n B stv st :=
  { h with
    t := hf.blk h.t (fun m => hM _ m (.inl rfl))
    i := hf.blk h.i (fun m => hM _ m (.inr (.inl rfl)))
    l := hf.blk h.l (fun m => hM _ m (.inr (.inr (.inl rfl))))
    o := hf.blk h.o (fun m => hM _ m (.inr (.inr (.inr (.inl rfl)))))
    k := hf.blk h.k (fun m => hM _ m (.inr (.inr (.inr (.inr (.inl rfl))))))
    s := own_fr h.s hf (fun b hb m => hM _ m (.inr (.inr (.inr (.inr (.inr hb)))))) }
theorem IsT.lt {w : World} {tb g ib lb ob kb n B : Nat} {stv : Value} {st : St} (h : IsT w tb g ib lb ob kb n B stv st) : ∀ b, TF tb ib lb ob kb stv b → b < w.heap.size := by
  rintro b (e | e | e | e | e | e)
  · rw [e]; exact h.t.lt
  · rw [e]; exact h.i.lt
  · rw [e]; exact h.l.lt
  · rw [e]; exact h.o.lt
  · rw [e]; exact h.k.lt
  · exact (h.s.lt b e).2
/-- A block of another type than the struct's and its rows'. -/
theorem IsT.off {w : World} {tb g ib lb ob kb n B : Nat} {stv : Value} {st : St} (h : IsT w tb g ib lb ob kb n B stv st) {b : Nat} {cs : Array Value} {t : TypeId} (hb : Blk w b cs t) (h1 : t ≠ 60) (h2 : t ≠ 3) (h3 : t ≠ 4) : ¬ TF tb ib lb ob kb stv b := by
  rintro (e | e | e | e | e | e)
  · rw [e] at hb; exact hb.ne h.t h1 rfl
  · rw [e] at hb; exact hb.ne h.i h2 rfl
  · rw [e] at hb; exact hb.ne h.l h2 rfl
  · rw [e] at hb; exact hb.ne h.o h3 rfl
  · rw [e] at hb; exact hb.ne h.k h2 rfl
  · rcases h.s.2 with ⟨h0, _⟩ | ⟨g', cap, cur, h0, _, hg, _⟩
    · rw [h0] at e; simp [Value.ownBlock] at e
    · rw [h0] at e
      have e' : g' = b := by simpa [Value.ownBlock] using e
      exact hb.ne (show Blk w g' cur 3 from hg) h2 e'.symm

set_option maxRecDepth 100000 in
set_option maxHeartbeats 1000000 in
theorem meet_any (g s n k c tb ib lb ob kb B : Nat) (ms : Nat → Option Nat) (S : Nat → Int → Bool) (stv : Value) (st : St) (w : World) (h : IsG w g s n ms c S) (hT : IsT w tb g ib lb ob kb n B stv st)
    (hk : k < n) (hn : Small n) (hc : Small c) (hgB : g < B) (hfB : ∀ b, foot s n ms b → b < B) (hB : ∀ b, TF tb ib lb ob kb stv b → B ≤ b) (hBw : B ≤ w.heap.size) (hmet : Small st.met) (hstk : Small st.stk.length) :
    Calls Try.prog 34 #[.pointer (some ⟨tb, 0, none⟩), .int .i64 k] w fun e w' => ∃ v stv', e = .returned (.agg #[.int .i64 (k : Int), v, .int .i64 0]) ∧
      w'.ownsRow w.heap.size 3 1 v (sc n S k).length (cellsN (sc n S k)) ∧ IsT w' tb g ib lb ob kb n B stv' (st.meet k) ∧ Fr (TF tb ib lb ob kb stv) w w' ∧ (stv'.ownBlock = stv.ownBlock ∨ ∃ b, stv'.ownBlock = some b ∧ w.heap.size ≤ b) ∧ (∀ b, v.ownBlock = some b → stv'.ownBlock ≠ some b) := by
  have hk' : (k : Int) < n := by omega
  have hti : tb ≠ ib := hT.t.ne hT.i (by decide)
  have htl : tb ≠ lb := hT.t.ne hT.l (by decide)
  have hto : tb ≠ ob := hT.t.ne hT.o (by decide)
  have hio : ib ≠ ob := hT.i.ne hT.o (by decide)
  have hlo : lb ≠ ob := hT.l.ne hT.o (by decide)
  have hil := hT.il
  have hti' := hti.symm
  have htl' := htl.symm
  have hto' := hto.symm
  have hio' := hio.symm
  have hlo' := hlo.symm
  have hil' := hil.symm
  obtain ⟨w0, hw0⟩ : ∃ w0, w.alloc (.cells #[.int .i64 0, .slice none 0 0, .int .i64 0] 83) = w0 := ⟨_, rfl⟩
  have hT0 := hT.t.alloc (.cells #[.int .i64 0, .slice none 0 0, .int .i64 0] 83)
  rw [hw0] at hT0
  have hI0 : Blk w0 ib (rowA n (intC st.idx)) 3 := by rw [← hw0]; exact hT.i.alloc _
  have hL0 : Blk w0 lb (rowA n (intC st.low)) 3 := by rw [← hw0]; exact hT.l.alloc _
  have hO0 : Blk w0 ob (rowA n (boolC st.on)) 4 := by rw [← hw0]; exact hT.o.alloc _
  have d1 := hI0.row hk
  have d2 := hL0.row hk
  have d3 := hO0.row hk
  have e1 := hI0.free k
  have e2 := hL0.free k
  have e3 := hO0.free k
  simp only [intC, boolC] at d1 d2 d3
  have c1 := hT0.cell 1
  have c2 := hT0.cell 2
  have c3 := hT0.cell 3
  have c6 := hT0.cell 6
  go_enter Try.func34, Try.ntmps34
  go_wp2
  go_region
  clear c1 c2 c3 c6 d1 d2 d3 e1 e2 e3
  have hFa : Fr (TF tb ib lb ob kb stv) w w0 := by rw [← hw0]; exact (Fr.refl _ w).alloc _
  have hw0s : w0.heap.size = w.heap.size + 1 := by rw [← hw0]; simp
  obtain ⟨W1, hW1⟩ : ∃ W1, (((w0.setCell ⟨ib, k, none⟩ (.int .i64 (st.met : Int))).setCell ⟨lb, k, none⟩ (.int .i64 (st.met : Int))).setCell ⟨ob, k, none⟩ (.bool true)).drew = W1 := ⟨_, rfl⟩
  rw [hW1]
  have hFr : Fr (fun b => b = ib ∨ b = lb ∨ b = ob) w0 W1 := by
    rw [← hW1]
    exact ((((Fr.refl _ w0).set (p := ⟨ib, k, none⟩) (fun _ => .inl rfl) _).set (p := ⟨lb, k, none⟩) (fun _ => .inr (.inl rfl)) _).set (p := ⟨ob, k, none⟩) (fun _ => .inr (.inr rfl)) _).drew
  have hF1 : Fr (TF tb ib lb ob kb stv) w W1 := hFa.trans hFr (fun i _ e => by rcases e with e | e | e <;> simp [TF, e])
  have hT1 := hFr.blk hT0 (by simp [hti, htl, hto])
  have hI1 : Blk W1 ib (rowA n (intC (upd st.idx k st.met))) 3 := by
    rw [← hW1]
    refine Eq.trans (((hI0.setRow k (.int .i64 (st.met : Int))).setOther (a := ⟨lb, k, none⟩) hil _).setOther (a := ⟨ob, k, none⟩) hio _).drew.eq ?_
    congr 2
    exact rowA_congr fun j _ => by simp only [upd, intC]; split <;> rfl
  have hL1 : Blk W1 lb (rowA n (intC (upd st.low k st.met))) 3 := by
    rw [← hW1]
    refine Eq.trans (((hL0.setOther (a := ⟨ib, k, none⟩) hil' _).setRow k (.int .i64 (st.met : Int))).setOther (a := ⟨ob, k, none⟩) hlo _).drew.eq ?_
    congr 2
    exact rowA_congr fun j _ => by simp only [upd, intC]; split <;> rfl
  have hO1 : Blk W1 ob (rowA n (boolC (upd st.on k true))) 4 := by
    rw [← hW1]
    refine Eq.trans (((hO0.setOther (a := ⟨ib, k, none⟩) hio' _).setOther (a := ⟨lb, k, none⟩) hlo' _).setRow k (.bool true)).drew.eq ?_
    congr 2
    exact rowA_congr fun j _ => by simp only [upd, boolC]; split <;> rfl
  have hko : kb ≠ ob := hT.k.ne hT.o (by decide)
  have hso : stv.ownBlock ≠ some ob := by
    intro e
    rcases hT.s.2 with ⟨h0, _⟩ | ⟨g', cap, cur, h0, _, h2, _⟩
    · rw [h0] at e; simp [Value.ownBlock] at e
    · rw [h0] at e
      have e' : g' = ob := by simpa [Value.ownBlock] using e
      exact (show Blk w g' cur 3 from h2).ne hT.o (by decide) e'
  have hst : stv.ownBlock ≠ some tb := by
    intro e
    rcases hT.s.2 with ⟨h0, _⟩ | ⟨g', cap, cur, h0, _, h2, _⟩
    · rw [h0] at e; simp [Value.ownBlock] at e
    · rw [h0] at e
      have e' : g' = tb := by simpa [Value.ownBlock] using e
      exact (show Blk w g' cur 3 from h2).ne hT.t (by decide) e'
  have hK1 : Blk W1 kb (rowA n (natC st.knot)) 3 := hFr.blk (by rw [← hw0]; exact hT.k.alloc _) (by rintro (e | e | e); exact hT.ik e.symm; exact hT.lk e.symm; exact hko e)
  have hS1 : W1.ownsRow B 3 1 stv st.stk.length (cellsN st.stk.reverse) := own_fr (by rw [← hw0]; exact hT.s.alloc _) hFr (fun b hb e => by
    rcases e with e | e | e <;> rw [e] at hb
    · exact hT.si hb
    · exact hT.sl hb
    · exact hso hb)
  have hV1 : Blk W1 w.heap.size #[.int .i64 0, .slice none 0 0, .int .i64 0] 83 := hFr.blk (by rw [← hw0]; exact Blk.new _ _ _) (by rintro (e | e | e) <;> subst e <;> first | exact absurd hT.i.lt (by omega) | exact absurd hT.l.lt (by omega) | exact absurd hT.o.lt (by omega))
  have hs1 : w0.heap.size ≤ W1.heap.size := hFr.size
  clear hw0 hI0 hL0 hO0 hT0 hW1 hFr
  have hs1' : w.heap.size < W1.heap.size := by omega
  clear hw0s hs1
  have c6 : W1.cell? ⟨tb, 6, none⟩ = some (.int .i64 (st.met : Int)) := hT1.cell 6
  have f6 := hT1.free 6
  have hmb : (st.met : Int) < 9223372036854775807 := by have := hmet.out; omega
  go_upto_region 3 with (fail)
  clear c6 f6 hmb
  obtain ⟨W2, hW2⟩ : ∃ W2, W1.setCell ⟨tb, 6, none⟩ (.int .i64 ((st.met : Int) + 1)) = W2 := ⟨_, rfl⟩
  rw [hW2]
  have hFr : Fr (fun b => b = tb) W1 W2 := by rw [← hW2]; exact (Fr.refl (fun b => b = tb) W1).set (p := ⟨tb, 6, none⟩) (fun _ => rfl) _
  have hF2 : Fr (TF tb ib lb ob kb stv) w W2 := hF1.trans hFr (fun i _ e => .inl e)
  have hT2 : Blk W2 tb #[.pointer (some ⟨g, 0, none⟩), .slice (some ⟨ib, 0, none⟩) n n, .slice (some ⟨lb, 0, none⟩) n n, .slice (some ⟨ob, 0, none⟩) n n, stv, .slice (some ⟨kb, 0, none⟩) n n, .int .i64 ((st.met : Int) + 1), .int .i64 (st.many : Int)] 60 := by
    rw [← hW2]; exact hT1.setSame 6 _
  have hI2 := hFr.blk hI1 hti'
  have hL2 := hFr.blk hL1 htl'
  have hO2 := hFr.blk hO1 hto'
  have hK2 := hFr.blk hK1 (fun e => hT.k.ne hT.t (by decide) e)
  have hS2 : W2.ownsRow B 3 1 stv (cellsN st.stk.reverse).length (cellsN st.stk.reverse) := by rw [cellsN_length, List.length_reverse]; exact own_fr hS1 hFr (fun b hb e => hst (by rw [hb, e]))
  have hV2 := hFr.blk hV1 (by have := hT.t.lt; omega)
  have hs2 : w.heap.size < W2.heap.size := by have := hFr.size; omega
  have hBs2 : B ≤ W2.heap.size := by omega
  clear hW2 hFr hF1 hT1 hI1 hL1 hO1 hK1 hS1 hV1 hs1'
  have c4 : W2.cell? ⟨tb, 4, none⟩ = some stv := hT2.cell 4
  have HL : Hid (((cellsN st.stk.reverse).length + 1) * 8 ≤ 140737488355328) := by
    have := hstk.out
    rw [cellsN_length, List.length_reverse]; exact (by omega : (st.stk.length + 1) * 8 ≤ 140737488355328)
  have hT2A := hT2.alloc (.cells #[.int .i64 (k : Int)] 3)
  have HT2 := Lib.hid hT2
  clear hT2
  go_upto_region 4 with (at_builtin; (refine app_one rfl (.tmp 42) (.tmp 44) 30 3 (.int .i64 0) 8 rfl Try.underlying30 info3 rfl (by omega) stv (cellsN st.stk.reverse) (.int .i64 (k : Int)) rfl W2.heap.size rfl rfl rfl B hS2 hBs2 HL.out ?_); intro v3 W3 hv3 hf3 ha3; obtain ⟨A3, c3, rfl⟩ := own_slice hv3; have hT3 := hf3.blk HT2.out (fun e => hst e); have c44 : W3.cell? ⟨tb, 4, none⟩ = some stv := hT3.cell 4; have f44 := hT3.free 4)
  clear c4 c44 f44
  rw [cellsN_length, List.length_reverse]
  simp only [List.length_append, List.length_cons, List.length_nil, Nat.zero_add, cellsN_length, List.length_reverse] at hv3 ha3
  obtain ⟨W4, hW4⟩ : ∃ W4, W3.setCell ⟨tb, 4, none⟩ (.slice A3 (st.stk.length + 1) c3) = W4 := ⟨_, rfl⟩
  rw [hW4]
  have hFr : Fr (fun b => b = tb) W3 W4 := by rw [← hW4]; exact (Fr.refl (fun b => b = tb) W3).set (p := ⟨tb, 4, none⟩) (fun _ => rfl) _
  have hF4 : Fr (TF tb ib lb ob kb stv) w W4 := (hF2.trans hf3 (fun i _ e => .inr (.inr (.inr (.inr (.inr e)))))).trans hFr (fun i _ e => .inl e)
  have hsb2 := fun b (hb : stv.ownBlock = some b) => (hS2.lt b hb).2
  have hne3 : ∀ b, b < W2.heap.size → stv.ownBlock ≠ some b → (Value.slice A3 (st.stk.length + 1) c3).ownBlock ≠ some b := by
    intro b hb hb2 hb3
    rcases ha3 with e | ⟨b', e, hb'⟩
    · exact hb2 (by rw [← e]; exact hb3)
    · rw [e] at hb3; simp at hb3; omega
  have hT4 : IsT W4 tb g ib lb ob kb n B (.slice A3 (st.stk.length + 1) c3) (st.meet k) := {
    t := by rw [← hW4]; exact hT3.setSame 4 _
    i := hFr.blk (hf3.blk hI2 (fun e => hT.si e)) hti'
    l := hFr.blk (hf3.blk hL2 (fun e => hT.sl e)) htl'
    o := hFr.blk (hf3.blk hO2 (fun e => hso e)) hto'
    k := hFr.blk (hf3.blk hK2 (fun e => hT.sk e)) (fun e => hT.k.ne hT.t (by decide) e)
    s := by
      have h1 := own_fr hv3 hFr (fun b hb e => hne3 tb (HT2.out).lt hst (by rw [hb, e]))
      have h2 : cellsN (st.meet k).stk.reverse = cellsN st.stk.reverse ++ [.int .i64 (k : Int)] := by simp [St.meet, cellsN]
      rw [h2]
      simpa [St.meet, cellsN_length] using h1
    il := hT.il
    ik := hT.ik
    lk := hT.lk
    si := hne3 ib hI2.lt hT.si
    sl := hne3 lb hL2.lt hT.sl
    sk := hne3 kb hK2.lt hT.sk }
  have hV4 : Blk W4 w.heap.size #[.int .i64 0, .slice none 0 0, .int .i64 0] 83 := hFr.blk (hf3.blk hV2 (fun e => by have := (hT.s.lt _ e).2; omega)) (fun e => by have := hT.t.lt; omega)
  have hs4 : w.heap.size < W4.heap.size := hV4.lt
  have hloc : ((Value.slice A3 (st.stk.length + 1) c3).ownBlock = stv.ownBlock ∨ ∃ b, (Value.slice A3 (st.stk.length + 1) c3).ownBlock = some b ∧ w.heap.size ≤ b) := by
    rcases ha3 with e | ⟨b, e, hb⟩
    · exact .inl e
    · exact .inr ⟨b, e, by omega⟩
  clear hW4 hFr hF2 hT3 hf3 HT2 hI2 hL2 hO2 hK2 hV2 hs2 hBs2 hS2 hT2A HL hv3 ha3 hsb2 hne3
  have hbel4 : Below B w W4 := hF4.below B hB hBw
  have hG4 : IsG W4 g s n ms c S := h.below hbel4 hgB hfB
  have c0 : W4.cell? ⟨tb, 0, none⟩ = some (.pointer (some ⟨g, 0, none⟩)) := hT4.t.cell 0
  generalize hvs : Value.slice A3 (st.stk.length + 1) c3 = stv' at *
  clear hvs
  go_wp2_with (go_at_call 13; refine (from_any g s n k c ms S _ hG4 hk hc).mono ?_; rintro e W5 ⟨v5, rfl, hrow5, hb5⟩; obtain ⟨A5, c5, rfl⟩ := own_slice hrow5; have hV5 := (Fr.of_below hb5).blk hV4 (by simp); have v0 : W5.cell? ⟨w.heap.size, 0, none⟩ = some (.int .i64 0) := hV5.cell 0; have v1 : W5.cell? ⟨w.heap.size, 1, none⟩ = some (.slice none 0 0) := hV5.cell 1; have v2 : W5.cell? ⟨w.heap.size, 2, none⟩ = some (.int .i64 0) := hV5.cell 2; have f0 := hV5.free 0; have f1 := hV5.free 1; have f2 := hV5.free 2)
  clear v0 v1 v2 f0 f1 f2 c0
  obtain ⟨W6, hW6⟩ : ∃ W6, ((W5.setCell ⟨w.heap.size, 0, none⟩ (.int .i64 (k : Int))).setCell ⟨w.heap.size, 1, none⟩ (.slice A5 (sc n S k).length c5)).setCell ⟨w.heap.size, 2, none⟩ (.int .i64 0) = W6 := ⟨_, rfl⟩
  rw [hW6]
  have hF6 : Fr (fun b => b = w.heap.size) W5 W6 := by
    rw [← hW6]
    exact (((Fr.refl (fun b => b = w.heap.size) W5).set (p := ⟨w.heap.size, 0, none⟩) (fun _ => rfl) _).set (p := ⟨w.heap.size, 1, none⟩) (fun _ => rfl) _).set (p := ⟨w.heap.size, 2, none⟩) (fun _ => rfl) _
  have hV6 : Blk W6 w.heap.size #[.int .i64 (k : Int), .slice A5 (sc n S k).length c5, .int .i64 0] 83 := by
    rw [← hW6]
    exact ((hV5.setSame 0 _).setSame 1 _).setSame 2 _
  have v0 : W6.cell? ⟨w.heap.size, 0, none⟩ = some (.int .i64 (k : Int)) := hV6.cell 0
  have v1 : W6.cell? ⟨w.heap.size, 1, none⟩ = some (.slice A5 (sc n S k).length c5) := hV6.cell 1
  have v2 : W6.cell? ⟨w.heap.size, 2, none⟩ = some (.int .i64 0) := hV6.cell 2
  have hFb : Fr (fun _ => False) W4 W5 := Fr.of_below hb5
  refine bodyPost_ret (v := .agg #[.int .i64 (k : Int), .slice A5 (sc n S k).length c5, .int .i64 0]) (by simp [results, Try.results34, go_sem, v0, v1, v2]) rfl ⟨_, stv', rfl, ?_, (hT4.fr hFb (by simp)).fr hF6 ?_, (hF4.trans hFb (by simp)).trans hF6 ?_, hloc, ?_⟩
  · exact own_fr (own_base hrow5 (by omega)) hF6 (fun b hb e => by have := (hrow5.lt b hb).1; omega)
  · rintro b rfl hb
    exact hT4.off hV4 (by decide) (by decide) (by decide) hb
  · intro i hi e; omega
  · intro b hb hb2
    have h1 := (hrow5.lt b hb).1
    have h2 := (hT4.s.lt b hb2).2
    omega
end Go.Proofs.Yteaemnkllpfbgaa
