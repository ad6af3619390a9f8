/- Tarjan's walk. -/
import Derived.Test.YteaemnkllpfbgaaT3
namespace Go.Proofs.Yteaemnkllpfbgaa
open Go.RowKit
open Cal (upd upd_same upd_ne St Inv upd_self)
set_option linter.unusedSimpArgs false
set_option linter.unusedVariables false

/-- What walk leaves. -/
def WalkP (w : World) (tb g ib lb ob kb n B k : Nat) (S : Nat → Int → Bool) (stv0 : Value) (st0 : St) (e : Ending) (w' : World) : Prop :=
  e = .returned (.tuple #[]) ∧ ∃ fv stv st, WR w w' tb g ib lb ob kb n B S stv0 fv [] stv st ∧ (∀ x, 0 ≤ st0.idx x → 0 ≤ st.idx x) ∧ 0 ≤ st.idx k

set_option maxRecDepth 100000 in
set_option maxHeartbeats 8000000 in
theorem walk_any (g s n k c tb ib lb ob kb B : Nat) (ms : Nat → Option Nat) (S : Nat → Int → Bool) (stv0 : Value) (st0 : St) (w : World) (h : IsG w g s n ms c S) (hT : IsT w tb g ib lb ob kb n B stv0 st0)
    (hI : Inv n (sc n S) st0) (hfr : st0.frs = []) (hcnt : st0.met + unmet n st0 = n) (hmany : st0.many + st0.stk.length ≤ st0.met) (hu : st0.idx k = -1)
    (hk : k < n) (hn : Small n) (hc : Small c) (hgB : g < B) (hfB : ∀ b, foot s n ms b → b < B) (hB : ∀ b, TF tb ib lb ob kb stv0 b → B ≤ b) (hBw : B ≤ w.heap.size) :
    Calls Try.prog 25 #[.pointer (some ⟨tb, 0, none⟩), .int .i64 k] w (WalkP w tb g ib lb ob kb n B k S stv0 st0) := by
  have hlt0 := hT.lt
  go_enter Try.func25, Try.ntmps25
  go_wp2_with (go_at_call 34; refine (meet_any g s n k c tb ib lb ob kb B ms S stv0 st0 _ h hT hk hn hc hgB hfB hB hBw (by have := hn.out; exact (by omega : st0.met ≤ 1000000000000)) (by have := hn.out; exact (by omega : st0.stk.length ≤ 1000000000000))).mono ?_; rintro e w1 ⟨v1, stv1, rfl, hrow1, hT1, hF1, hloc1, hls1⟩)
  have hW0 : WR w (w1.alloc (.cells #[.int .i64 (k : Int), v1, .int .i64 0] 83)) tb g ib lb ob kb n B S stv0 (.slice (some ⟨w1.heap.size, 0, none⟩) 1 1) [(k, v1, 0)] stv1 (st0.meet k) := {
    T := hT1.fr ((Fr.refl (fun _ => False) w1).alloc _) (by simp)
    inv := hI.meet k hk hu (by simp [hfr])
    frs := by simp [St.meet, hfr]
    row := by
      have := World.ownsRow_lit (base := w.heap.size) (e := 83) (size := 3) w1 #[.int .i64 (k : Int), v1, .int .i64 0] 1 hF1.size (by unfold maxLen; omega) rfl
      simpa [fcells] using this
    ls := by
      intro f hf
      simp only [List.mem_singleton] at hf
      subst hf
      exact ⟨hrow1.alloc _, fun b hb => hls1 b hb⟩
    fr := hF1.alloc _
    loc := hloc1
    lt0 := hlt0
    cnt := by
      have := unmet_new (st := st0) (st' := st0.meet k) hk hu (m := st0.met) (by omega) rfl
      simp only [St.meet] at this ⊢
      omega
    many := by simp only [St.meet, List.length_cons]; omega }
  have hG : ∀ wr, Fr (TF tb ib lb ob kb stv0) w wr → IsG wr g s n ms c S := fun wr hf => h.below (hf.below B hB hBw) hgB hfB
  have HG := Lib.hid hG
  have HB := Lib.hid hB
  have HFB := Lib.hid hfB
  clear hG hB hfB hrow1 hT1 hF1 hloc1 hls1 hT hI hfr hcnt hmany hu hlt0 h
  go_loopg [4] (Cal.cost (sc n S) (st0.meet k) n) (fun gk fv wr => ∃ FL stv st, gk = Cal.cost (sc n S) st n ∧ WR w wr tb g ib lb ob kb n B S stv0 fv FL stv st ∧ Hid (∀ x, 0 ≤ st0.idx x → 0 ≤ st.idx x) ∧ 0 ≤ st.idx k)
  case atStart =>
    refine ⟨_, _, _, rfl, hW0, fun x hx => ?_, ?_⟩
    · simp only [St.meet, upd]; split <;> omega
    · simp [St.meet, upd]
  case round =>
    clear hW0
    obtain ⟨FL, stv, st, rfl, hR, hmono, hkm⟩ := hrel
    cases FL with
    | nil =>
      obtain ⟨A, cA, rfl⟩ : ∃ A cA, u4 = .slice A 0 cA := by
        rcases hR.row.2 with ⟨h0, _⟩ | ⟨g', cap, cur, h0, _⟩
        · exact ⟨none, 0, h0⟩
        · exact ⟨_, cap, h0⟩
      go_wp2
      exact bodyPost_ret (results_none rfl _ _ _) rfl ⟨rfl, _, stv, st, hR, hmono.out, hkm⟩
    | cons f FR =>
      obtain ⟨v, lv, j⟩ := f
      have hfrs : st.frs = (v, j) :: FR.map fun f => (f.1, f.2.2) := hR.frs
      have hvs : v ∈ st.stk := by have := hR.inv.frstk (v, j) (by rw [hfrs]; exact List.mem_cons_self); simpa using this
      have hvn : v < n := hR.inv.stklt v hvs
      have hjl : j ≤ (sc n S v).length := by have := hR.inv.frlen (v, j) (by rw [hfrs]; exact List.mem_cons_self); simpa using this
      have hlv := (hR.ls (v, lv, j) List.mem_cons_self).1
      obtain ⟨A, cA, rfl⟩ : ∃ A cA, lv = .slice A (sc n S v).length cA := own_slice hlv
      have hFLn := hR.FLlen
      obtain ⟨fb, cap, cur, rfl, hfb0, hfcap, hfc, hff⟩ : ∃ fb cap cur, u4 = .slice (some ⟨fb, 0, none⟩) (FR.length + 1) cap ∧ w.heap.size ≤ fb ∧ FR.length + 1 ≤ cap ∧
          (wr.cell? ⟨fb, FR.length * 3, none⟩ = some (.int .i64 (v : Int)) ∧ wr.cell? ⟨fb, FR.length * 3 + 1, none⟩ = some (.slice A (sc n S v).length cA) ∧ wr.cell? ⟨fb, FR.length * 3 + 2, none⟩ = some (.int .i64 (j : Int))) ∧ Blk wr fb cur 83 := by
        have hrow := hR.row
        rcases hrow.2 with ⟨_, h0⟩ | ⟨fb, cap, cur, e, h1, h2, h3, _⟩
        · simp at h0
        · rw [e] at hrow
          have hc := fcells_at FR.reverse (v, .slice A (sc n S v).length cA, j) FR.length (by simp)
          simp only [List.length_cons, List.reverse_cons] at hrow
          refine ⟨fb, cap, cur, e, h1, h3, ⟨?_, ?_, ?_⟩, h2⟩
          · rw [hrow.cellAt _ (by omega)]; exact hc.1
          · rw [hrow.cellAt _ (by omega)]; exact hc.2.1
          · rw [hrow.cellAt _ (by omega)]; exact hc.2.2
      obtain ⟨hc0, hc1, hc2⟩ := hfc
      have hf2 := hff.free (FR.length * 3 + 2)
      simp only [List.length_cons] at hFLn
      have hml : (FR.length : Int) < 9223372036854775807 := by have := hn.out; omega
      by_cases hj : j = (sc n S v).length
      · subst hj
        have hcl := close_any g v tb ib lb ob kb n B stv st wr.drew hR.T.drew hvn hvs hR.inv.stklt hR.inv.nodup (by have := hR.inv.stklen; have := hn.out; exact (by omega : st.stk.length ≤ 1000000000000)) (by have := hR.many; have := hR.met; have := hn.out; exact (by omega : st.many ≤ 1000000000000))
        have HM := Lib.hid hmono
        have HKM := Lib.hid hkm
        clear hmono hkm hjl hvs hvn
        cases FR with
        | nil =>
          simp only [List.length_nil, Nat.zero_mul, Nat.zero_add] at hc0 hc1 hc2 hf2 hfcap hml
          go_wp2
          go_region
          go_wp2_with (go_at_call 35; refine hcl.mono ?_; rintro e w2 ⟨rfl, stv2, st2, hcs, hT2, hF2, hl2⟩)
          have hlast := (hcs.last hR.inv hfrs rfl).1 rfl
          go_roundg (Cal.cost (sc n S) { st2 with frs := [] } n)
          case measure => exact Cal.cost_drop st _ hcs.idx hfrs rfl
          case rel =>
            have hF2' : Fr (TF tb ib lb ob kb stv) wr w2 := ((Fr.refl _ wr).drew).trans hF2 (fun _ _ h => h)
            refine ⟨[], stv2, { st2 with frs := [] }, rfl, ?_, fun x hx => by simp only [hcs.idx]; exact HM.out.out x hx, by simp only [hcs.idx]; exact HKM.out⟩
            exact {
              T := hT2.congr rfl rfl rfl rfl rfl rfl rfl
              inv := hlast
              frs := rfl
              row := by
                have h1 := hR.keepRow hF2'
                exact ownsRow_pop (n := 0) (xs := []) (last := fcells [(v, .slice A (sc n S v).length cA, (sc n S v).length)]) rfl (by simpa using h1)
              ls := by intro f hf; simp at hf
              fr := hR.frNext hF2'
              loc := by rw [hl2]; exact hR.loc
              lt0 := hR.lt0
              cnt := by have h1 := hR.cnt; have h2 := unmet_congr n (st := st) (st' := { st2 with frs := [] }) hcs.idx; rw [h2]; simp only [hcs.met]; exact h1
              many := by have := hcs.many; have := hR.many; simp only [hcs.met]; omega }
        | cons f2 FR2 =>
          obtain ⟨u, lu, ju⟩ := f2
          have hus : u ∈ st.stk := by have := hR.inv.frstk (u, ju) (by rw [hfrs]; simp); simpa using this
          have hun : u < n := hR.inv.stklt u hus
          have hrow := hR.row
          have hu0 : wr.cell? ⟨fb, FR2.length * 3, none⟩ = some (.int .i64 (u : Int)) := by
            simp only [List.length_cons, List.reverse_cons] at hrow
            rw [hrow.cellAt _ (by omega)]
            have hc := fcells_at FR2.reverse (u, lu, ju) FR2.length (by simp)
            rw [fcells_snoc, List.getElem?_append_left (by rw [fcells_length]; simp)]
            exact hc.1
          have hu0d : ∀ w2, Fr (TF tb ib lb ob kb stv) wr.drew w2 → w2.cell? ⟨fb, FR2.length * 3, none⟩ = some (.int .i64 (u : Int)) := fun w2 hf2 => by
            have hb := hf2.blk hff (hR.rowoff fb rfl)
            have h1 := hff.cell (FR2.length * 3)
            rw [hb.cell]
            rw [← h1]; exact hu0
          obtain ⟨M, hM⟩ : ∃ M, ((u, lu, ju) :: FR2).length = M := ⟨_, rfl⟩
          have hM2 : FR2.length = M - 1 := by rw [← hM]; simp
          have hM0 : 0 < M := by rw [← hM]; simp
          have hM1 : (0 : Int) < M := by omega
          rw [hM] at hc0 hc1 hc2 hf2 hfcap hml ⊢
          rw [hM2] at hu0 hu0d
          have HM1 := Lib.hid hM
          clear hM hM2 hrow
          go_wp2
          go_region
          go_wp2_with (go_at_call 35; refine hcl.mono ?_; rintro e w2 ⟨rfl, stv2, st2, hcs, hT2, hF2, hl2⟩; have hu2 := hu0d w2 hF2)
          have hvn := hR.inv.stklt v (by have := hR.inv.frstk (v, (sc n S v).length) (by rw [hfrs]; simp); simpa using this)
          have hsto := (hT2.setLow u (min (st2.low u) (st2.low v))).drew
          have hF3 : Fr (TF tb ib lb ob kb stv) wr (w2.setCell ⟨lb, u, none⟩ (.int .i64 (min (st2.low u) (st2.low v)))).drew := ((((Fr.refl _ wr).drew).trans hF2 (fun _ _ h => h)).set (p := ⟨lb, u, none⟩) (fun _ => .inr (.inr (.inl rfl))) _).drew
          have t2 := hT2.c2
          have l1 := hT2.lowAt hun
          have l2 := hT2.lowAt hvn
          have lf := hT2.l.free u
          have hun' : (u : Int) < n := by omega
          have hvn' : (v : Int) < n := by omega
          clear hu2 hcl hu0 hu0d hc0 hc1 hc2 hf2
          go_region
          go_wp2
          have hlast := (hcs.last hR.inv hfrs rfl).2 u ju (FR2.map fun f => (f.1, f.2.2)) rfl
          go_roundg (Cal.cost (sc n S) { st2 with low := upd st2.low u (min (st2.low u) (st2.low v)), frs := ((u, lu, ju) :: FR2).map fun f => (f.1, f.2.2) } n)
          case measure => exact Cal.cost_drop st _ hcs.idx hfrs rfl
          case rel =>
            refine ⟨(u, lu, ju) :: FR2, stv2, { st2 with low := upd st2.low u (min (st2.low u) (st2.low v)), frs := ((u, lu, ju) :: FR2).map fun f => (f.1, f.2.2) }, rfl, ?_, fun x hx => by simp only [hcs.idx]; exact HM.out.out x hx, by simp only [hcs.idx]; exact HKM.out⟩
            exact {
              T := hsto.congr rfl rfl rfl rfl rfl rfl rfl
              inv := hlast
              frs := rfl
              row := by
                have h1 := hR.keepRow hF3
                simp only [List.length_cons, List.reverse_cons] at h1 ⊢
                rw [fcells_snoc] at h1
                have h2 := ownsRow_pop (n := FR2.length + 1) (by rw [fcells_length]; simp) h1
                have h3 : M = FR2.length + 1 := by have := HM1.out; simp at this; omega
                rw [h3]; exact h2
              ls := fun f hf => ⟨hR.keepLs hF3 f (List.mem_cons_of_mem _ hf), fun b hb => by rw [hl2]; exact (hR.ls f (List.mem_cons_of_mem _ hf)).2 b hb⟩
              fr := hR.frNext hF3
              loc := by rw [hl2]; exact hR.loc
              lt0 := hR.lt0
              cnt := by have h1 := hR.cnt; have h2 := unmet_congr n (st := st) (st' := { st2 with low := upd st2.low u (min (st2.low u) (st2.low v)), frs := ((u, lu, ju) :: FR2).map fun f => (f.1, f.2.2) }) hcs.idx; rw [h2]; simp only [hcs.met]; exact h1
              many := by have := hcs.many; have := hR.many; simp only [hcs.met]; omega }
      · have hjlt : j < (sc n S v).length := by omega
        obtain ⟨y, hy⟩ : ∃ y, (sc n S v)[j]? = some y := ⟨_, List.getElem?_eq_getElem hjlt⟩
        have hyn : y < n := (mem_sc.1 (List.mem_of_getElem? hy)).1
        have hyn' : (y : Int) < n := by omega
        have hjlt' : (j : Int) < (sc n S v).length := by omega
        have hjb : (j : Int) < 9223372036854775807 := by have := sc_le n S v; have := hn.out; omega
        have hjne : ((j : Int) == ((sc n S v).length : Int)) = false := by simp only [beq_eq_false_iff_ne, ne_eq]; omega
        obtain ⟨ab, hA, hab, hyc⟩ : ∃ ab, A = some ⟨ab, 0, none⟩ ∧ (Value.slice A (sc n S v).length cA).ownBlock = some ab ∧ wr.cell? ⟨ab, j, none⟩ = some (.int .i64 (y : Int)) := by
          rcases own_cases hlv with ⟨_, h0, _⟩ | ⟨g', cap, e, h1, _, _, _, h3, _⟩
          · exact absurd h0 (by show ¬ ((sc n S v).length = 0); omega)
          · simp only [Value.slice.injEq] at e
            exact ⟨g', e.1, by rw [e.1]; rfl, h3 j _ (cellsN_get hy)⟩
        subst hA
        obtain ⟨M, hM⟩ : ∃ M, FR.length = M := ⟨_, rfl⟩
        rw [hM] at hc0 hc1 hc2 hf2 hfcap hml ⊢
        have HM1 := Lib.hid hM
        clear hM
        have HM := Lib.hid hmono
        have HKM := Lib.hid hkm
        have HYC := Lib.hid hyc
        clear hmono hkm hjl hvs
        go_wp2
        go_region
        go_wp2
        go_region
        go_upto_region 12 with (fail)
        obtain ⟨W2, hW2⟩ : ∃ W2, (wr.setCell ⟨fb, M * 3 + 2, none⟩ (.int .i64 ((j : Int) + 1))).drew.drew = W2 := ⟨_, rfl⟩
        rw [hW2]
        have hFs : Fr (fun b => b = fb) wr W2 := by rw [← hW2]; exact ((Fr.refl (fun b => b = fb) wr).set (p := ⟨fb, M * 3 + 2, none⟩) (fun _ => rfl) _).drew.drew
        have hT2 : IsT W2 tb g ib lb ob kb n B stv st := hR.T.fr hFs (fun b e => by subst e; exact hR.rowoff b rfl)
        have hrow2 : W2.ownsRow w.heap.size 83 3 (.slice (some ⟨fb, 0, none⟩) (M + 1) cap) (FR.length + 1) (fcells ((v, .slice (some ⟨ab, 0, none⟩) (sc n S v).length cA, j + 1) :: FR).reverse) := by
          have h1 := hR.row
          rw [HM1.out] at h1
          simp only [List.length_cons, List.reverse_cons, HM1.out] at h1 ⊢
          have h2 := (h1.stored (M * 3 + 2) (.int .i64 ((j + 1 : Nat) : Int))).1
          rw [fcells_set _ _ _ _ _ _ (by rw [List.length_reverse]; exact HM1.out)] at h2
          rw [← hW2]
          exact h2
        have hls2 : ∀ f, f ∈ (v, Value.slice (some ⟨ab, 0, none⟩) (sc n S v).length cA, j + 1) :: FR → W2.ownsRow w.heap.size 3 1 f.2.1 (sc n S f.1).length (cellsN (sc n S f.1)) ∧ (∀ b, f.2.1.ownBlock = some b → stv.ownBlock ≠ some b) := by
          intro f hf
          rcases List.mem_cons.1 hf with rfl | hf
          · have h1 := hR.ls _ List.mem_cons_self
            exact ⟨own_fr h1.1 hFs (fun b hb e => by have := (hR.lsoff _ List.mem_cons_self b hb).2; rw [e] at this; exact this rfl), h1.2⟩
          · have h1 := hR.ls f (List.mem_cons_of_mem _ hf)
            exact ⟨own_fr h1.1 hFs (fun b hb e => by have := (hR.lsoff f (List.mem_cons_of_mem _ hf) b hb).2; rw [e] at this; exact this rfl), h1.2⟩
        have hF2 : Fr (TF tb ib lb ob kb stv0) w W2 := hR.fr.trans hFs (fun i hi e => by omega)
        have hold := hR.old
        have hloc := hR.loc
        have hlt0 := hR.lt0
        have hcnt := hR.cnt
        have hmany := hR.many
        have hinv := hR.inv
        have hmetn := hR.met
        clear hW2 hFs hR hlv hc0 hc1 hc2 hf2 hff HYC hab hjlt' hjne hjb
        have t1 := hT2.c1
        have i1 := hT2.idxAt hyn
        by_cases hy1 : st.idx y = -1
        · have hm := meet_any g s n y c tb ib lb ob kb B ms S stv st W2 (HG.out W2 hF2) hT2 hyn hn hc hgB HFB.out (fun b hb => by
            by_cases hbw : b < w.heap.size
            · exact HB.out b (hold b hbw hb)
            · omega) (by have := hF2.size; omega) (by have := hn.out; exact (by omega : st.met ≤ 1000000000000)) (by have := hn.out; exact (by omega : st.stk.length ≤ 1000000000000))
          rw [hy1] at i1
          have HL : Hid ((M + 1 + 1) * 40 ≤ 140737488355328) := by have := hn.out; have := HM1.out; exact (by omega : (M + 1 + 1) * 40 ≤ 140737488355328)
          have hfs : (Value.slice (some ⟨fb, 0, none⟩) (M + 1) cap).ownBlock = some fb := rfl
          go_wp2_with (first
            | (go_at_call 34; refine hm.mono ?_; rintro e w3 ⟨v3, stv3, rfl, hrow3, hT3, hF3, hloc3, hls3⟩; obtain ⟨A3, c3, rfl⟩ := own_slice hrow3; have hrow4 := own_fr hrow2 hF3 (fun b hb => by obtain ⟨cur, hc⟩ := own_blk hrow2 hb; exact hT2.off hc (by decide) (by decide) (by decide)); rw [HM1.out] at hrow4; have hs3 : w.heap.size ≤ w3.heap.size := by have := hF2.size; have := hF3.size; omega)
            | (at_builtin; (refine app_row rfl (.tmp 100) (.tmp 104) 85 83 (.agg #[.int .i64 0, .slice none 0 0, .int .i64 0]) 3 40 rfl Try.underlying85 info83 rfl (by omega) (by omega) (.slice (some ⟨fb, 0, none⟩) (M + 1) cap) (M + 1) _ [.int .i64 (y : Int), .slice A3 (sc n S y).length c3, .int .i64 0] rfl w3.heap.size rfl rfl rfl (by simp [Value.oneCell']) w.heap.size hrow4 hs3 HL.out ?_); intro v5 w5 hv5 hf5 ha5))
          have hw2 := hF2.size
          have hfo : ∀ b, (Value.slice (some ⟨fb, 0, none⟩) (M + 1) cap).ownBlock = some b → ¬ TF tb ib lb ob kb stv3 b := fun b hb => by
            obtain ⟨cur, hc⟩ := own_blk hrow4 hb
            exact hT3.off hc (by decide) (by decide) (by decide)
          go_roundg (Cal.cost (sc n S) { st.meet y with frs := (y, 0) :: (v, j + 1) :: FR.map fun f => (f.1, f.2.2) } n)
          case measure => exact Cal.cost_new st _ (m := st.met) (by omega) rfl hyn hy1 hfrs rfl hjlt
          case rel =>
            refine ⟨(y, .slice A3 (sc n S y).length c3, 0) :: (v, .slice (some ⟨ab, 0, none⟩) (sc n S v).length cA, j + 1) :: FR, stv3, { st.meet y with frs := (y, 0) :: (v, j + 1) :: FR.map fun f => (f.1, f.2.2) }, rfl, ?_, fun x hx => ?_, ?_⟩
            · exact {
                T := (hT3.fr hf5 (fun b hb => hfo b hb)).congr rfl rfl rfl rfl rfl rfl rfl
                inv := hinv.goNew hfrs hy hyn hy1
                frs := rfl
                row := by
                  have h1 := hv5
                  simp only [List.length_cons, HM1.out]
                  rw [List.reverse_cons, fcells_snoc]
                  exact h1
                ls := by
                  intro f hf
                  rcases List.mem_cons.1 hf with rfl | hf
                  · refine ⟨own_fr (own_base hrow3 hw2) hf5 (fun b hb e => ?_), hls3⟩
                    have h1 := (hrow3.lt b hb).1
                    have h2 := (hrow2.lt b e).2
                    omega
                  · have h1 := hls2 f hf
                    refine ⟨own_fr (own_fr h1.1 hF3 (fun b hb m => ?_)) hf5 (fun b hb e => ?_), fun b hb e => ?_⟩
                    · rcases m with e | e | e | e | e | e
                      · have := hlt0 b (.inl e); have := (h1.1.lt b hb).1; omega
                      · have := hlt0 b (.inr (.inl e)); have := (h1.1.lt b hb).1; omega
                      · have := hlt0 b (.inr (.inr (.inl e))); have := (h1.1.lt b hb).1; omega
                      · have := hlt0 b (.inr (.inr (.inr (.inl e)))); have := (h1.1.lt b hb).1; omega
                      · have := hlt0 b (.inr (.inr (.inr (.inr (.inl e))))); have := (h1.1.lt b hb).1; omega
                      · exact h1.2 b hb e
                    · obtain ⟨q1, hq1⟩ := own_blk h1.1 hb
                      obtain ⟨q2, hq2⟩ := own_blk hrow2 e
                      exact hq1.ne hq2 (by decide) rfl
                    · rcases hloc3 with e1 | ⟨b', e1, hb'⟩
                      · exact h1.2 b hb (by rw [← e1]; exact e)
                      · rw [e1] at e
                        simp at e
                        have := (h1.1.lt b hb).2
                        omega
                fr := (hF2.trans hF3 (fun i hi m => hold i hi m)).trans hf5 (fun i hi e => by have := (hrow2.lt i e).1; omega)
                loc := by
                  rcases hloc3 with e1 | ⟨b', e1, hb'⟩
                  · rw [e1]; exact hloc
                  · exact .inr ⟨b', e1, by omega⟩
                lt0 := hlt0
                cnt := by
                  have := unmet_new (st := st) (st' := { st.meet y with frs := (y, 0) :: (v, j + 1) :: FR.map fun f => (f.1, f.2.2) }) hyn hy1 (m := st.met) (by omega) rfl
                  simp only [St.meet] at this ⊢
                  omega
                many := by simp only [St.meet, List.length_cons]; omega }
            · simp only [St.meet, upd]
              have := HM.out.out x hx
              split <;> omega
            · simp only [St.meet, upd]
              have := HKM.out
              split <;> omega
        · have hge := hinv.ge y
          have hy0 : 0 ≤ st.idx y := by omega
          have hy2 : (st.idx y == -1) = false := by simpa using hy1
          have t3 := hT2.c3
          have o1 := hT2.onAt hyn
          cases hon : st.on y with
          | false =>
            rw [hon] at o1
            have hb := hinv.bump (pre := []) (k := y) (by simpa using hfrs) hy hy0 (fun e => by rw [hon] at e; simp at e)
            clear hy1 hge
            go_wp2
            go_roundg (Cal.cost (sc n S) { st with frs := (v, j + 1) :: FR.map fun f => (f.1, f.2.2) } n)
            case measure => exact Cal.cost_bump (pre := []) st _ rfl (by simpa using hfrs) rfl hjlt
            case rel =>
              refine ⟨(v, .slice (some ⟨ab, 0, none⟩) (sc n S v).length cA, j + 1) :: FR, stv, { st with frs := (v, j + 1) :: FR.map fun f => (f.1, f.2.2) }, rfl, ?_, HM.out, HKM.out⟩
              exact {
                T := hT2.congr rfl rfl rfl rfl rfl rfl rfl
                inv := hb
                frs := rfl
                row := by simp only [List.length_cons, HM1.out]; rw [HM1.out] at hrow2; exact hrow2
                ls := hls2
                fr := hF2
                loc := hloc
                lt0 := hlt0
                cnt := hcnt
                many := hmany }
          | true =>
            rw [hon] at o1
            have hvs : v ∈ st.stk := by have := hinv.frstk (v, j) (by rw [hfrs]; exact List.mem_cons_self); simpa using this
            have hb := hinv.along hfrs hy hy0 (min (st.low v) (st.idx y)) (by omega) (by
              by_cases h1 : st.low v ≤ st.idx y
              · exact .inl (by omega)
              · exact .inr ⟨hon, by omega⟩) (fun _ => by omega)
            have hsto := (hT2.setLow v (min (st.low v) (st.idx y))).drew
            have hFl : Fr (TF tb ib lb ob kb stv) W2 (W2.setCell ⟨lb, v, none⟩ (.int .i64 (min (st.low v) (st.idx y)))).drew := ((Fr.refl _ W2).set (p := ⟨lb, v, none⟩) (fun _ => .inr (.inr (.inl rfl))) _).drew
            have hvc : W2.cell? ⟨fb, M * 3, none⟩ = some (.int .i64 (v : Int)) := by
              have h1 := hrow2
              rw [HM1.out] at h1
              rw [h1.cellAt _ (by omega), List.reverse_cons]
              exact (fcells_at FR.reverse (v, .slice (some ⟨ab, 0, none⟩) (sc n S v).length cA, j + 1) M (by rw [List.length_reverse]; exact HM1.out)).1
            have hvn' : (v : Int) < n := by omega
            have t2 := hT2.c2
            have l1 := hT2.lowAt hvn
            have lf := hT2.l.free v
            clear hy1 hge hon
            go_wp2
            go_region
            go_wp2
            go_roundg (Cal.cost (sc n S) { st with low := upd st.low v (min (st.low v) (st.idx y)), frs := (v, j + 1) :: FR.map fun f => (f.1, f.2.2) } n)
            case measure => exact Cal.cost_bump (pre := []) st _ rfl (by simpa using hfrs) rfl hjlt
            case rel =>
              refine ⟨(v, .slice (some ⟨ab, 0, none⟩) (sc n S v).length cA, j + 1) :: FR, stv, { st with low := upd st.low v (min (st.low v) (st.idx y)), frs := (v, j + 1) :: FR.map fun f => (f.1, f.2.2) }, rfl, ?_, HM.out, HKM.out⟩
              exact {
                T := hsto.congr rfl rfl rfl rfl rfl rfl rfl
                inv := hb
                frs := rfl
                row := by
                  simp only [List.length_cons, HM1.out]; rw [HM1.out] at hrow2
                  exact own_fr hrow2 hFl (fun b hb m => by obtain ⟨cur, hc⟩ := own_blk hrow2 hb; exact hT2.off hc (by decide) (by decide) (by decide) m)
                ls := fun f hf => ⟨own_fr (hls2 f hf).1 hFl (fun b hb m => by
                  have h1 := hls2 f hf
                  rcases m with e | e | e | e | e | e
                  · have := hlt0 b (.inl e); have := (h1.1.lt b hb).1; omega
                  · have := hlt0 b (.inr (.inl e)); have := (h1.1.lt b hb).1; omega
                  · have := hlt0 b (.inr (.inr (.inl e))); have := (h1.1.lt b hb).1; omega
                  · have := hlt0 b (.inr (.inr (.inr (.inl e)))); have := (h1.1.lt b hb).1; omega
                  · have := hlt0 b (.inr (.inr (.inr (.inr (.inl e))))); have := (h1.1.lt b hb).1; omega
                  · exact h1.2 b hb e), (hls2 f hf).2⟩
                fr := hF2.trans hFl (fun i hi m => hold i hi m)
                loc := hloc
                lt0 := hlt0
                cnt := hcnt
                many := hmany }
end Go.Proofs.Yteaemnkllpfbgaa
