/- The law GraphReaches walked. -/
import Derived.Test.YteaemnkllpfbgaaPr
import Derived.Test.YteaemnkllpfbgaaC2
import Derived.Test.YteaemnkllpfbgaaLk
import Derived.BigQuiet
import Derived.Deep.DeepCutAuto
import Derived.Deep.CutBlock
namespace Go.Proofs.Yteaemnkllpfbgaa
open Go.RowKit Go.Maps
open Cal (upd upd_same upd_ne)
set_option linter.unusedSimpArgs false
set_option linter.unusedVariables false

theorem T1.next0 {w wr w' : World} {cb n i : Nat} {rows : Nat → Nat} {C : Nat → Nat → Bool} (h : T1 w wr cb n i rows C) (hb : Below wr.heap.size wr w') : T1 w w' cb n i rows C := h.fr (Fr.of_below hb)

set_option maxRecDepth 100000 in
set_option maxHeartbeats 4000000 in
theorem law_reaches_long (z : Nat) (hz : z ≤ 255) (v : Value) (l : List (Int × Int)) (w : World) (hp : Pairs w v l) (hl : 80 < l.length) :
    Calls Try.prog 3 #[.int .u8 z, v] w (LawP w) := by
  obtain ⟨A, cap, rfl, _⟩ := hp.len
  clear hp
  have hl' : (80 : Int) < l.length := by omega
  go_enter Try.func3, Try.ntmps3
  go_wp2_with (first
    | (go_at_call 8; refine (awake_any _).mono ?_; rintro e w1 ⟨rfl, hb1⟩))
  go_ret
  exact ⟨rfl, hb1⟩

/-- What stands behind the calls ahead of the law's loop. -/
structure LR (w wr : World) (g s mb cb ob n c : Nat) (ms : Nat → Option Nat) (rows crows : Nat → Nat) (S : Nat → Int → Bool) (C : Nat → Nat → Bool) (kn : Nat → Nat) : Prop where
  G : IsG wr g s n ms c S
  M : IsM wr mb n rows S
  T : ∃ w0, T1 w0 wr cb n n crows C
  o : Blk wr ob (rowA n (natC fun i => (firsts kn n).idxOf (kn i))) 3
  bel : Below w.heap.size w wr
theorem LR.fr {w wr w' : World} {g s mb cb ob n c : Nat} {ms : Nat → Option Nat} {rows crows : Nat → Nat} {S : Nat → Int → Bool} {C : Nat → Nat → Bool} {kn : Nat → Nat} (h : LR w wr g s mb cb ob n c ms rows crows S C kn) (hf : Fr (fun _ => False) wr w') : LR w w' g s mb cb ob n c ms rows crows S C kn := by
  obtain ⟨w0, hT⟩ := h.T
  exact ⟨h.G.fr hf (fun e => e) (fun b e => e.elim), h.M.fr hf (fun e => e) (fun _ _ e => e), ⟨w0, hT.fr hf⟩, hf.blk h.o (fun e => e), h.bel.trans (hf.below _ (fun i e => e.elim) h.bel.size)⟩

set_option maxRecDepth 100000 in
set_option maxHeartbeats 40000000 in
theorem law_reaches_some (z n : Nat) (hz : z ≤ 255) (v : Value) (l : List (Int × Int)) (w : World) (hp : Pairs w v l) (hl : l.length ≤ 80) (hzn : (z : Int) % 14 = n) (hn : n ≤ 13) (hn0 : 0 < n) :
    Calls Try.prog 3 #[.int .u8 z, v] w (LawP w) := by
  obtain ⟨A, cap, rfl, _⟩ := hp.len
  have HP := Lib.hid hp
  clear hp
  have hl' : (80 < (l.length : Int)) = False := by simp; omega
  have hsn : Small n := Nat.le_trans hn (by decide)
  go_enter Try.func3, Try.ntmps3
  go_wp2_with (first
    | (go_at_call 8; refine (awake_any _).mono ?_; rintro e w1 ⟨rfl, hb1⟩)
    | (go_at_call 9; refine (build_any n _ l _ (HP.out.below hb1) (by omega) (by omega)).mono ?_; rintro e w2 ⟨g, s, mb, rows, rfl, hB⟩; obtain ⟨c, ms, hcl, hG⟩ := hB.G; have hcell2 := hG.G.cell; have hsc : Small c := Nat.le_trans hcl (Nat.le_trans hl (by decide)))
    | (go_at_call 10; refine (len_any g s n _ hcell2).mono ?_; rintro e w' ⟨rfl, rfl⟩)
    | (go_at_call 11; refine (closure_any n mb rows _ _ hB.M (by omega)).mono ?_; rintro e w3 ⟨cb, crows, C, rfl, hT, hC⟩; have hG3 := hG.G.fr (Fr.of_below hT.bel) (fun e => e) (fun b e => e.elim); have hM3 := hB.M.next hT.bel)
    | (go_at_call 12; refine (knots_any g s n c ms _ _ hG3 hn0 hsn hsc).mono ?_; rintro e w4 ⟨ob, kn, rfl, hob, hoge, hb4, hkn⟩))
  have HL : Hid (LR w w4 g s mb cb ob n c ms rows crows (arrows n l) C kn) := by
    have h1 := Fr.of_below hb4
    exact ⟨hG3.fr h1 (fun e => e) (fun b e => e.elim), hM3.next hb4, ⟨_, hT.next0 hb4⟩, hob, hb1.trans ((hG.bel.trans ((hT.bel.trans (hb4.mono hT.bel.size)).mono hG.bel.size)).mono hb1.size)⟩
  have HC := Lib.hid hC
  have HK := Lib.hid hkn
  have HCL := Lib.hid hcl
  clear hB hG hcell2 hG3 hM3 hT hC hob hoge hb4 hkn hcl hb1 hzn
  obtain ⟨S, hS⟩ : ∃ S, arrows n l = S := ⟨_, rfl⟩
  rw [hS] at HL HC HK
  clear hS
  have htot : Hid (∀ i, i ≤ n → tot n S i ≤ 1000) := fun i hi => by
    have : ∀ i, tot n S i ≤ i * n := by
      intro i
      induction i with
      | zero => simp [tot]
      | succ i ih => simp only [tot]; have := sc_le n S i; rw [Nat.add_mul, Nat.one_mul]; omega
    have h1 := this i
    have h2 : i * n ≤ 13 * 13 := Nat.mul_le_mul (by omega) hn
    omega
  go_loopw [12, 13, 14] (fun av nv iv wr => ∃ i : Nat, i ≤ n ∧ iv = .int .i64 ((i : Nat) : Int) ∧ av = .int .i64 ((tot n S i : Nat) : Int) ∧ nv = .int .i64 (((firsts kn i).length : Nat) : Int) ∧ Hid (LR w wr g s mb cb ob n c ms rows crows S C kn)) (fun _ _ iv _ => n - (intOf iv).toNat)
  case atStart => exact ⟨0, Nat.zero_le _, rfl, rfl, rfl, HL⟩
  case round =>
    clear HL
    obtain ⟨i, hin, rfl, rfl, rfl, hR⟩ := hrel
    by_cases hlt : i < n
    · have hlt' : (i : Int) < n := by omega
      have hgt : Hid (tot n S (i + 1) = tot n S i + (sc n S i).length) := rfl
      have htb := htot.out (i + 1) hlt
      obtain ⟨t0, ht0⟩ : ∃ t0, tot n S i = t0 := ⟨_, rfl⟩
      obtain ⟨L, hL⟩ : ∃ L, (sc n S i).length = L := ⟨_, rfl⟩
      obtain ⟨f0, hf0⟩ : ∃ f0, (firsts kn i).length = f0 := ⟨_, rfl⟩
      have hf0n : f0 ≤ n := by have := firsts_len kn i; omega
      have hLn : L ≤ n := by rw [← hL]; exact sc_le n S i
      rw [hgt.out, ht0, hL] at htb
      rw [ht0, hf0]
      have HG := hgt.out
      rw [ht0, hL] at HG
      have HGT := Lib.hid HG
      have HL0 := Lib.hid hL
      have HF0 := Lib.hid hf0
      have hfrom := from_any g s n i c ms S wr hR.out.G hlt hsc
      rw [hL] at hfrom
      clear hgt HG ht0 hL hf0
      go_wp2_with (first
        | (go_at_call 13; refine hfrom.mono ?_; rintro e w5 ⟨fv, rfl, hfr5, hb5⟩; obtain ⟨FA, fc, rfl⟩ := own_slice hfr5; have hR5 := hR.out.fr (Fr.of_below hb5))
        | (go_at_call 14; refine (reach_any g s n i c ms S _ hR5.G hlt hsn hsc).mono ?_; rintro e w6 ⟨rb, R, rfl, hrb, hRR, hrge, hb6⟩))
      have hR6 := Lib.hid (hR5.fr (Fr.of_below hb6))
      have hfr6 := own_fr hfr5 (Fr.of_below hb6) (fun b hb e => e)
      have hrb6 : Hid (Blk w6 rb (rowA n (boolC (C i))) 4) := by
        refine Eq.trans hrb.eq ?_
        congr 2
        refine rowA_congr fun y hy => ?_
        have : R y = C i y := Bool.eq_iff_iff.2 ((hRR y hy).trans (HC.out i y hlt hy).symm)
        simp only [boolC, this]
      have HFR := Lib.hid hfr6
      clear hfr5 hb5 hR5 hR hrb hRR hrge hb6 hfr6 hfrom
      go_loopw [12, 17, 18, 19] (fun av kv fv jv wr2 => ∃ j : Nat, j ≤ n ∧ jv = .int .i64 ((j : Nat) : Int) ∧ av = .int .i64 ((t0 + cntTo (fun y => S i y) j : Nat) : Int) ∧ kv = .int .i64 ((cntTo (fun y => S i y) j : Nat) : Int) ∧ fv = .bool (firstB (fun i => (firsts kn n).idxOf (kn i)) i j) ∧ Fr (fun _ => False) w6 wr2) (fun _ _ _ jv _ => n - (intOf jv).toNat)
      case atStart => exact ⟨0, Nat.zero_le _, rfl, rfl, rfl, rfl, Fr.refl _ w6⟩
      case round =>
        obtain ⟨j, hjn, rfl, rfl, rfl, rfl, hF⟩ := hrel
        have hRw := hR6.out.fr hF
        by_cases hjlt : j < n
        · have hjlt' : (j : Int) < n := by omega
          have hcs := cntTo_le (fun y => S i y) j
          have fs := firstB_succ (fun i => (firsts kn n).idxOf (kn i)) i j
          have t1 : wr.cell? ⟨mb, i, none⟩ = some (.slice (some ⟨rows i, 0, none⟩) n n) := hRw.M.top.row hlt
          have r1 : wr.cell? ⟨rows i, j, none⟩ = some (.bool (S i j)) := (hRw.M.row i hlt).row hjlt
          have rr : wr.cell? ⟨rb, j, none⟩ = some (.bool (C i j)) := (hF.blk hrb6.out (fun e => e)).row hjlt
          obtain ⟨w0, hT⟩ := hRw.T
          have c1 := hT.at hlt hlt
          have c2 := hT.at hjlt hjlt
          have e1 := hT.el hlt hjlt
          have e2 := hT.el hjlt hlt
          have o1 : wr.cell? ⟨ob, i, none⟩ = some (.int .i64 (((firsts kn n).idxOf (kn i) : Nat) : Int)) := hRw.o.row hlt
          have o2 : wr.cell? ⟨ob, j, none⟩ = some (.int .i64 (((firsts kn n).idxOf (kn j) : Nat) : Int)) := hRw.o.row hjlt
          have hnk : (firsts kn n).idxOf (kn i) = (firsts kn n).idxOf (kn j) ↔ (C i j = true ∧ C j i = true) := by
            rw [HC.out i j hlt hjlt, HC.out j i hjlt hlt, ← HK.out i j hlt hjlt]
            exact ⟨fun e => idxOf_inj (mem_firsts.2 ⟨i, hlt, rfl⟩) e, fun e => by rw [e]⟩
          have hfrw := own_fr HFR.out hF (fun b hb e => e)
          have hget : S i j = true → ∃ fb, FA = some ⟨fb, 0, none⟩ ∧ cntTo (fun y => S i y) j < L ∧ wr.cell? ⟨fb, cntTo (fun y => S i y) j, none⟩ = some (.int .i64 (j : Int)) := fun h => by
            have h1 := cntTo_get (p := fun y : Nat => S i y) h hjlt
            have h2 := cntTo_lt (p := fun y : Nat => S i y) h hjlt
            have h3 : ((List.range n).filter fun y : Nat => S i y).length = L := HL0.out
            rw [h3] at h2
            rcases own_cases hfrw with ⟨_, h0, _⟩ | ⟨g', cp, e, _, _, _, _, h5, _⟩
            · omega
            · simp only [Value.slice.injEq] at e
              exact ⟨g', e.1, h2, h5 _ _ (cellsN_get h1)⟩
          have hyes : S i j = true → cntTo (fun y => S i y) (j + 1) = cntTo (fun y => S i y) j + 1 := fun h => cntTo_yes (p := fun y : Nat => S i y) h
          have hnoS : S i j = false → cntTo (fun y => S i y) (j + 1) = cntTo (fun y => S i y) j := fun h => cntTo_no (p := fun y : Nat => S i y) h
          obtain ⟨q, hq⟩ : ∃ q, cntTo (fun y => S i y) j = q := ⟨_, rfl⟩
          obtain ⟨q', hq'⟩ : ∃ q', cntTo (fun y => S i y) (j + 1) = q' := ⟨_, rfl⟩
          obtain ⟨fb0, hfb0⟩ : ∃ f, firstB (fun i => (firsts kn n).idxOf (kn i)) i j = f := ⟨_, rfl⟩
          obtain ⟨fb1, hfb1⟩ : ∃ f, firstB (fun i => (firsts kn n).idxOf (kn i)) i (j + 1) = f := ⟨_, rfl⟩
          obtain ⟨ni, hni⟩ : ∃ m, (firsts kn n).idxOf (kn i) = m := ⟨_, rfl⟩
          obtain ⟨nj, hnj⟩ : ∃ m, (firsts kn n).idxOf (kn j) = m := ⟨_, rfl⟩
          obtain ⟨x, hx⟩ : ∃ b, C i j = b := ⟨_, rfl⟩
          obtain ⟨y, hy⟩ : ∃ b, C j i = b := ⟨_, rfl⟩
          rw [hfb0, hfb1] at fs
          simp only [hni, hnj] at fs
          rw [hq] at hget hyes hnoS hcs ⊢
          rw [hq'] at hyes hnoS
          rw [hfb0]
          rw [hni, hnj, hx, hy] at hnk
          rw [hni] at o1
          rw [hnj] at o2
          rw [hx] at rr e1
          rw [hy] at e2
          have hnn : ((ni : Int) == (nj : Int)) = (x && y) := by
            by_cases e : ni = nj
            · have := hnk.1 e
              rw [this.1, this.2, e]; simp
            · have e' : (ni : Int) ≠ nj := by omega
              rw [beq_eq_false_iff_ne.2 e']
              cases x <;> cases y <;> simp_all
          have hfs : fb1 = (fb0 && (decide (i ≤ j) || !(x && y))) := by
            rw [fs, ← hnn]
            congr 2
            by_cases e : ni = nj
            · subst e; simp
            · have e' : (ni : Int) ≠ nj := by omega
              rw [beq_eq_false_iff_ne.2 e', bne_iff_ne.2 e]; rfl
          have HQ := Lib.hid hq'
          have HFB1 := Lib.hid hfb1
          have HFS := Lib.hid hfs
          clear hfs hnk fs hq hq' hfb0 hfb1 hni hnj hx hy hT hfrw hRw
          go_upto_if 79 with (fail)
          go_cut [12, 17] (fun av kv wx => av = .int .i64 ((t0 + q' : Nat) : Int) ∧ kv = .int .i64 ((q' : Nat) : Int) ∧ wx = wr)
          case first =>
            cases hs : S i j with
            | false =>
              have hqq := hnoS hs
              rw [hs] at r1
              clear hget hyes hnoS hs
              go_wp2
              go_meet
              exact ⟨by rw [hqq], by rw [hqq], rfl⟩
            | true =>
              obtain ⟨fbk, rfl, hqL, hfc⟩ := hget hs
              have HQQ := Lib.hid (hyes hs)
              have hqL' : (q : Int) < L := by omega
              rw [hs] at r1
              clear hget hyes hnoS hs
              go_wp2
              go_meet
              exact ⟨by rw [HQQ.out]; go_num, by rw [HQQ.out]; go_num, rfl⟩
          case rest =>
            obtain ⟨rfl, rfl, rfl⟩ := hcut
            obtain ⟨w9, rfl⟩ : ∃ w9 : World, w9 = wc := ⟨_, rfl⟩
            clear hget hyes hnoS
            have hnn1 : x = true → ((ni : Int) == (nj : Int)) = y := fun h => by rw [hnn, h]; rfl
            have hnn0 : x = false → ((ni : Int) == (nj : Int)) = false := fun h => by rw [hnn, h]; rfl
            clear hnn
            go_upto_region 26 with (fail)
            go_cut [135] (fun bv wx => bv = .bool false ∧ Fr (fun _ => False) w9 wx)
            case first =>
              cases x with
              | false =>
                have hnn := hnn0 rfl
                clear hnn0 hnn1
                go_quiet (fail)
                go_wp2
                go_meet
                exact ⟨rfl, (Fr.refl _ _).drewN _⟩
              | true =>
                have hnn := hnn1 rfl
                clear hnn0 hnn1
                go_quiet (fail)
                go_wp2
                go_meet
                exact ⟨rfl, (Fr.refl _ _).drewN _⟩
            case rest =>
              obtain ⟨rfl, hFx⟩ := hcut
              clear hnn0 hnn1
              have f1 : wc.cell? ⟨cb, i, none⟩ = some (.slice (some ⟨crows i, 0, none⟩) n n) := (World.cell?_of_block (hFx.block _ (World.block_lt_of_cell? w9 _ c1) (fun e => e))).trans c1
              have f2 : wc.cell? ⟨cb, j, none⟩ = some (.slice (some ⟨crows j, 0, none⟩) n n) := (World.cell?_of_block (hFx.block _ (World.block_lt_of_cell? w9 _ c2) (fun e => e))).trans c2
              have f3 : wc.cell? ⟨crows i, j, none⟩ = some (.bool x) := (World.cell?_of_block (hFx.block _ (World.block_lt_of_cell? w9 _ e1) (fun e => e))).trans e1
              have f4 : wc.cell? ⟨crows j, i, none⟩ = some (.bool y) := (World.cell?_of_block (hFx.block _ (World.block_lt_of_cell? w9 _ e2) (fun e => e))).trans e2
              have hF9 := hF.trans hFx (fun _ _ e => e)
              have h4 : (fb0 = false) ∨ (fb0 = true ∧ (i : Int) ≤ j) ∨ (fb0 = true ∧ ¬ (i : Int) ≤ j ∧ x = false) ∨ (fb0 = true ∧ ¬ (i : Int) ≤ j ∧ x = true) := by
                cases fb0
                · exact .inl rfl
                · by_cases e : (i : Int) ≤ j
                  · exact .inr (.inl ⟨rfl, e⟩)
                  · cases x
                    · exact .inr (.inr (.inl ⟨rfl, e, rfl⟩))
                    · exact .inr (.inr (.inr ⟨rfl, e, rfl⟩))
              clear c1 c2 e1 e2 t1 r1 rr o1 o2 hF hFx
              rcases h4 with rfl | ⟨rfl, hij⟩ | ⟨rfl, hij, rfl⟩ | ⟨rfl, hij, rfl⟩
              all_goals
                go_wp2
                go_roundw
                case rel =>
                  refine ⟨j + 1, by omega, by go_num, by rw [HQ.out], by rw [HQ.out], ?_, hF9⟩
                  rw [HFB1.out, HFS.out]
                  first | done | rfl | (have hd : decide (i ≤ j) = true := decide_eq_true (by omega)
                                        rw [hd]; rfl) | (have hd : decide (i ≤ j) = false := decide_eq_false (by omega)
                                                         rw [hd]; simp)
                case measure => simp [intOf]; omega
        · have hjge : ¬ (j : Int) < n := by omega
          have hjn' : j = n := by omega
          have hkL : cntTo (fun y => S i y) j = L := by rw [hjn']; exact HL0.out
          obtain ⟨fb, hfb⟩ : ∃ f, firstB (fun i => (firsts kn n).idxOf (kn i)) i j = f := ⟨_, rfl⟩
          have hfirst : fb = true ↔ kn i ∉ firsts kn i := by rw [← hfb, hjn']; exact firstB_iff kn n i hlt
          rw [hkL, hfb]
          clear hkL hfb hjn' hF
          cases fb with
          | false =>
            have hin2 : kn i ∈ firsts kn i := Classical.byContradiction fun h => by have := hfirst.2 h; cases this
            have HN := Lib.hid (notfirst_num hin2)
            clear hfirst hin2
            go_wp2_with (first
              | (go_at_call 15; refine (ring_any g s n i c ms S _ hRw.G hlt hsn hsc).mono ?_; rintro e w7 ⟨R1, rfl, hR1, hb7⟩; have hR7 := hRw.fr (Fr.of_below hb7); clear hRw)
              | (go_at_call 16; refine (refring_any n i mb rows S _ hR7.M hlt (by omega)).mono ?_; rintro e w8 ⟨R2, rfl, hR2, hb8⟩; have hR8 := Lib.hid (hR7.fr (Fr.of_below hb8)); obtain rfl : R2 = R1 := Bool.eq_iff_iff.2 (hR2.trans hR1.symm); clear hR7 hR1 hR2))
            go_roundw
            case rel => exact ⟨i + 1, by omega, by go_num, by rw [HGT.out]; simp, by rw [HN.out, HF0.out], hR8⟩
            case measure => simp [intOf]; omega
          | true =>
            have hno2 := hfirst.1 rfl
            obtain ⟨hn1, hn2⟩ := first_num hlt hno2
            have HN := Lib.hid hn2
            have HN1 := Lib.hid hn1
            clear hfirst hno2 hn1 hn2
            go_wp2_with (first
              | (go_at_call 15; refine (ring_any g s n i c ms S _ hRw.G hlt hsn hsc).mono ?_; rintro e w7 ⟨R1, rfl, hR1, hb7⟩; have hR7 := hRw.fr (Fr.of_below hb7); clear hRw)
              | (go_at_call 16; refine (refring_any n i mb rows S _ hR7.M hlt (by omega)).mono ?_; rintro e w8 ⟨R2, rfl, hR2, hb8⟩; have hR8 := Lib.hid (hR7.fr (Fr.of_below hb8)); obtain rfl : R2 = R1 := Bool.eq_iff_iff.2 (hR2.trans hR1.symm); clear hR7 hR1 hR2; have o8 : w8.cell? ⟨ob, i, none⟩ = some (.int .i64 (f0 : Int)) := ((hR8.out.o.row hlt).trans (by simp only [natC]; rw [HN1.out, HF0.out]))))
            go_roundw
            case rel => exact ⟨i + 1, by omega, by go_num, by rw [HGT.out]; simp, by rw [HN.out, HF0.out]; go_num, hR8⟩
            case measure => simp [intOf]; omega
    · have hie : i = n := by omega
      have hge : ¬ (i : Int) < n := by omega
      have hnc : n * c ≤ 1000000 := by
        have h2 : n * c ≤ 13 * 80 := Nat.mul_le_mul hn (by have := HCL.out; omega)
        omega
      have hin1 : inRange (n : Int) n = false := inRange_big (Int.le_refl _)
      have hin2 : inRange (-1) n = false := inRange_neg (by omega)
      have HT : Hid (∀ ys : List (Arw n S), AllA n S ys → ys.length = tot n S i) := fun ys h => by rw [hie]; exact h.len
      have hfn : (firsts kn i).length = (firsts kn n).length := by rw [hie]
      rw [hfn]
      clear hie hfn
      go_wp2_with (first
        | (go_at_call 17; refine (count_arrows g s n c ms S _ hR.out.G hsn hnc).mono ?_; rintro e w5 ⟨ys, hall, rfl, hb5⟩; rw [HT.out ys hall]; have hR5 := hR.out.fr (Fr.of_below hb5); have hc5 := hR5.G.cell)
        | (go_at_call 13; refine (from_out g s n n _ hc5 hin1).mono ?_; rintro e w6 ⟨rfl, rfl⟩)
        | (go_at_call 14; refine (reach_out g s n (-1) _ hc5 hin2).mono ?_; rintro e w6 ⟨rfl, rfl⟩)
        | (go_at_call 15; refine (ring_out g s n n _ hc5 hin1).mono ?_; rintro e w6 ⟨rfl, rfl⟩))
      go_ret
      exact ⟨rfl, hR5.bel⟩
end Go.Proofs.Yteaemnkllpfbgaa
