/- The law GraphPaths walked, where there is a way. -/
import Derived.Test.YteaemnkllpfbgaaLp
namespace Go.Proofs.Yteaemnkllpfbgaa
open Go.RowKit Go.Maps
open Cal (upd upd_same upd_ne FJ Dist)
set_option linter.unusedSimpArgs false
set_option linter.unusedVariables false

set_option maxRecDepth 100000 in
set_option maxHeartbeats 8000000 in
theorem law_paths_yes (z n x y d M : Nat) (hz : z ≤ 255) (v : Value) (l : List (Int × Int)) (w : World) (hp : Pairs w v l) (hl : l.length ≤ 80) (hzn : (z : Int) % 14 = n) (hn : n ≤ 13) (hx : x < n) (hy : y < n)
    (hd : Dist (sc n (arrows n l)) x y d) (hM : (d : Int) + 1 = M) (hM2 : M ≤ 13) :
    Calls Try.prog 4 #[.int .u8 z, v, .int .i64 x, .int .i64 y] w (LawP w) := by
  obtain ⟨A, cap, rfl, _⟩ := hp.len
  have HP := Lib.hid hp
  have HD := Lib.hid hd
  have HMd : Hid (d + 1 = M) := by have : d + 1 = M := by omega
                                   exact this
  clear hp hd
  have hl' : (80 < (l.length : Int)) = False := by simp; omega
  have hsn : Small n := Nat.le_trans hn (by decide)
  have hx' : (x : Int) < n := by omega
  have hy' : (y : Int) < n := by omega
  have hdM : (d : Int) < M := by omega
  have hM1 : (0 : Int) < M := by omega
  go_enter Try.func4, Try.ntmps4
  go_wp2_with (first
    | (go_at_call 8; refine (awake_any _).mono ?_; rintro e w1 ⟨rfl, hb1⟩)
    | (go_at_call 9; refine (build_any n _ l _ (HP.out.below hb1) (by omega) (by omega)).mono ?_; rintro e w2 ⟨g, s, mb, rows, rfl, hB⟩; obtain ⟨c, ms, hcl, hG⟩ := hB.G)
    | (go_at_call 18; refine (path_yes g s n x y c ms _ _ hG.G hx hy hsn (Nat.le_trans hcl (Nat.le_trans hl (by decide))) d HD.out).mono ?_; rintro e w3 ⟨pb, cp, p, rfl, hb3, hpc, hp0, hpd, hch, hpn⟩; have HPC := Lib.hid hpc; have HP0 := Lib.hid hp0; have HPD := Lib.hid hpd; have HCH := Lib.hid hch; have HPN := Lib.hid hpn; clear hpc hp0 hpd hch hpn; rw [HMd.out])
    | (go_at_call 19; refine (far_any n x mb rows _ _ (hB.M.next hb3) hx (by omega)).mono ?_; rintro e w4 ⟨ob, out, rfl, hR, hfar⟩; have o1 : w4.cell? ⟨ob, y, none⟩ = some (.int .i64 (d : Int)) := (hR.o.row hy).trans (by rcases hfar y hy with ⟨h, _⟩ | ⟨d', h, h2⟩; (exact absurd HD.out.1.reach h); (simp only [intC, h]; rw [h2.unique HD.out])); have hpc4 : ∀ i, i < d + 1 → w4.cell? ⟨pb, i, none⟩ = some (.int .i64 (p i : Int)) := (fun i hi => (World.cell?_of_block (hR.bel.block pb (World.block_lt_of_cell? w3 _ (HPC.out i hi)))).trans (HPC.out i hi)); have c0 : w4.cell? ⟨pb, 0, none⟩ = some (.int .i64 (x : Int)) := (by rw [hpc4 0 (by omega), HP0.out]); have c1 : w4.cell? ⟨pb, d, none⟩ = some (.int .i64 (y : Int)) := (by rw [hpc4 d (by omega), HPD.out]); have HPC4 := Lib.hid hpc4; clear hpc4))
  have HM4 := Lib.hid ((hB.M.next hb3).next hR.bel)
  have hbw := hb1.trans ((hG.bel.trans ((hb3.trans (hR.bel.mono hb3.size)).mono hG.bel.size)).mono hb1.size)
  clear hB hG hR hfar o1 c0 c1 hb1 hb3 hzn hM
  go_loopw [16] (fun iv wr => ∃ i : Nat, i < M ∧ iv = .int .i64 ((i : Nat) : Int) ∧ Fr (fun _ => False) w4 wr) (fun iv _ => M - (intOf iv).toNat)
  case atStart => exact ⟨0, by omega, rfl, Fr.refl _ w4⟩
  case round =>
    obtain ⟨i, hiM, rfl, hF⟩ := hrel
    obtain ⟨J, hJ⟩ : ∃ J : Nat, (i : Int) + 1 = (J : Int) := ⟨i + 1, by omega⟩
    by_cases hlt : J < M
    · have hJ' : J = i + 1 := by omega
      have hJM : (J : Int) < M := by omega
      have hiM' : (i : Int) < M := by omega
      have hpi := HPN.out i (by have := HMd.out; omega)
      have hpj := HPN.out J (by have := HMd.out; omega)
      have harr : arrows n l (p i) (p J) = true := by rw [hJ']; exact (mem_sc.1 (HCH.out i (by have := HMd.out; omega))).2
      have k1 : wr.cell? ⟨pb, i, none⟩ = some (.int .i64 (p i : Int)) := by
        have h1 := HPC4.out i (by have := HMd.out; omega)
        exact (World.cell?_of_block (hF.block pb (World.block_lt_of_cell? w4 _ h1) (fun e => e))).trans h1
      have k2 : wr.cell? ⟨pb, J, none⟩ = some (.int .i64 (p J : Int)) := by
        have h1 := HPC4.out J (by have := HMd.out; omega)
        exact (World.cell?_of_block (hF.block pb (World.block_lt_of_cell? w4 _ h1) (fun e => e))).trans h1
      have hMr := HM4.out.fr hF (fun e => e) (fun _ _ e => e)
      have t1 : wr.cell? ⟨mb, p i, none⟩ = some (.slice (some ⟨rows (p i), 0, none⟩) n n) := hMr.top.row hpi
      have r1 : wr.cell? ⟨rows (p i), p J, none⟩ = some (.bool true) := by rw [(hMr.row (p i) hpi).row hpj]; simp only [boolC, harr]
      clear hMr harr
      obtain ⟨a, ha⟩ : ∃ a, p i = a := ⟨_, rfl⟩
      obtain ⟨b, hb⟩ : ∃ b, p J = b := ⟨_, rfl⟩
      rw [ha] at hpi k1 t1 r1
      rw [hb] at hpj k2 r1
      have hpi' : (a : Int) < n := by omega
      have hpj' : (b : Int) < n := by omega
      have hpi0 : (0 : Int) ≤ a := by omega
      have hpj0 : (0 : Int) ≤ b := by omega
      have hJw : IntKind.i64.wrap (J : Int) = (J : Int) := by
        simp only [IntKind.wrap, IntKind.bits, IntKind.signed]
        have h13 : (J : Int) < 13 := by omega
        have h00 : (0 : Int) ≤ J := by omega
        have : (J : Int) % 18446744073709551616 = J := by omega
        simp [this]; omega
      clear ha hb hJ'
      go_wp2
      go_quiet (fail)
      go_wp2
      go_roundw
      case rel => exact ⟨J, by omega, by go_num, hF.drewN _⟩
      case measure => simp [intOf]; omega
    · have hge : ¬ (J : Int) < M := by omega
      go_wp2
      go_ret
      exact ⟨rfl, hbw.trans (hF.below _ (fun i e => e.elim) hbw.size)⟩
end Go.Proofs.Yteaemnkllpfbgaa
