/- The law GraphReaches walked, at no thing. -/
import Derived.Test.YteaemnkllpfbgaaLr
namespace Go.Proofs.Yteaemnkllpfbgaa
open Go.RowKit Go.Maps
set_option linter.unusedSimpArgs false
set_option linter.unusedVariables false

set_option maxRecDepth 100000 in
set_option maxHeartbeats 4000000 in
theorem law_reaches_zero (z : Nat) (hz : z ≤ 255) (v : Value) (l : List (Int × Int)) (w : World) (hp : Pairs w v l) (hl : l.length ≤ 80) (hzn : (z : Int) % 14 = 0) :
    Calls Try.prog 3 #[.int .u8 z, v] w (LawP w) := by
  obtain ⟨A, cap, rfl, _⟩ := hp.len
  have HP := Lib.hid hp
  clear hp
  have hl' : (80 < (l.length : Int)) = False := by simp; omega
  have hsn : Small 0 := by unfold Small; omega
  have hin1 : inRange 0 0 = false := by decide
  have hin2 : inRange (-1) 0 = false := by decide
  go_enter Try.func3, Try.ntmps3
  go_wp2_with (first
    | (go_at_call 8; refine (awake_any _).mono ?_; rintro e w1 ⟨rfl, hb1⟩)
    | (go_at_call 9; refine (build_any 0 _ l _ (HP.out.below hb1) (by omega) (by omega)).mono ?_; rintro e w2 ⟨g, s, mb, rows, rfl, hB⟩; obtain ⟨c, ms, hcl, hG⟩ := hB.G; have hcell2 := hG.G.cell)
    | (go_at_call 10; refine (len_any g s 0 _ hcell2).mono ?_; rintro e w' ⟨rfl, rfl⟩)
    | (go_at_call 11; refine (closure_any 0 mb rows _ _ hB.M (by omega)).mono ?_; rintro e w3 ⟨cb, crows, C, rfl, hT, hC⟩; have hG3 := hG.G.fr (Fr.of_below hT.bel) (fun e => e) (fun b e => e.elim))
    | (go_at_call 12; refine (knots_empty g s c ms _ _ hG3).mono ?_; rintro e w4 ⟨rfl, rfl⟩))
  refine wp_loop_rounds 1 ?_
  rw [rounds_succ]
  go_wp2_with (first
    | (go_at_call 17; refine (count_arrows g s 0 c ms _ _ hG3 hsn (by simp)).mono ?_; rintro e w5 ⟨ys, hall, rfl, hb5⟩; have hys : ys.length = 0 := hall.len; rw [hys]; have hG5 := hG3.fr (Fr.of_below hb5) (fun e => e) (fun b e => e.elim); have hc5 := hG5.cell)
    | (go_at_call 13; refine (from_out g s 0 0 _ hc5 hin1).mono ?_; rintro e w6 ⟨rfl, rfl⟩)
    | (go_at_call 14; refine (reach_out g s 0 (-1) _ hc5 hin2).mono ?_; rintro e w6 ⟨rfl, rfl⟩)
    | (go_at_call 15; refine (ring_out g s 0 0 _ hc5 hin1).mono ?_; rintro e w6 ⟨rfl, rfl⟩))
  go_ret
  exact ⟨rfl, hb1.trans ((hG.bel.trans ((hT.bel.trans (hb5.mono hT.bel.size)).mono hG.bel.size)).mono hb1.size)⟩
end Go.Proofs.Yteaemnkllpfbgaa
