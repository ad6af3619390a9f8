/- The document's Ring. -/
import Derived.Test.YteaemnkllpfbgaaC1
namespace Go.Proofs.Yteaemnkllpfbgaa
open Go.RowKit Go.Maps
open Cal (upd upd_same upd_ne upd2 WI)
set_option linter.unusedSimpArgs false
set_option linter.unusedVariables false

set_option maxRecDepth 100000 in
set_option maxHeartbeats 4000000 in
theorem refring_any (n k mb : Nat) (rw0 : Nat → Nat) (S : Nat → Int → Bool) (w : World) (hM : IsM w mb n rw0 S) (hk : k < n) (hn : n ≤ 100) :
    Calls Try.prog 16 #[.slice (some ⟨mb, 0, none⟩) n n, .int .i64 k] w (RingP w n k S) := by
  have hk' : (k : Int) < n := by omega
  have HM := Lib.hid hM
  clear hM
  go_enter Try.func16, Try.ntmps16
  go_wp2_with (go_at_call 11; refine (closure_any n mb rw0 S _ HM.out hn).mono ?_; rintro e w1 ⟨cb, rows, C, rfl, hT, hC⟩)
  have hT := Lib.hid hT
  have hC := Lib.hid hC
  go_loopw [6] (fun yv wr => ∃ y : Nat, y ≤ n ∧ yv = .int .i64 ((y : Nat) : Int) ∧ Hid (wr = w1) ∧ Hid (∀ x, x < y → x ∈ sc n S k → ¬ Cal.Reach (sc n S) x k)) (fun yv _ => n - (intOf yv).toNat)
  case atStart => exact ⟨0, Nat.zero_le _, rfl, rfl, fun x h => by omega⟩
  case round =>
    obtain ⟨y, hyn, rfl, hw, hno⟩ := hrel
    obtain rfl := hw.out
    by_cases hlt : y < n
    · have hlt' : (y : Int) < n := by omega
      have hMr := HM.out.next hT.out.bel
      have t1 : wr.cell? ⟨mb, k, none⟩ = some (.slice (some ⟨rw0 k, 0, none⟩) n n) := hMr.top.row hk
      have r1 : wr.cell? ⟨rw0 k, y, none⟩ = some (.bool (S k y)) := (hMr.row k hk).row hlt
      have t2 := hT.out.at hlt hlt
      have e2 := hT.out.el hlt hk
      have hCC := hC.out y k hlt hk
      have hnx : (y ∈ sc n S k → ¬ Cal.Reach (sc n S) y k) → Hid (∀ x, x < y + 1 → x ∈ sc n S k → ¬ Cal.Reach (sc n S) x k) := fun h x hx hm => by
        by_cases e : x = y
        · subst e; exact h hm
        · exact hno.out x (by omega) hm
      clear hMr
      cases hs : S k y with
      | false =>
        rw [hs] at r1
        have HX := hnx (fun hm => by have := (mem_sc.1 hm).2; rw [hs] at this; cases this)
        clear hs hnx hCC
        go_wp2
        go_roundw
        case rel => exact ⟨y + 1, by omega, by go_num, Lib.hid trivial, HX⟩
        case measure => simp [intOf]; omega
      | true =>
        rw [hs] at r1
        cases hc : C y k with
        | false =>
          rw [hc] at e2
          have HX := hnx (fun _ hr => by rw [hCC.2 hr] at hc; cases hc)
          clear hs hnx hCC hc
          go_wp2
          go_roundw
          case rel => exact ⟨y + 1, by omega, by go_num, Lib.hid trivial, HX⟩
          case measure => simp [intOf]; omega
        | true =>
          rw [hc] at e2
          have HR := Lib.hid (hCC.1 hc)
          have HS := Lib.hid hs
          clear hs hnx hCC hc
          go_wp2
          go_ret
          exact ⟨true, rfl, by simp; exact ⟨y, mem_sc.2 ⟨hlt, HS.out⟩, HR.out⟩, hT.out.bel⟩
    · have hge : ¬ (y : Int) < n := by omega
      go_wp2
      go_ret
      exact ⟨false, rfl, by simp; exact fun x hx => hno.out x (by have := (mem_sc.1 hx).1; omega) hx, hT.out.bel⟩
end Go.Proofs.Yteaemnkllpfbgaa
