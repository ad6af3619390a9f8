/- slices.Repeat of one number. -/
import Derived.Test.YteaemnkllpfbgaaG0
import Derived.Test.YteaemnkllpfbgaaSh
import Derived.Laws.CopyOwn
import Derived.Lib.Hide
namespace Go.Proofs.Yteaemnkllpfbgaa
open Go.RowKit
open Cal (upd upd_same upd_ne)
set_option linter.unusedSimpArgs false
set_option linter.unusedVariables false

theorem info3' : (Try.prog.info? 3).map (fun i => (i.zero, i.size, i.bytes)) = some (some (.int .i64 0), 1, 8) := by kernel_rfl
theorem size3 : (Try.prog.info? 3).map (·.size) = some 1 := by kernel_rfl

theorem mul_one_any (cnt : Nat) (w : World) (hc : Small cnt) :
    Calls Try.prog 33 #[.int .u64 1, .int .u64 cnt] w fun e w' => e = .returned (.tuple #[.int .u64 0, .int .u64 cnt]) ∧ w = w' := by
  have := hc.out
  have h1 : 1 * cnt / 18446744073709551616 = 0 := by omega
  have h2 : 1 * cnt % 18446744073709551616 = cnt := by omega
  refine (Try.bits_Mul 1 cnt (by omega) (by omega) w).mono ?_
  rintro e w' ⟨rfl, rfl⟩
  rw [h1, h2]
  exact ⟨rfl, rfl⟩

/-- The row while it is filled. -/
def part (x : Int) (cnt m : Nat) : List Value := List.replicate m (.int .i64 x) ++ List.replicate (cnt - m) (.int .i64 0)

theorem part_length (x : Int) {cnt m : Nat} (h : m ≤ cnt) : (part x cnt m).length = cnt := by simp [part]; omega
theorem part_splice (x : Int) {cnt m k : Nat} (h : m + k ≤ cnt) : splice (part x cnt m) m (List.replicate k (.int .i64 x)) = part x cnt (m + k) := by
  unfold splice part
  have e1 : (List.replicate m (Value.int .i64 x) ++ List.replicate (cnt - m) (Value.int .i64 0)).take m = List.replicate m (.int .i64 x) := by
    rw [List.take_append_of_le_length (by simp)]; simp
  have e2 : (List.replicate m (Value.int .i64 x) ++ List.replicate (cnt - m) (Value.int .i64 0)).drop (m + (List.replicate k (Value.int .i64 x)).length) = List.replicate (cnt - (m + k)) (.int .i64 0) := by
    rw [List.length_replicate, List.drop_append]; simp; omega
  rw [e1, e2, ← List.append_assoc, List.replicate_append_replicate]
theorem part_cell (x : Int) {cnt m j : Nat} (h : j < m) : (part x cnt m)[j]? = some (.int .i64 x) := by
  simp [part, List.getElem?_append, h]
theorem part_zero (x : Int) (cnt : Nat) : (madeCells #[.int .i64 0] cnt) = (part x cnt 0).toArray := by
  rw [madeCells_row]
  simp only [part, rowA, List.replicate_zero, List.nil_append, Nat.sub_zero]
  rw [List.map_const', List.length_range]
theorem part_full (x : Int) (cnt : Nat) : (part x cnt cnt).toArray = rowA cnt (fun _ => .int .i64 x) := by
  simp only [part, rowA, Nat.sub_self, List.replicate_zero, List.append_nil]
  rw [List.map_const', List.length_range]

theorem copy_step (W : World) (g cnt m k : Nat) (x : Int) (a : Addr) (sLen sCap dLen dCap : Nat) (hg : Blk W g (part x cnt m).toArray 3) (hk : k = Nat.min sLen dLen) (hmk : m + k ≤ cnt)
    (hsrc : ∀ j, j < k → W.cell? (a.add j) = some (.int .i64 x)) :
    ∃ W1, (Builtin.copy_ #[30, 30] 3 #[.slice (some ⟨g, m, none⟩) dLen dCap, .slice (some a) sLen sCap]).run Try.prog W = .ok (.int .i64 k) W1 ∧ Blk W1 g (part x cnt (m + k)).toArray 3 ∧ Below g W W1 := by
  have hl : (part x cnt m).length = cnt := part_length x (by omega)
  have hrun := run_copy_row (P := Try.prog) W 30 30 3 3 g m dLen dCap a sLen sCap (part x cnt m).toArray 3 (List.replicate k (.int .i64 x)) Try.underlying30 size3 hg (by simpa using hk)
    (fun j v hv => by
      have hj : j < k := by simpa using (List.getElem?_eq_some_iff.1 hv).1
      have : v = .int .i64 x := by have h2 := List.mem_of_getElem? hv; simpa using (List.mem_replicate.1 h2).2
      rw [this]; exact hsrc j hj) (by simp [hl]; omega) (fun v hv => by rw [(List.mem_replicate.1 hv).2]; rfl)
  rw [List.length_replicate] at hrun
  refine ⟨_, hrun, ?_, below_setRow (Below.refl g W) (Nat.le_refl g) _⟩
  have h2 := setRow_heap W g _ ((part x cnt m).toArray.toList.take m ++ List.replicate k (Value.int .i64 x) ++ (part x cnt m).toArray.toList.drop (m + k)).toArray _ _ hg.eq
  have h3 := part_splice x hmk
  unfold splice at h3
  rw [List.length_replicate] at h3
  have h4 : ((part x cnt m).toArray.toList.take m ++ List.replicate k (Value.int .i64 x) ++ (part x cnt m).toArray.toList.drop (m + k)).toArray = (part x cnt (m + k)).toArray := by
    rw [← h3, List.append_assoc]
  rw [h4] at h2 ⊢
  exact h2

set_option maxRecDepth 100000 in
theorem repeat_zero (xb cap : Nat) (w : World) :
    Calls Try.prog 24 #[.slice (some ⟨xb, 0, none⟩) 1 cap, .int .i64 0] w fun e w' => ∃ b, e = .returned (.slice (some ⟨b, 0, none⟩) 0 0) ∧
      Blk w' b #[] 3 ∧ w.heap.size ≤ b ∧ Below w.heap.size w w' := by
  have hcp := fun W (d a : Option Addr) c => run_copy_none (P := Try.prog) W 30 30 3 3 d a 0 0 1 c Try.underlying30 size3 rfl
  have hmk : ∀ W : World, (Instr.makeSlice 30 (.int .i64 0) (.int .i64 0)).run Try.prog W = .ok (.slice (some ⟨W.heap.size, 0, none⟩) 0 0) (W.alloc (.cells #[] 3)) := by
    intro W
    have := run_make_row' 30 3 (.int .i64 0) 8 Try.underlying30 info3' rfl .i64 .i64 0 (by omega) (by omega) W
    have e : madeCells #[Value.int .i64 0] 0 = #[] := by simp [madeCells]
    rw [e] at this
    exact this
  go_enter Try.func24, Try.ntmps24
  go_wp2_with (first
    | (go_at_call 33; refine (mul_one_any 0 _ (Nat.zero_le _)).mono ?_; rintro e w' ⟨rfl, rfl⟩))
  refine wp_loop_rounds 1 ?_
  rw [rounds_succ]
  go_wp2
  go_ret
  exact ⟨_, rfl, Blk.new w #[] 3, Nat.le_refl _, (Below.refl _ w).alloc (Nat.le_refl _) _⟩

set_option maxRecDepth 100000 in
theorem repeat_any (xb cap cnt : Nat) (x : Int) (w : World) (hx : w.cell? ⟨xb, 0, none⟩ = some (.int .i64 x)) (hc : Small cnt) (h0 : 0 < cnt) :
    Calls Try.prog 24 #[.slice (some ⟨xb, 0, none⟩) 1 cap, .int .i64 cnt] w fun e w' => ∃ b, e = .returned (.slice (some ⟨b, 0, none⟩) cnt cnt) ∧
      Blk w' b (rowA cnt fun _ => .int .i64 x) 3 ∧ w.heap.size ≤ b ∧ Below w.heap.size w w' := by
  have hmk : ∀ W : World, (Instr.makeSlice 30 (.int .i64 (cnt : Int)) (.int .i64 (cnt : Int))).run Try.prog W = .ok (.slice (some ⟨W.heap.size, 0, none⟩) cnt cnt) (W.alloc (.cells (part x cnt 0).toArray 3)) := by
    intro W
    rw [← part_zero]
    exact run_make_row' 30 3 (.int .i64 0) 8 Try.underlying30 info3' rfl .i64 .i64 cnt (by have := hc.out; omega) (by have := hc.out; omega) W
  have hw : IntKind.u64.wrap (cnt : Int) = cnt := by
    have := hc.out
    simp only [IntKind.wrap, IntKind.bits, IntKind.signed]; simp; omega
  have hcm : ¬ (9223372036854775807 : Int) < cnt := by have := hc.out; omega
  have hnew := Blk.new w (part x cnt 0).toArray 3
  have hB0 : Below w.heap.size w (w.alloc (.cells (part x cnt 0).toArray 3)) := (Below.refl _ w).alloc (Nat.le_refl _) _
  obtain ⟨W1, hcp, hg1, hb1⟩ := copy_step _ w.heap.size cnt 0 1 x ⟨xb, 0, none⟩ 1 cap cnt cnt hnew (by show 1 = min 1 cnt; omega) (by omega) (fun j hj => by
    obtain rfl : j = 0 := by omega
    exact cellA hx _)
  have hbW : Below w.heap.size w W1 := hB0.trans hb1
  have HG : Hid (Blk W1 w.heap.size (part x cnt (0 + 1)).toArray 3) := hg1
  clear hg1 hnew
  go_enter Try.func24, Try.ntmps24
  go_wp2_with (first
    | (go_at_call 33; refine (mul_one_any cnt _ hc).mono ?_; rintro e w' ⟨rfl, rfl⟩))
  go_loopw [8] (fun v wr => ∃ m : Nat, v = .int .i64 m ∧ 0 < m ∧ m ≤ cnt ∧ Hid (Blk wr w.heap.size (part x cnt m).toArray 3) ∧ Below w.heap.size w wr) (fun v _ => cnt - (intOf v).toNat)
  case atStart => exact ⟨1, rfl, by omega, by omega, HG, hbW⟩
  case round =>
    obtain ⟨m, rfl, hm0, hm1, HB, hbr⟩ := hrel
    have hmw := hc.out
    by_cases hlt : m < cnt
    · obtain ⟨W2, hcp2, hg2, hb2⟩ := copy_step wr.drew w.heap.size cnt m (min m (cnt - m)) x ⟨w.heap.size, 0, none⟩ m cnt (cnt - m) (cnt - m) HB.out rfl (by omega) (fun j hj => by
        have := (show Blk wr w.heap.size (part x cnt m).toArray 3 from HB.out).cell j
        rw [show (⟨w.heap.size, 0, none⟩ : Addr).add j = ⟨w.heap.size, j, none⟩ by unfold Addr.add; split <;> simp_all]
        exact this.trans (by simpa using part_cell x (by omega)))
      have HG2 : Hid (Blk W2 w.heap.size (part x cnt (m + min m (cnt - m))).toArray 3) := hg2
      have hbW2 : Below w.heap.size w W2 := (hbr.drew).trans hb2
      clear hg2 hb2 hmw
      have hlt' : (m : Int) < cnt := by omega
      have hle' : (m : Int) ≤ cnt := by omega
      have hms : Hid (m ≤ 1000000000000) := by have := hc.out; exact (by omega : m ≤ 1000000000000)
      go_wp2
      go_region
      go_wp2
      go_roundw
      case rel => exact ⟨m + min m (cnt - m), by go_num, by omega, by omega, HG2, hbW2⟩
      case measure => simp [intOf]; omega
    · obtain rfl : m = cnt := by omega
      go_wp2
      go_ret
      exact ⟨_, rfl, by rw [← part_full]; exact HB.out, Nat.le_refl _, hbr⟩
end Go.Proofs.Yteaemnkllpfbgaa
