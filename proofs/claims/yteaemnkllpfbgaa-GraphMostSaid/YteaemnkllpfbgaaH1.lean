/- Ring. -/
import Derived.Test.YteaemnkllpfbgaaK1
import Derived.Maps.RangeWalk
namespace Go.Proofs.Yteaemnkllpfbgaa
open Go.RowKit Go.Maps
open Cal (upd upd_same upd_ne St Inv upd_self)
set_option linter.unusedSimpArgs false
set_option linter.unusedVariables false

/-- v is the element at key x of what reads as D. -/
def Came {H : Type} (R : Value → Option (DataW H × List MemPlace)) (D : DataW H) (x : Int) (v : Value) : Prop := ∃ y, R v = some y ∧ ∀ zd, D.atKey (.int .i64 x) zd = y.1

section
variable {H : Type} {ops : Array Oper} {rest : List Oper} {o : Oper} {a : Act} {Q : Exit → Act → World → Prop}
/-- The step of a loop over a map keyed by ints, whatever its elements: the keys. -/
theorem next_keys {W : World} {R : Value → Option (DataW H × List MemPlace)} {b r n cnt : Nat} {D : DataW H} {left : Lit → Bool} (h : W.ranges Try.prog 3 R b r n D left cnt) (it : Operand) (hg : o.guard = none) (hop : o.op = Op.next it false)
    (hit : a.eval it = .pointer (some ⟨r, 0, none⟩))
    (hDone : cnt = 0 → (∀ kl, left kl = false) → wpList Try.prog ops Q rest (a.put o.dst (.tuple #[.bool false])) W)
    (hMore : ∀ (x : Int) (v : Value) (w' : World) (cnt' : Nat), Came R D x v → left (.int .i64 x) = true → Maps.has D (.int .i64 x) = true → w'.ranges Try.prog 3 R b r n D (fun z => left z && !z.sameKey (.int .i64 x)) cnt' → cnt' < cnt →
      Fr (fun i => i = r) W w' → (Instr.entry (.pointer (some ⟨r, 0, none⟩))).run Try.prog w' = .ok (.tuple #[.int .i64 x, v]) w' → wpList Try.prog ops Q rest (a.put o.dst (.tuple #[.bool true, .int .i64 x, v])) w') :
    wpList Try.prog ops Q (o :: rest) a W :=
  wpList_next_ranges W hg it hop 3 keyed3 R (Value.int .i64) (fun v : Value => v) (fun key kl hkey => by obtain ⟨x, rfl, _⟩ := Maps.keyOf_int_inv Try.underlying3 hkey; exact ⟨x, rfl⟩) (fun v y hv => ⟨v, rfl⟩)
    b r n D left cnt hit h hDone (fun x v kl y w' cnt' hkey hlk hv hat hrg hlt hgr hsz hen => by
      obtain ⟨x', ex, rfl, hwx⟩ := Maps.keyOf_int_inv Try.underlying3 hkey
      cases ex
      exact hMore x v w' cnt' ⟨y, hv, hat⟩ hlk (Maps.has_true_of_atKey hat) hrg hlt ((Fr.of_grown hgr).mono fun i _ e => by simpa using e) hen)
end

theorem ring_out (g s n : Nat) (k : Int) (w : World) (hg : w.cell? ⟨g, 0, none⟩ = some (.slice (some ⟨s, 0, none⟩) n n)) (h1 : inRange k n = false) :
    Calls Try.prog 15 #[.pointer (some ⟨g, 0, none⟩), .int .i64 k] w fun e w' => e = .returned (.bool false) ∧ w = w' := by
  go_enter Try.func15, Try.ntmps15
  go_wp2_with (go_at_call 26; refine (has_any _ _ _ _ _ hg).mono ?_; rintro e w' ⟨rfl, rfl⟩; simp only [h1])
  go_ret
  exact ⟨rfl, rfl⟩
theorem ring_nil (k : Int) (w : World) :
    Calls Try.prog 15 #[.pointer none, .int .i64 k] w fun e w' => e = .returned (.bool false) ∧ w = w' := by
  go_enter Try.func15, Try.ntmps15
  go_wp2_with (go_at_call 26; refine (has_nil _ _).mono ?_; rintro e w' ⟨rfl, rfl⟩)
  go_ret
  exact ⟨rfl, rfl⟩

/-- What Ring answers. -/
def RingP (w : World) (n k : Nat) (S : Nat → Int → Bool) (e : Ending) (w' : World) : Prop :=
  ∃ R, e = .returned (.bool R) ∧ (R = true ↔ ∃ y, y ∈ sc n S k ∧ Cal.Reach (sc n S) y k) ∧ Below w.heap.size w w'

set_option maxRecDepth 100000 in
set_option maxHeartbeats 1000000 in
theorem ring_none (g s n k c : Nat) (ms : Nat → Option Nat) (S : Nat → Int → Bool) (w : World) (h : IsG w g s n ms c S) (hk : k < n) (hn : Small n) (hc : Small c) (hm : ms k = none) :
    Calls Try.prog 15 #[.pointer (some ⟨g, 0, none⟩), .int .i64 k] w (RingP w n k S) := by
  have hcell := h.cell
  have hk' : (k : Int) < n := by omega
  have h1 : inRange k n = true := inRange_true (by omega) (by omega)
  have hs : w.cell? ⟨s, k, none⟩ = some (.map none) := by rw [h.sb.row hk, hm]
  have hno : ∀ y, y ∉ sc n S k := fun y hy => by
    have := (mem_sc.1 hy).2
    rw [h.none_ k hk hm] at this
    cases this
  have hrg := run_range_nilMap (P := Try.prog) w 67 3 4 Try.underlying67
  have hnx : ∀ ty, (Instr.next (.pointer (some ⟨w.heap.size, 0, none⟩)) false ty).run Try.prog (w.alloc (.mapIter none 0 #[] 0)) = _ := fun ty => run_next_nilMap w ty 0 0 #[]
  go_enter Try.func15, Try.ntmps15
  go_wp2_with (go_at_call 26; refine (has_any _ _ _ _ _ hcell).mono ?_; rintro e w' ⟨rfl, rfl⟩; simp only [h1])
  refine wp_loop_rounds 1 ?_
  rw [rounds_succ]
  go_wp2
  go_ret
  exact ⟨false, rfl, by simp [hno], (Below.refl _ w).alloc (Nat.le_refl _) _⟩

set_option maxRecDepth 100000 in
set_option maxHeartbeats 1000000 in
theorem ring_some (g s n k c r : Nat) (ms : Nat → Option Nat) (S : Nat → Int → Bool) (w : World) (h : IsG w g s n ms c S) (hk : k < n) (hn : Small n) (hc : Small c) (hm : ms k = some r) :
    Calls Try.prog 15 #[.pointer (some ⟨g, 0, none⟩), .int .i64 k] w (RingP w n k S) := by
  have hcell := h.cell
  have hk' : (k : Int) < n := by omega
  have h1 : inRange k n = true := inRange_true (by omega) (by omega)
  have hs : w.cell? ⟨s, k, none⟩ = some (.map (some r)) := by rw [h.sb.row hk, hm]
  obtain ⟨D, hown, hD⟩ := h.some_ k hk r hm
  have hgB : g < w.heap.size := World.block_lt_of_cell? w _ hcell
  have hfB := Lib.hid h.footlt
  have hrB : r < w.heap.size := hown.lt
  go_enter Try.func15, Try.ntmps15
  go_wp2_with (first
    | (go_at_call 26; refine (has_any _ _ _ _ _ hcell).mono ?_; rintro e w' ⟨rfl, rfl⟩; simp only [h1])
    | (at_range; refine wpList_range_own _ rfl _ 67 rfl 3 4 keyed3 Try.underlying67 _ r c _ rfl hown ?_; intro w0 hrg0 hg0 hs0)
    | go_in)
  go_frame
  go_loopw [5] (fun _ wr => ∃ (left : Lit → Bool) (cnt : Nat), wr.ranges Try.prog 3 (plainElem (H := Unit) Try.prog 4) r w.heap.size c D left cnt ∧ Below w.heap.size w wr ∧ Hid (∀ y, y ∈ sc n S k → left (.int .i64 (y : Int)) = false → ¬ Cal.Reach (sc n S) y k))
    (fun _ wr => wr.rangeLeft r w.heap.size)
  case atStart =>
    refine ⟨_, _, hrg0, (Fr.of_grown hg0).below _ (by simp) (Nat.le_refl _), fun y hy hl => ?_⟩
    rw [hD, (mem_sc.1 hy).2] at hl
    cases hl
  case round =>
    obtain ⟨left, cnt, hrg, hb, hno⟩ := hrel
    go_wp2_with (first
      | (at_next; refine next_keys hrg _ rfl rfl rfl ?_ ?_)
      | go_in)
    · intro _ hl0
      go_wp2
      go_ret
      exact ⟨false, rfl, by simp; exact fun y hy => hno.out y hy (hl0 _), hb⟩
    · intro x v w1 cnt1 hcm hlx hh hrg1 hlt hF1 hen
      have hhas : S k x = true := hh
      obtain ⟨h0x, hxn⟩ := h.range k x hk hhas
      obtain ⟨z, rfl⟩ : ∃ z : Nat, x = (z : Int) := ⟨x.toNat, by omega⟩
      have hzn : z < n := by omega
      have hzs : z ∈ sc n S k := mem_sc.2 ⟨hzn, hhas⟩
      have hb1 : Below w.heap.size w w1 := hb.trans (hF1.below _ (fun i e => by omega) hb.size)
      have hG1 := h.below hb1 hgB hfB.out
      go_wp2_with (first
        | (go_at_call 14; refine (reach_any g s n z c ms S _ hG1 hzn hn hc).mono ?_; rintro e w2 ⟨rb, R, rfl, hrb, hRR, hrge, hb2⟩; have hrk : w2.cell? ⟨rb, k, none⟩ = some (.bool (R k)) := hrb.row hk)
        | go_in)
      · go_ret
        rename_i hRk
        exact ⟨true, rfl, by simp; exact ⟨z, hzs, (hRR k hk).1 hRk⟩, hb1.trans (hb2.mono hb1.size)⟩
      · rename_i hRk
        go_roundw
        case rel =>
          have hF2 : Fr (fun _ => False) w1 w2 := Fr.of_below hb2
          refine ⟨_, cnt1, hrg1.kept (row := none) ⟨hF2.os, hF2.tape, hF2.output, hF2.size, fun i hi _ => hF2.block i hi (fun e => e)⟩ (by simp) (by simp), hb1.trans (hb2.mono hb1.size), fun y hy hl => ?_⟩
          by_cases e : y = z
          · subst e
            intro hr
            rw [(hRR k hk).2 hr] at hRk
            cases hRk
          · refine hno.out y hy ?_
            have e' : (Lit.int .i64 (y : Int)).sameKey (.int .i64 (z : Int)) = false := Maps.sameKey_ne (by simp; omega)
            simpa [e'] using hl
        case measure =>
          have hF2 : Fr (fun _ => False) w1 w2 := Fr.of_below hb2
          rw [(hrg1.kept (row := none) ⟨hF2.os, hF2.tape, hF2.output, hF2.size, fun i hi _ => hF2.block i hi (fun e => e)⟩ (by simp) (by simp)).left_eq, hrg.left_eq]; exact hlt

theorem ring_any (g s n k c : Nat) (ms : Nat → Option Nat) (S : Nat → Int → Bool) (w : World) (h : IsG w g s n ms c S) (hk : k < n) (hn : Small n) (hc : Small c) :
    Calls Try.prog 15 #[.pointer (some ⟨g, 0, none⟩), .int .i64 k] w (RingP w n k S) := by
  cases hm : ms k with
  | none => exact ring_none g s n k c ms S w h hk hn hc hm
  | some r => exact ring_some g s n k c r ms S w h hk hn hc hm
end Go.Proofs.Yteaemnkllpfbgaa
