/- The iterator over a graph's arrows, for a body that makes maps. -/
import Derived.Test.YteaemnkllpfbgaaA5
namespace Go.Proofs.Yteaemnkllpfbgaa
open Go.RowKit Go.Shelf Go.Maps
set_option linter.unusedSimpArgs false
set_option linter.unusedVariables false

theorem ranges_ki {H : Type} {R : Value → Option (DataW H × List MemPlace)} {n₀ B : Nat} {w w' : World} {b r n cnt : Nat} {D : DataW H} {left : Lit → Bool} (h : w.ranges Try.prog 3 R b r n D left cnt) (hk : KpI n₀ B w w') (hb : b < n₀) (hr : B ≤ r) : w'.ranges Try.prog 3 R b r n D left cnt := by
  obtain ⟨es, clock, since, seen, c0, h1, F, hs, hD, h2, rest⟩ := h
  exact ⟨es, clock, since, seen, c0, (hk.bel.block b hb).trans h1, F, hs, hD, hk.iter r _ hr h2 rfl, rest⟩
theorem iter_at {H : Type} {R : Value → Option (DataW H × List MemPlace)} {w : World} {b r n cnt : Nat} {D : DataW H} {left : Lit → Bool} (h : w.ranges Try.prog 3 R b r n D left cnt) : ∃ o : Obj, w.heap[r]? = some o ∧ isIter o = true := by
  obtain ⟨es, clock, since, seen, c0, h1, F, hs, hD, h2, rest⟩ := h
  exact ⟨_, h2, rfl⟩

set_option maxRecDepth 100000 in
set_option maxHeartbeats 4000000 in
theorem all1_it (F : Fence) (k : Nat) (h39 : F.fn 39) (hro : F.round = none) (hk1 : 1 ≤ k) (l Bn n₀ B g s n c : Nat) (ms : Nat → Option Nat) (S : Nat → Int → Bool) (J : List (Arw n S) → World → Prop)
    (hY : ∀ pre x W, J pre W → pre.length < n * c → YieldAt F (k - 1) Try.prog l (Arw.enc x) W fun e W' =>
      e = .returned (.bool true) ∧ J (pre ++ [x]) W' ∧ KpI n₀ B W W')
    (W : World) (hJ : AbidesIt W.heap.size J) (hBn : W.cell? ⟨Bn, 0, none⟩ = some (.pointer (some ⟨g, 0, none⟩))) (hG : IsG W g s n ms c S) (hgB : g < n₀) (hfB : ∀ b, foot s n ms b → b < n₀) (hn₀ : n₀ ≤ W.heap.size) (hB : B ≤ W.heap.size) (hn : Small n) (h0 : J [] W) :
    CallsIn F k Try.prog 39 #[.func (.yield l) #[] #[], .pointer (some ⟨Bn, 0, none⟩)] W fun e W' => (∃ v, e = .returned v) ∧
      ∃ ys, AllA n S ys ∧ J ys W' := by
  have hcell := hG.cell
  have HFB := Lib.hid hfB
  have HY := Lib.hid hY
  have HJ := Lib.hid hJ
  clear hfB hY hJ
  refine callsIn_of_wp Try.func39 rfl h39 ?_ hro
  simp only [Try.ntmps39, List.size_toArray, List.length_cons, List.length_nil, Nat.reduceAdd, Nat.reduceSub, Array.replicate_succ, Array.replicate_zero, List.push_toArray, List.append_toArray, List.nil_append, List.cons_append]
  gi_wp2
  gi_loopw [13] (fun iv wr => ∃ i : Nat, i ≤ n ∧ iv = .int .i64 ((i : Nat) : Int) ∧ ∃ pre : List (Arw n S), Hid (Came2 n S pre i (fun y => S i y)) ∧ Hid (pre.length ≤ i * c) ∧ J pre wr ∧ Hid (IsG wr g s n ms c S) ∧ W.heap.size ≤ wr.heap.size) (fun iv _ => n - (intOf iv).toNat)
  case atStart => exact ⟨0, Nat.zero_le _, rfl, [], Came2.start, by simp [Hid], h0, hG, Nat.le_refl _⟩
  case round =>
    obtain ⟨i, hin, rfl, pre, hC, hlen, hJp, hGr, hsz⟩ := hrel
    have hib : (i : Int) < 9223372036854775807 := by have := hn.out; omega
    by_cases hlt : i < n
    · have hlt' : (i : Int) < n := by omega
      have sc1 : wr.cell? ⟨s, i, none⟩ = some (.map (ms i)) := hGr.out.sb.row hlt
      cases hm : ms i with
      | none =>
        rw [hm] at sc1
        have hno := hGr.out.none_ i hlt hm
        have hrg := run_range_nilMap (P := Try.prog) wr 67 3 4 Try.underlying67
        have hnx : ∀ ty, (Instr.next (.pointer (some ⟨wr.heap.size, 0, none⟩)) false ty).run Try.prog (wr.alloc (.mapIter none 0 #[] 0)) = _ := fun ty => run_next_nilMap wr ty 0 0 #[]
        have hJ2 : J pre (wr.alloc (.mapIter none 0 #[] 0)) := HJ.out pre wr _ none hJp (World.grownBy_alloc wr _ none) (fun r e => by cases e)
        have hC2 := Lib.hid (hC.out.next (fun y _ hs => by rw [hno] at hs; cases hs))
        have hG2 : Hid (IsG (wr.alloc (.mapIter none 0 #[] 0)) g s n ms c S) := hGr.out.fr ((Fr.refl (fun _ => False) wr).alloc _) (fun e => e) (fun b e => e.elim)
        have hl2 : Hid (pre.length ≤ (i + 1) * c) := by have h1 := hlen.out; exact (by rw [Nat.add_mul, Nat.one_mul]; omega : pre.length ≤ (i + 1) * c)
        clear hno hm
        gi_wp2
        refine wpIn_loop_rounds 1 ?_
        rw [roundsIn_succ]
        gi_wp2
        go_roundw
        case rel => exact ⟨i + 1, by omega, by go_num, pre, hC2, hl2, hJ2, hG2, by simp; omega⟩
        case measure => simp [intOf]; omega
      | some r =>
        rw [hm] at sc1
        obtain ⟨D, hown, hD⟩ := hGr.out.some_ i hlt r hm
        have hrlt : Hid (r < n₀) := HFB.out r (.inr ⟨i, hlt, hm⟩)
        have hsize := Lib.hid hown.size_le
        have hHD := Lib.hid hD
        clear hD hm
        obtain ⟨wo, rfl⟩ : ∃ wo : World, wo = wr := ⟨_, rfl⟩
        gi_wp2_with (first
          | (gi_at_range; refine wpListIn_range_own _ rfl _ 67 rfl 3 4 keyed3 Try.underlying67 _ r c _ rfl hown ?_; intro w0 hrg0 hg0 hs0)
          | gi_in)
        go_frame
        gi_loopw [5] (fun _ wr2 => ∃ (left : Lit → Bool) (cnt : Nat) (pre2 : List (Arw n S)), wr2.ranges Try.prog 3 (plainElem (H := Unit) Try.prog 4) r wo.heap.size c D left cnt ∧ Hid (Came2 n S pre2 i (fun y => left (.int .i64 (y : Int)))) ∧ Hid (pre2.length + cnt ≤ (i + 1) * c) ∧ J pre2 wr2 ∧ Hid (IsG wr2 g s n ms c S) ∧ wo.heap.size ≤ wr2.heap.size)
          (fun _ wr2 => wr2.rangeLeft r wo.heap.size)
        case atStart =>
          refine ⟨_, _, pre, hrg0, ?_, ?_, HJ.out pre _ _ none hJp hg0 (fun r e => by cases e), ?_, by omega⟩
          · have e : (fun y : Nat => Maps.has D (.int .i64 (y : Int))) = fun y : Nat => S i (y : Int) := funext fun y => hHD.out y
            rw [e]; exact hC.out
          · have h1 := hlen.out
            have h2 := hsize.out
            exact (by rw [Nat.add_mul, Nat.one_mul]; omega : pre.length + Maps.size D ≤ (i + 1) * c)
          · exact hGr.out.fr (Fr.of_grown hg0) (by simp) (fun b e => by simp at e)
        case round =>
          clear hC hlen hJp hGr hrg0 hg0 hs0 hown sc1
          obtain ⟨left, cnt, pre2, hrg, hC, hlen, hJp, hGr, hsz2⟩ := hrel
          gi_wp2_with (first
            | (gi_at_next; refine next_keysIn hrg _ rfl rfl rfl ?_ ?_)
            | gi_in)
          · intro hc0 hl0
            have hC2 := Lib.hid (hC.out.next (fun y _ _ => hl0 _))
            have hl2 : Hid (pre2.length ≤ (i + 1) * c) := by have h1 := hlen.out; exact (by omega : pre2.length ≤ (i + 1) * c)
            clear hl0 hc0
            gi_wp2
            go_roundw
            case rel => exact ⟨i + 1, by omega, by go_num, pre2, hC2, hl2, hJp, hGr, by omega⟩
            case measure => simp [intOf]; omega
          · intro x v w2 cnt2 hcm hlx hh hrg2 hlt2 hg2 hen
            have hhas : S i x = true := by rw [← hHD.out]; exact hh
            obtain ⟨h0x, hxn⟩ := hGr.out.range i x hlt hhas
            obtain ⟨z, rfl⟩ : ∃ z : Nat, x = (z : Int) := ⟨x.toNat, by omega⟩
            have hzn : z < n := by omega
            have hJ2 : J pre2 w2 := HJ.out pre2 wr w2 (some wo.heap.size) hJp hg2 (fun r e => by cases e; exact ⟨hsz, iter_at hrg⟩)
            have hbnd : pre2.length < n * c := by
              have h1 := hlen.out
              have h2 : (i + 1) * c ≤ n * c := Nat.mul_le_mul_right c hlt
              omega
            have hlen2 : Hid ((pre2 ++ [(⟨(i, z), hlt, hzn, hhas⟩ : Arw n S)]).length + cnt2 ≤ (i + 1) * c) := by
              have h1 := hlen.out
              exact (by rw [List.length_append, List.length_singleton]; omega : (pre2 ++ [(⟨(i, z), hlt, hzn, hhas⟩ : Arw n S)]).length + cnt2 ≤ (i + 1) * c)
            have hC3 : Hid (Came2 n S (pre2 ++ [(⟨(i, z), hlt, hzn, hhas⟩ : Arw n S)]) i (fun y => (left (.int .i64 (y : Int)) && !(Lit.int .i64 (y : Int)).sameKey (.int .i64 (z : Int))))) := hC.out.step hlt hzn hhas hlx (fun y => by
              by_cases e : y = z
              · subst e
                have : (Lit.int .i64 (y : Int)).sameKey (.int .i64 (y : Int)) = true := WideAt.sameKey_self (show WideAt.IsKeyLit (.int .i64 (y : Int)) from trivial)
                rw [this]; simp
              · have : (Lit.int .i64 (y : Int)).sameKey (.int .i64 (z : Int)) = false := Maps.sameKey_ne (by simp; omega)
                rw [this]; simp [e])
            have hb2 : Below n₀ wr w2 := (Fr.of_grown hg2).below n₀ (fun i e => by simp at e; omega) (by omega)
            have hG2 : Hid (IsG w2 g s n ms c S) := hGr.out.below hb2 hgB HFB.out
            have hsz3 : wr.heap.size ≤ w2.heap.size := hg2.size
            obtain ⟨fn, tmps, assign, body, hy, hR⟩ := HY.out pre2 ⟨(i, z), hlt, hzn, hhas⟩ w2 hJ2 hbnd
            dsimp only [Arw.enc] at hy
            clear hlx hh h0x hxn hcm hC hlen hGr hJp hJ2 hbnd
            gi_wp2
            refine hR.mono ?_
            rintro e W3 ⟨rfl, hJ3, hk3⟩
            · have hrg3 := ranges_ki hrg2 hk3 hrlt.out (Nat.le_trans hB hsz)
              have hG3 : Hid (IsG W3 g s n ms c S) := hG2.out.below hk3.bel hgB HFB.out
              have hsz4 := hk3.bel.size
              gi_wp2
              go_roundw
              case rel => exact ⟨_, cnt2, _, hrg3, hC3, hlen2, hJ3, hG3, by omega⟩
              case measure => rw [hrg3.left_eq, hrg.left_eq]; exact hlt2
    · have hge : ¬ (i : Int) < n := by omega
      gi_wp2
      go_end0
      exact ⟨⟨_, rfl⟩, pre, hC.out.all (by omega), hJp⟩

theorem all_it (k : Nat) (hk1 : 1 ≤ k) (Bn n₀ g s n c : Nat) (ms : Nat → Option Nat) (S : Nat → Int → Bool) (w : World) (hBn : Bn < w.heap.size)
    (hc : w.cell? ⟨Bn, 0, none⟩ = some (.pointer (some ⟨g, 0, none⟩))) (hG : IsG w g s n ms c S) (hgB : g < n₀) (hfB : ∀ b, foot s n ms b → b < n₀) (hn₀ : n₀ ≤ w.heap.size) (hn : Small n) :
    StopsIt Fence.wide k Try.prog 39 #[.pointer (some ⟨Bn, 0, none⟩)] (Arw.enc (n := n) (S := S)) n₀ (AllA n S) (n * c) w := fun l J W hW hJ hY h0 =>
  all1_it Fence.wide k trivial rfl hk1 l Bn n₀ w.heap.size g s n c ms S J hY W hJ ((hW.cell (p := ⟨Bn, 0, none⟩) hBn).trans hc) (hG.below hW (by omega) (fun b hb => by have := hfB b hb; omega)) hgB hfB (Nat.le_trans hn₀ hW.size) hW.size hn h0
end Go.Proofs.Yteaemnkllpfbgaa
