/- Arrows, at no graph. -/
import Derived.RangeFuncNested
import Derived.RangeFuncBound
import Derived.RangeFuncCalls
import Derived.RangeFuncLeaves
import Derived.Shelf.Abstract
import Derived.WalkKit
import Derived.OwnWalkIn
import Derived.TacticsInMore
import Derived.LoopNIn
import Derived.LoopIn
import Derived.Test.YteaemnkllpfbgaaH1
namespace Go.Proofs.Yteaemnkllpfbgaa
open Go.RowKit Go.Shelf
set_option linter.unusedSimpArgs false
set_option linter.unusedVariables false

/-- g.all(): the receiver is boxed; the function value captures the box. -/
theorem all_in (F : Fence) (n : Nat) (h5 : F.fn 30) (hro : F.round = none) (p0 : Option Addr) (w : World) :
    CallsIn F n Try.prog 30 #[.pointer p0] w fun e w' => e = .returned (.func (.func 39) #[] #[.pointer (some ⟨w.heap.size, 0, none⟩)]) ∧ w' = w.alloc (.cells #[.pointer p0] 24) := by
  refine callsIn_of_wp Try.func30 rfl h5 ?_ hro
  simp only [Try.ntmps30, List.size_toArray, List.length_cons, List.length_nil, Nat.reduceAdd, Nat.reduceSub, Array.replicate_succ, Array.replicate_zero, List.push_toArray, List.append_toArray, List.nil_append, List.cons_append]
  gi_wp2
  go_ret
  exact ⟨rfl, rfl⟩

/-- Of no graph no arrow comes. -/
theorem all_nil_stops (F : Fence) (n : Nat) (h6 : F.fn 39) (hro : F.round = none) (Bn n₀ : Nat) (w : World) (hBn : Bn < w.heap.size)
    (hc : w.cell? ⟨Bn, 0, none⟩ = some (.pointer none)) :
    SeqStopsK F n Try.prog 39 #[.pointer (some ⟨Bn, 0, none⟩)] (fun x : Nat × Nat => #[Value.int .i64 x.1, .int .i64 x.2]) (Below n₀) (fun ys => ys = []) (fun pre => False) 0 w := fun l J Jx W hW _ _ hY h0 => by
  have hc' := (hW.cell (p := ⟨Bn, 0, none⟩) hBn).trans hc
  refine callsIn_of_wp Try.func39 rfl h6 ?_ hro
  simp only [Try.ntmps39, List.size_toArray, List.length_cons, List.length_nil, Nat.reduceAdd, Nat.reduceSub, Array.replicate_succ, Array.replicate_zero, List.push_toArray, List.append_toArray, List.nil_append, List.cons_append]
  gi_wp2
  refine bodyPost_ret (results_none rfl _ _ _) rfl ?_
  exact ⟨⟨_, rfl⟩, h0⟩

theorem arrows_nil_in (F : Fence) (n : Nat) (h3 : F.fn 17) (h5 : F.fn 30) (h6 : F.fn 39) (hro : F.round = none) (hn : 3 ≤ n) (w : World) :
    CallsIn F n Try.prog 17 #[.pointer none] w fun e W => e = .returned (.int .i64 0) ∧ Below w.heap.size w W := by
  have h1 : 1 ≤ n := by omega
  refine callsIn_of_wp_marks Try.func17 rfl h3 ?_ hro
  simp only [Try.ntmps17, List.size_toArray, List.length_cons, List.length_nil, Nat.reduceAdd, Nat.reduceSub, Array.replicate_succ, Array.replicate_zero, List.push_toArray, List.append_toArray, List.nil_append, List.cons_append]
  gi_wp2_with (gi_at_call 30; refine (all_in F (n - 1) h5 hro _ _).mono ?_; rintro e w' ⟨rfl, rfl⟩)
  have hs : ((w.alloc (.cells #[.int .i64 0] 3)).alloc (.cells #[.pointer none] 24)).cell? ⟨w.heap.size, 0, none⟩ = some (.int .i64 0) := ((Blk.new w #[.int .i64 0] 3).alloc _).cell 0
  have hb : ((w.alloc (.cells #[.int .i64 0] 3)).alloc (.cells #[.pointer none] 24)).cell? ⟨w.heap.size + 1, 0, none⟩ = some (.pointer none) := by
    have := (Blk.new (w.alloc (.cells #[.int .i64 0] 3)) #[.pointer none] 24).cell 0
    rwa [World.size_alloc] at this
  have hf : ((w.alloc (.cells #[.int .i64 0] 3)).alloc (.cells #[.pointer none] 24)).frozen? ⟨w.heap.size, 0, none⟩ = false := ((Blk.new w #[.int .i64 0] 3).alloc _).free 0
  refine wpIn_rangeFunc_ownF hro h1 (gf := 39) (lb := #[.pointer (some ⟨w.heap.size + 1, 0, none⟩)]) rfl h6 (enters_of Try.func39 (by kernel_rfl) rfl)
    (all_nil_stops F (n - 1) h6 hro (w.heap.size + 1) w.heap.size _ (by simp) hb) belowK_t (belowK_b (by simp; omega)) (Below.refl _ _) (fun _ => rfl)
    (fun pre W => (W.cell? ⟨w.heap.size, 0, none⟩ = some (.int .i64 (pre.length : Int)) ∧ W.frozen? ⟨w.heap.size, 0, none⟩ = false) ∧ Below w.heap.size w W)
    (fun _ _ _ => False)
    (OwnFrom.and (Own.from (fun s A B row hs hg hr => ⟨cell_kept hs.1 hg hr, (frozen_kept hs.1 hg hr).trans hs.2⟩) _) (ownFrom_below (Nat.le_refl _) (by simp; omega)))
    (fun _ _ _ _ _ hs _ _ => hs)
    ⟨⟨hs, hf⟩, ((Below.refl _ w).alloc (Nat.le_refl _) _).alloc (by simp) _⟩
    (fun x => { tmps := #[.pointer none, undef, .int .i64 0, .pointer (some ⟨w.heap.size, 0, none⟩), .pointer none, .func (.func 39) #[] #[.pointer (some ⟨w.heap.size + 1, 0, none⟩)], .int .i64 x.1, .int .i64 x.2, undef, undef, undef], defers := [] }) ?assign ?body ?done ?stop
  case assign =>
    intro l x W K hK
    gi_wp2
    simpa using hK
  case body =>
    rintro l pre x W _ hlt
    exact absurd hlt (Nat.not_lt_zero _)
  case done =>
    rintro D ys W hD rfl ⟨⟨hc, _⟩, hB⟩ hK
    gi_wp2
    refine ⟨by simp, .inl ⟨_, _, rfl, run_takeDeferred hK, ?_⟩⟩
    exact ⟨_, results_tmp rfl _ _ _, rfl, hB.trans (belowK_b (w := w) (Nat.le_refl _) W D _ _ (by simp at hD; omega) hK rfl rfl)⟩
  case stop =>
    rintro D c pre W _ _ h _
    exact h.elim

theorem countN_nil (w : World) : Calls Try.prog 17 #[.pointer none] w fun e W => e = .returned (.int .i64 0) ∧ Below w.heap.size w W :=
  (callsIn_wide (n := 3)).1 (arrows_nil_in Fence.wide 3 trivial trivial trivial rfl (by omega) w)
end Go.Proofs.Yteaemnkllpfbgaa
