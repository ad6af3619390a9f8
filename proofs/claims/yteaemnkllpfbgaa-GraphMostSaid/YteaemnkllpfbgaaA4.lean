/- Arrows: how many arrows there are. -/
import Derived.Test.YteaemnkllpfbgaaA3
namespace Go.Proofs.Yteaemnkllpfbgaa
open Go.RowKit Go.Shelf Go.Maps
attribute [local go_sem] Oper.semAt_some
set_option linter.unusedSimpArgs false
set_option linter.unusedVariables false

theorem all_stops (F : Fence) (k : Nat) (h39 : F.fn 39) (hro : F.round = none) (hk1 : 1 ≤ k) (Bn n₀ B g s n c : Nat) (ms : Nat → Option Nat) (S : Nat → Int → Bool) (w : World) (hBn : Bn < w.heap.size)
    (hc : w.cell? ⟨Bn, 0, none⟩ = some (.pointer (some ⟨g, 0, none⟩))) (hG : IsG w g s n ms c S) (hgB : g < n₀) (hfB : ∀ b, foot s n ms b → b < n₀) (hn₀ : n₀ ≤ w.heap.size) (hB : B ≤ w.heap.size) (hn : Small n) :
    SeqStopsK F k Try.prog 39 #[.pointer (some ⟨Bn, 0, none⟩)] (Arw.enc (n := n) (S := S)) (KpG n₀ B) (AllA n S) (fun _ => True) (n * c) w := fun l J Jx W hW hJ _ hY h0 =>
  all1_in F k h39 hro hk1 l Bn n₀ B g s n c ms S J Jx hY W hJ ((hW.cell (p := ⟨Bn, 0, none⟩) hBn).trans hc) (hG.below hW (by omega) (fun b hb => by have := hfB b hb; omega)) hgB hfB (Nat.le_trans hn₀ hW.size) (Nat.le_trans hB hW.size) hn h0

theorem KpG.of_others {n₀ B : Nat} {W W' : World} (h : KeepsOthers W W') (hb : Below n₀ W W') : KpG n₀ B W W' :=
  ⟨hb, fun b o _ ho hw => h.same b o ho (by cases o <;> simp_all [Obj.isWalk, Obj.isCells])⟩

theorem arrows_in (F : Fence) (k : Nat) (h3 : F.fn 17) (h5 : F.fn 30) (h6 : F.fn 39) (hro : F.round = none) (hk : 3 ≤ k) (g s n c : Nat) (ms : Nat → Option Nat) (S : Nat → Int → Bool) (w : World) (hG : IsG w g s n ms c S) (hn : Small n) (hnc : n * c ≤ 1000000) :
    CallsIn F k Try.prog 17 #[.pointer (some ⟨g, 0, none⟩)] w fun e W => ∃ ys, AllA n S ys ∧ e = .returned (.int .i64 (ys.length : Int)) ∧ Below w.heap.size w W := by
  have h1 : 1 ≤ k := by omega
  have hgB := hG.gb.lt
  have HNC := Lib.hid hnc
  clear hnc
  refine callsIn_of_wp_marks Try.func17 rfl h3 ?_ hro
  simp only [Try.ntmps17, List.size_toArray, List.length_cons, List.length_nil, Nat.reduceAdd, Nat.reduceSub, Array.replicate_succ, Array.replicate_zero, List.push_toArray, List.append_toArray, List.nil_append, List.cons_append]
  gi_wp2_with (gi_at_call 30; refine (all_in F (k - 1) h5 hro _ _).mono ?_; rintro e w' ⟨rfl, rfl⟩)
  have hs : ((w.alloc (.cells #[.int .i64 0] 3)).alloc (.cells #[.pointer (some ⟨g, 0, none⟩)] 24)).cell? ⟨w.heap.size, 0, none⟩ = some (.int .i64 0) := ((Blk.new w #[.int .i64 0] 3).alloc _).cell 0
  have hb : ((w.alloc (.cells #[.int .i64 0] 3)).alloc (.cells #[.pointer (some ⟨g, 0, none⟩)] 24)).cell? ⟨w.heap.size + 1, 0, none⟩ = some (.pointer (some ⟨g, 0, none⟩)) := by
    have := (Blk.new (w.alloc (.cells #[.int .i64 0] 3)) #[.pointer (some ⟨g, 0, none⟩)] 24).cell 0
    rwa [World.size_alloc] at this
  have hf : ((w.alloc (.cells #[.int .i64 0] 3)).alloc (.cells #[.pointer (some ⟨g, 0, none⟩)] 24)).frozen? ⟨w.heap.size, 0, none⟩ = false := ((Blk.new w #[.int .i64 0] 3).alloc _).free 0
  have hG2 : IsG ((w.alloc (.cells #[.int .i64 0] 3)).alloc (.cells #[.pointer (some ⟨g, 0, none⟩)] 24)) g s n ms c S := hG.fr (((Fr.refl (fun _ => False) w).alloc _).alloc _) (fun e => e) (fun b e => e.elim)
  refine wpIn_rangeFunc_ownF hro h1 (gf := 39) (lb := #[.pointer (some ⟨w.heap.size + 1, 0, none⟩)]) rfl h6 (enters_of Try.func39 (by kernel_rfl) rfl)
    (all_stops F (k - 1) h6 hro (by omega) (w.heap.size + 1) w.heap.size w.heap.size g s n c ms S _ (by simp) hb hG2 hgB hG.footlt (by simp; omega) (by simp; omega) hn) KpG.trans (KpG.put (by simp; omega)) (Below.refl _ _) (fun _ => rfl)
    (fun pre W => (W.cell? ⟨w.heap.size, 0, none⟩ = some (.int .i64 (pre.length : Int)) ∧ W.frozen? ⟨w.heap.size, 0, none⟩ = false) ∧ Below w.heap.size w W)
    (fun _ _ _ => False)
    (OwnFrom.and (Own.from (fun s A B row hs hg hr => ⟨cell_kept hs.1 hg hr, (frozen_kept hs.1 hg hr).trans hs.2⟩) _) (ownFrom_below (Nat.le_refl _) (by simp; omega)))
    (fun _ _ _ _ _ hs _ _ => hs)
    ⟨⟨hs, hf⟩, ((Below.refl _ w).alloc (Nat.le_refl _) _).alloc (by simp) _⟩
    (fun x => { tmps := #[.pointer (some ⟨g, 0, none⟩), undef, .int .i64 0, .pointer (some ⟨w.heap.size, 0, none⟩), .pointer (some ⟨g, 0, none⟩), .func (.func 39) #[] #[.pointer (some ⟨w.heap.size + 1, 0, none⟩)], .int .i64 x.1.1, .int .i64 x.1.2, undef, undef, undef], defers := [] }) ?assign ?body ?done ?stop
  case assign =>
    intro l x W K hK
    gi_wp2
    simpa [Arw.enc] using hK
  case body =>
    rintro l pre x W ⟨⟨hc, hf⟩, hB⟩ hlt
    have hb2 : (pre.length : Int) < 1000000 := by have := HNC.out; omega
    have hcs : (W.setCell ⟨w.heap.size, 0, none⟩ (.int .i64 ((pre.length : Int) + 1))).cell? ⟨w.heap.size, 0, none⟩ = some (.int .i64 ((pre ++ [x]).length : Int)) := by
      rw [World.cell?_setCell_same' _ _ _ (by rw [hc]; rfl)]
      simp
    have hfs : (W.setCell ⟨w.heap.size, 0, none⟩ (.int .i64 ((pre.length : Int) + 1))).frozen? ⟨w.heap.size, 0, none⟩ = false := by rw [World.frozen?_setCell]; exact hf
    have HR := Lib.hid (And.intro hcs hfs)
    clear hcs hfs hlt
    gi_wp2
    exact ⟨KeepsOthers.setCell _ _ _, KpG.of_others (KeepsOthers.setCell _ _ _) ((Below.refl w.heap.size W).setCell (p := ⟨w.heap.size, 0, none⟩) (Nat.le_refl _) _), HR.out, hB.setCell (p := ⟨w.heap.size, 0, none⟩) (Nat.le_refl _) _⟩
  case done =>
    rintro D ys W hD hall ⟨⟨hc, _⟩, hB⟩ hK
    gi_wp2
    refine ⟨by simp, .inl ⟨_, _, rfl, run_takeDeferred hK, ?_⟩⟩
    exact ⟨_, results_tmp rfl _ _ _, ys, hall, rfl, hB.trans (belowK_b (w := w) (Nat.le_refl _) W D _ _ (by simp at hD; omega) hK rfl rfl)⟩
  case stop =>
    rintro D c pre W _ _ h _
    exact h.elim

theorem count_arrows (g s n c : Nat) (ms : Nat → Option Nat) (S : Nat → Int → Bool) (w : World) (hG : IsG w g s n ms c S) (hn : Small n) (hnc : n * c ≤ 1000000) :
    Calls Try.prog 17 #[.pointer (some ⟨g, 0, none⟩)] w fun e W => ∃ ys, AllA n S ys ∧ e = .returned (.int .i64 (ys.length : Int)) ∧ Below w.heap.size w W :=
  (callsIn_wide (n := 3)).1 (arrows_in Fence.wide 3 trivial trivial trivial rfl (by omega) g s n c ms S w hG hn hnc)
end Go.Proofs.Yteaemnkllpfbgaa
