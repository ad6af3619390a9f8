/- The graph in memory; an arrow is added. -/
import Derived.Test.YteaemnkllpfbgaaG1
namespace Go.Proofs.Yteaemnkllpfbgaa
open Go.RowKit
open Cal (upd upd_same upd_ne)
set_option linter.unusedSimpArgs false
set_option linter.unusedVariables false

theorem keyed3 : Maps.Keyed Try.prog 3 := Maps.int_keyed Try.underlying3

theorem inRange_true {k : Int} {n : Nat} (h0 : 0 ≤ k) (h1 : k < n) : inRange k n = true := by simp [inRange, h0, h1]
theorem inRange_neg {k : Int} {n : Nat} (h0 : k < 0) : inRange k n = false := by simp [inRange]; omega
theorem inRange_big {k : Int} {n : Nat} (h0 : (n : Int) ≤ k) : inRange k n = false := by simp [inRange]; omega

set_option maxRecDepth 100000 in
theorem arrow_old (g s n : Nat) (a b : Nat) (w : World) (hg : w.cell? ⟨g, 0, none⟩ = some (.slice (some ⟨s, 0, none⟩) n n)) (ha : a < n) (hb : b < n) (hn : Small n)
    (r nn : Nat) (D : DataW Unit) (hs : w.cell? ⟨s, a, none⟩ = some (.map (some r))) (hown : w.ownsMap Try.prog 3 (plainElem Try.prog 4) r nn D) (hnn : Small nn) :
    Calls Try.prog 23 #[.pointer (some ⟨g, 0, none⟩), .int .i64 a, .int .i64 b] w fun e w' => e = .returned (.int .i64 0) ∧
      w'.ownsMap Try.prog 3 (plainElem Try.prog 4) r (nn + 1) (D.put (.int .i64 b) (.lit (.bool true))) ∧ w.grownBy w' (some r) := by
  have h1 : inRange a n = true := inRange_true (by omega) (by omega)
  have h2 : inRange b n = true := inRange_true (by omega) (by omega)
  have ha' : (a : Int) < n := by omega
  have he1 := fun w r => run_eql_map_nil (P := Try.prog) w 67 3 4 r Try.underlying67
  go_enter Try.func23, Try.ntmps23
  go_wp2_with (first
    | (go_at_call 26; refine (has_any _ _ _ _ _ hg).mono ?_; rintro e w' ⟨rfl, rfl⟩; simp only [h1, h2])
    | (at_mapUpdate; refine wpList_mapUpdate_own _ rfl _ _ _ 67 rfl 3 4 keyed3 Try.underlying67 _ r nn _ rfl hown (by have := hnn.out; unfold maxLen; omega) _ _ _ rfl rfl (Maps.keyOf_int_mk Try.underlying3 (WalkArith.wf_i64 (by have := hn.out; omega))) _ [] (plainElem_bool Try.underlying4 true) ?_; intro w1 hown1 hgrow1))
  go_ret
  exact ⟨rfl, hown1, hgrow1⟩

set_option maxRecDepth 100000 in
theorem arrow_new (g s n : Nat) (a b : Nat) (w : World) (hg : w.cell? ⟨g, 0, none⟩ = some (.slice (some ⟨s, 0, none⟩) n n)) (ha : a < n) (hb : b < n) (hn : Small n) (hgs : g ≠ s)
    (hs : w.cell? ⟨s, a, none⟩ = some (.map none)) (hf : w.frozen? ⟨s, a, none⟩ = false) :
    Calls Try.prog 23 #[.pointer (some ⟨g, 0, none⟩), .int .i64 a, .int .i64 b] w fun e w' => e = .returned (.int .i64 0) ∧
      w'.ownsMap (H := Unit) Try.prog 3 (plainElem Try.prog 4) w.heap.size 1 ((DataW.map []).put (.int .i64 b) (.lit (.bool true))) ∧
      ((w.setCell ⟨s, a, none⟩ (.map (some w.heap.size))).alloc (.map #[] 0)).grownBy w' (some w.heap.size) := by
  have h1 : inRange a n = true := inRange_true (by omega) (by omega)
  have h2 : inRange b n = true := inRange_true (by omega) (by omega)
  have ha' : (a : Int) < n := by omega
  have he1 := fun w r => run_eql_map_nil (P := Try.prog) w 67 3 4 r Try.underlying67
  have hmm := @run_makeMap Try.prog
  have hsl := World.block_lt_of_cell? w _ hs
  have hsA : ∀ o, (w.alloc o).cell? ⟨s, a, none⟩ = some (.map none) := cellA hs
  have hfA : ∀ o, (w.alloc o).frozen? ⟨s, a, none⟩ = false := frozenA hs hf
  have hgA : ∀ o, (w.alloc o).cell? ⟨g, 0, none⟩ = some (.slice (some ⟨s, 0, none⟩) n n) := cellA hg
  have hgB : ∀ v o, ((w.setCell ⟨s, a, none⟩ v).alloc o).cell? ⟨g, 0, none⟩ = some (.slice (some ⟨s, 0, none⟩) n n) := fun v => cellA ((World.cell?_of_block (w := w) (Below.heap_setCell _ _ _ _ (by simpa using hgs))).trans hg)
  have hsB : ∀ v o, ((w.setCell ⟨s, a, none⟩ v).alloc o).cell? ⟨s, a, none⟩ = some v := fun v => cellA (World.cell?_setCell_same' _ _ _ (by rw [hs]; rfl))
  have hmade : ∀ v, ((w.setCell ⟨s, a, none⟩ v).alloc (.map #[] 0)).ownsMap (H := Unit) Try.prog 3 (plainElem Try.prog 4) w.heap.size 0 (.map []) := fun v => by
    have := World.ownsMap_made (H := Unit) (w.setCell ⟨s, a, none⟩ v) Try.prog 3 (plainElem Try.prog 4)
    rwa [World.size_setCell] at this
  go_enter Try.func23, Try.ntmps23
  go_wp2_with (first
    | (go_at_call 26; refine (has_any _ _ _ _ _ hg).mono ?_; rintro e w' ⟨rfl, rfl⟩; simp only [h1, h2])
    | (at_mapUpdate; refine wpList_mapUpdate_own _ rfl _ _ _ 67 rfl 3 4 keyed3 Try.underlying67 _ w.heap.size 0 _ rfl (hmade _) (by unfold maxLen; omega) _ _ _ rfl rfl (Maps.keyOf_int_mk Try.underlying3 (WalkArith.wf_i64 (by have := hn.out; omega))) _ [] (plainElem_bool Try.underlying4 true) ?_; intro w1 hown1 hgrow1))
  go_ret
  exact ⟨rfl, hown1, hgrow1⟩

theorem arrow_bad (g s n : Nat) (a b : Int) (w : World) (hg : w.cell? ⟨g, 0, none⟩ = some (.slice (some ⟨s, 0, none⟩) n n)) (h : (inRange a n && inRange b n) = false) :
    Calls Try.prog 23 #[.pointer (some ⟨g, 0, none⟩), .int .i64 a, .int .i64 b] w fun e w' => e = .returned (.int .i64 2) ∧ w = w' := by
  cases h1 : inRange a n
  · go_enter Try.func23, Try.ntmps23
    go_wp2_with (go_at_call 26; refine (has_any _ _ _ _ _ hg).mono ?_; rintro e w' ⟨rfl, rfl⟩; simp only [h1])
    go_ret
    exact ⟨rfl, rfl⟩
  · have h2 : inRange b n = false := by simpa [h1] using h
    clear h
    go_enter Try.func23, Try.ntmps23
    go_wp2_with (go_at_call 26; refine (has_any _ _ _ _ _ hg).mono ?_; rintro e w' ⟨rfl, rfl⟩; first | simp only [h1] | simp only [h2])
    go_ret
    exact ⟨rfl, rfl⟩

theorem arrow_nil (a b : Int) (w : World) :
    Calls Try.prog 23 #[.pointer none, .int .i64 a, .int .i64 b] w fun e w' => e = .returned (.int .i64 1) ∧ w = w' := by
  go_enter Try.func23, Try.ntmps23
  go_wp2
  go_ret
  exact ⟨rfl, rfl⟩
end Go.Proofs.Yteaemnkllpfbgaa
