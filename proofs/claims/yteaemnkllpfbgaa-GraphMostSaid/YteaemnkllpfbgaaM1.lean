/- The document's Most. -/
import Derived.Test.YteaemnkllpfbgaaF1
import Derived.Test.YteaemnkllpfbgaaPn
import Derived.Test.YteaemnkllpfbgaaLk
import Derived.BigQuiet
import Derived.Deep.DeepCutAuto
namespace Go.Proofs.Yteaemnkllpfbgaa
open Go.RowKit Go.Maps
open Cal (upd upd_same upd_ne Wk MJ sumB)
set_option linter.unusedSimpArgs false
set_option linter.unusedVariables false

/-- The row of numbers. -/
structure BR (w wr : World) (ob n : Nat) (best : Nat → Nat) : Prop where
  o : Blk wr ob (rowA n (natC best)) 3
  ge : w.heap.size ≤ ob
  bel : Below w.heap.size w wr
theorem BR.set {w wr : World} {ob n : Nat} {best : Nat → Nat} (h : BR w wr ob n best) (i x : Nat) : BR w (wr.setCell ⟨ob, i, none⟩ (.int .i64 (x : Int))) ob n (upd best i x) where
  o := by
    refine Eq.trans (h.o.setRow i (.int .i64 (x : Int))).eq ?_
    congr 2
    refine rowA_congr fun j _ => ?_
    simp only [upd, natC]; split <;> rfl
  ge := h.ge
  bel := h.bel.setCell (p := ⟨ob, i, none⟩) h.ge _
theorem BR.fr {w wr w' : World} {ob n : Nat} {best : Nat → Nat} (h : BR w wr ob n best) (hf : Fr (fun _ => False) wr w') : BR w w' ob n best :=
  ⟨hf.blk h.o (fun e => e), h.ge, h.bel.trans (hf.below _ (fun i e => e.elim) h.bel.size)⟩

/-- What the document's Most answers: a walk of more marks than things, or the most marks. -/
def MostP (w : World) (n : Nat) (S : Nat → Int → Bool) (K : Nat → Nat → Prop) (e : Ending) (w' : World) : Prop :=
  ∃ v : Int, e = .returned (.int .i64 v) ∧ Below w.heap.size w w' ∧
    ((v = -1 ∧ ∃ i c m, i < n ∧ n < m ∧ Wk (sc n S) K i c m) ∨
     ∃ W : Nat, v = W ∧ (W = 0 ∨ ∃ i c, i < n ∧ Wk (sc n S) K i c W) ∧ ∀ i c m, i < n → Wk (sc n S) K i c m → m ≤ W)

/-- The most of a row. -/
def maxTo (best : Nat → Nat) : Nat → Nat
  | 0 => 0
  | i + 1 => max (maxTo best i) (best i)
theorem le_maxTo {best : Nat → Nat} {n : Nat} : ∀ i, i < n → best i ≤ maxTo best n := by
  induction n with
  | zero => intro i h; omega
  | succ n ih =>
    intro i h
    simp only [maxTo]
    by_cases e : i = n
    · subst e; omega
    · have := ih i (by omega); omega
theorem maxTo_at {best : Nat → Nat} {n : Nat} : maxTo best n = 0 ∨ ∃ i, i < n ∧ best i = maxTo best n := by
  induction n with
  | zero => exact .inl rfl
  | succ n ih =>
    simp only [maxTo]
    by_cases e : best n ≤ maxTo best n
    · rw [Nat.max_eq_left e]
      rcases ih with h | ⟨i, h1, h2⟩
      · exact .inl h
      · exact .inr ⟨i, by omega, h2⟩
    · rw [Nat.max_eq_right (by omega)]
      exact .inr ⟨n, by omega, rfl⟩

/-- A pair's cells. -/
theorem Pairs.atN {w wr : World} {A : Option Addr} {cap len : Nat} {M : List (Nat × Nat)} (h : Pairs w (.slice A len cap) (M.map fun p => ((p.1 : Int), (p.2 : Int)))) (hb : Below w.heap.size w wr) {j a b : Nat} (hj : M[j]? = some (a, b)) :
    ∃ mb off, A = some ⟨mb, off, none⟩ ∧ wr.cell? ⟨mb, off + j * 2, none⟩ = some (.int .i64 (a : Int)) ∧ wr.cell? ⟨mb, off + j * 2 + 1, none⟩ = some (.int .i64 (b : Int)) := by
  obtain ⟨A', cap', e, hc⟩ := h.len
  simp only [Value.slice.injEq] at e
  obtain ⟨rfl, _, _⟩ := e
  have hne : (M.map fun p => ((p.1 : Int), (p.2 : Int))) ≠ [] := by
    intro e
    have : M = [] := List.map_eq_nil_iff.1 e
    rw [this] at hj; simp at hj
  obtain ⟨mb, off, e1, hlt, hcs⟩ := hc hne
  have := hcs j (a : Int) (b : Int) (by rw [List.getElem?_map, hj]; rfl)
  exact ⟨mb, off, e1, (World.cell?_of_block (hb.block mb hlt)).trans this.1, (World.cell?_of_block (hb.block mb hlt)).trans this.2⟩
theorem Pairs.lenN {w : World} {A : Option Addr} {cap len : Nat} {M : List (Nat × Nat)} (h : Pairs w (.slice A len cap) (M.map fun p => ((p.1 : Int), (p.2 : Int)))) : len = M.length := by
  obtain ⟨A', cap', e, hc⟩ := h.len
  simp only [Value.slice.injEq] at e
  simpa using e.2.1
end Go.Proofs.Yteaemnkllpfbgaa
