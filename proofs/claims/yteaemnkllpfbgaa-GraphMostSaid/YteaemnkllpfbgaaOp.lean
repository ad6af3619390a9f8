/- A slice of pairs that came in, read; the frames of the rows. -/
import Derived.Test.YteaemnkllpfbgaaRows
import Derived.Test.YteaemnkllpfbgaaB1
import Derived.ProofKit
import Derived.OpenShut
import Derived.Deep.Slices
namespace Go.Proofs.Yteaemnkllpfbgaa
open Go.ChangeShapes Go.WideShapes Go.ChangeAt Go.RowKit Go.Deep
set_option linter.unusedSimpArgs false
set_option linter.unusedVariables false

theorem tryOwn : ownKnob Try.prog.godebug = none := by kernel_rfl
theorem tryLaid : laidOutB Try.prog = true := by kernel_rfl
theorem tryCells46 : Try.prog.cellsOf 46 = 2 := by kernel_rfl
theorem tryCells3 : Try.prog.cellsOf 3 = 1 := by kernel_rfl

set_option maxRecDepth 100000 in
theorem pairs_of {H : Type} {enc : TypeId × Value → H} {W : World} {sp : Nat → Bool} {held : Bool} {a0 : Option Addr} {len cap : Nat} {d : DataW H} {p : List MemPlace} (h : DataW.Trod enc Try.prog W 0 sp held 22 (.slice a0 len cap) d p) :
    ∃ l, Pairs W (.slice a0 len cap) l := by
  obtain ⟨fuel, hf⟩ := h
  rcases open_slice Try.underlying22 hf with ⟨hcs, _⟩ | ⟨a, len', cap', m, n, D, Pl, hcs, _, hl, hm, hmm, _, hx⟩
  · simp [Value.cells] at hcs
    obtain ⟨rfl, rfl, rfl⟩ := hcs
    exact ⟨[], ⟨none, 0, rfl, fun h => absurd rfl h⟩⟩
  · simp [Value.cells] at hcs
    obtain ⟨rfl, rfl, rfl⟩ := hcs
    have hlm : len ≤ m := by rw [hmm]; split <;> omega
    have each : ∀ i, i < len → ∃ q : Int × Int, W.cell? (a.add (i * 2)) = some (.int .i64 q.1) ∧ W.cell? (a.add (i * 2 + 1)) = some (.int .i64 q.2) := by
      intro i hi
      obtain ⟨cs', h1, h2⟩ := hx i (by omega)
      rw [tryCells46] at h1
      obtain ⟨_, hlen, hcell⟩ := World.cells?_some h1
      obtain ⟨xs, k, _, _, _, hxl, hk⟩ := DataW.trod_array Try.underlying46 h2
      have g0 := hk 0 (by omega)
      have g1 := hk 1 (by omega)
      simp only [tryCells3] at g0 g1
      match xs, hxl, cs', hlen with
      | [y0, y1], _, [v0, v1], _ =>
        simp at g0 g1
        obtain ⟨x, e0, _, _⟩ := DataW.trod_int Try.underlying3 g0
        obtain ⟨y, e1, _, _⟩ := DataW.trod_int Try.underlying3 g1
        simp at e0 e1
        have c0 := hcell 0 (by omega)
        have c1 := hcell 1 (by omega)
        rw [add_add] at c0 c1
        exact ⟨(x, y), by simpa [e0] using c0, by simpa [e1] using c1⟩
    obtain ⟨q, hq⟩ := choose_lt each
    refine ⟨(List.range len).map q, ⟨some a, cap, by simp, fun hne => ?_⟩⟩
    have h0 : 0 < len := by
      cases len with
      | zero => exact absurd rfl hne
      | succ k => omega
    obtain ⟨b, off, spot⟩ := a
    have hspot : spot = none := by
      have := World.cell?_spot (hq 0 h0).1
      simpa [Addr.add] using this
    subst hspot
    refine ⟨b, off, rfl, ?_, fun i x y hxy => ?_⟩
    · have := World.block_lt_of_cell? W _ (hq 0 h0).1
      simpa [Addr.add] using this
    · have hi : i < len := by
        have := (List.getElem?_eq_some_iff.1 hxy).1
        simpa using this
      have e : q i = (x, y) := by simpa [hi] using hxy
      have := hq i hi
      rw [add_plain, add_plain, e] at this
      exact ⟨this.1, by simpa [Nat.add_assoc] using this.2⟩

theorem u8_nat {x : Int} (h : (Lit.int .u8 x).wf = true) : ∃ z : Nat, x = (z : Int) ∧ z ≤ 255 := by
  have hx : 0 ≤ x ∧ x ≤ 255 := by simpa [Lit.wf, IntKind.min, IntKind.max, IntKind.signed, IntKind.bits] using h
  exact ⟨x.toNat, by omega, by omega⟩
end Go.Proofs.Yteaemnkllpfbgaa
