/- GraphPaths: for every size, pairs and two things the law answers true: Path tells a shortest way from the one to the other, just if there is one. No condition. -/
import Derived.Test.YteaemnkllpfbgaaOp
import Derived.Test.YteaemnkllpfbgaaLq
namespace Go.Proofs.Yteaemnkllpfbgaa
open Go.ChangeShapes Go.WideShapes Go.ChangeAt Go.RowKit Go.Deep
set_option linter.unusedSimpArgs false
set_option linter.unusedVariables false

theorem paths_law (z : Nat) (x y : Int) (hz : z ≤ 255) (v : Value) (l : List (Int × Int)) (w : World) (hp : Pairs w v l) :
    Calls Try.prog 4 #[.int .u8 z, v, .int .i64 x, .int .i64 y] w (LawP w) := by
  by_cases hl : 80 < l.length
  · exact law_paths_long z x y hz v l w hp hl
  · by_cases hxy : (inRange x (z % 14 : Nat) && inRange y (z % 14 : Nat)) = false
    · exact law_paths_out z (z % 14) x y hz v l w hp (by omega) (by omega) (by omega) hxy
    · have h1 : inRange x (z % 14 : Nat) = true ∧ inRange y (z % 14 : Nat) = true := by
        cases h1 : inRange x (z % 14 : Nat) <;> cases h2 : inRange y (z % 14 : Nat) <;> simp_all
      obtain ⟨hx, hy⟩ := h1
      simp only [inRange, Bool.and_eq_true, decide_eq_true_eq] at hx hy
      obtain ⟨p, rfl⟩ : ∃ p : Nat, x = (p : Int) := ⟨x.toNat, by omega⟩
      obtain ⟨q, rfl⟩ : ∃ q : Nat, y = (q : Int) := ⟨y.toNat, by omega⟩
      by_cases hr : Cal.Reach (sc (z % 14) (arrows (z % 14) l)) p q
      · obtain ⟨d, hd⟩ := hr.dist
        have hdl := Cal.Dist.lt (by omega) (sc_lt (z % 14) (arrows (z % 14) l)) hd
        exact law_paths_yes z (z % 14) p q d (d + 1) hz v l w hp (by omega) (by omega) (by omega) (by omega) (by omega) hd (by omega) (by omega)
      · exact law_paths_no z (z % 14) p q hz v l w hp (by omega) (by omega) (by omega) (by omega) (by omega) hr

set_option maxRecDepth 100000 in
theorem paths_lifted (os : Os) (started : os.Started) (H : Type) (enc : TypeId × Value → H) :
    ReturnsInHanded {} Try.checked os 4 .any (Rows.graphPathsSpec.pre6 enc Try.prog Try.f4 Rows.graphPathsRow.domain false) (Rows.graphPathsSpec.post enc Try.prog Try.f4 false true false false) := by
  refine returnsInHanded_of_change (C := Try.checked) tryOwn started (by kernel_rfl) Try.func4
    (ChangeSpec.witness6 (enc := enc) (C := Try.checked) false ⟨#[], #[.int .u8 0, .slice none 0 0, .int .i64 0, .int .i64 0], []⟩ 8 (by kernel_rfl) (by kernel_rfl) (by kernel_rfl) (by kernel_rfl)) ?_
  intro W base args ds gs before hval0 hW _ _
  have hval : ∀ (j : Nat) t v, Try.f4.params[j]? = some t → args[j]? = some v → Value.okWide Try.prog W .any base t v := hval0
  have hW' := hW
  obtain ⟨p, q, hA0, hV, rfl, _, _⟩ := hW
  have hA : DataW.TrodAll enc Try.prog W 0 (fun _ => true) true Try.f4.params.toList args.toList ds p := hA0
  rw [Try.params4] at hA hval
  obtain ⟨v0, v1, v2, v3, d0, d1, d2, d3, p0, p1, p2, p3, rfl, rfl, rfl, h0, h1, h2, h3⟩ := trodAll_four hA
  obtain ⟨rfl, rfl⟩ := trodVars_none hV
  obtain ⟨x0, rfl, rfl, rfl, w0⟩ := open_int Try.underlying5 (hval 0 5 v0 rfl rfl) h0
  obtain ⟨a0, len, cap, rfl⟩ := okWide_slice Try.underlying22 (hval 1 22 v1 rfl rfl)
  obtain ⟨x2, rfl, rfl, rfl, w2⟩ := open_int Try.underlying3 (hval 2 3 v2 rfl rfl) h2
  obtain ⟨x3, rfl, rfl, rfl, w3⟩ := open_int Try.underlying3 (hval 3 3 v3 rfl rfl) h3
  clear hA0 hval0
  simp only [List.append_nil, List.nil_append] at hW'
  have hlt : ∀ x ∈ p1, x.block < W.heap.size := fun x hx => by simpa using hW'.lt x hx
  obtain ⟨l, hl⟩ := pairs_of h1
  obtain ⟨z, rfl, hz⟩ := u8_nat w0
  refine (paths_law z x2 x3 hz _ l W hl).mono fun e W' ⟨he, hn⟩ => ?_
  subst he
  refine ⟨_, rfl, _, _, _, [], p1, [], hW', ?_, ?_, rfl, hn.frame _, fun h => by cases h⟩
  · exact trodAll_mk1 (shut_bool Try.underlying4 _)
  · have := trodAll_mk4 (shut_int (enc := enc) (w := W') (base := 0) (spare := fun b => decide (b < W.heap.size)) (held := true) Try.underlying5 w0) (Below.trod tryLaid (by kernel_rfl) (of_decide_eq_true (by kernel_rfl)) h1 hn hlt) (shut_int Try.underlying3 w2) (shut_int Try.underlying3 w3)
    have e : ([] ++ (p1 ++ ([] ++ [])) : List MemPlace) = p1 := by simp
    rw [e] at this
    exact this

/-- For every input the law GraphPaths answers true, and each argument reads afterwards as it read before. -/
theorem graphPaths_holds : Rows.GraphPathsSaid :=
  OpenClaim.holds_of_wide 4 Try.f4 rfl rfl rfl rfl rfl rfl rfl ⟨rfl, rfl, rfl, rfl, rfl⟩ rfl rfl rfl rfl rfl (by kernel_rfl) Try.func4 (by kernel_rfl)
    (of_decide_eq_true (by kernel_rfl)) (by unfold Func.isWrapper; first | (rw [if_pos (by decide +kernel)]; kernel_rfl) | (rw [if_neg (by decide +kernel)]; exact ⟨rfl, rfl⟩))
    (fun os started H enc _ => paths_lifted os started H enc)

#print axioms graphPaths_holds
end Go.Proofs.Yteaemnkllpfbgaa
