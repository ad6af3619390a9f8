/- GraphMost: for every size, arrows and marks the law answers true: the most marked steps of a way, or that there may be ever more, is the document's. No condition. -/
import Derived.Test.YteaemnkllpfbgaaOp
import Derived.Test.YteaemnkllpfbgaaLm
namespace Go.Proofs.Yteaemnkllpfbgaa
open Go.ChangeShapes Go.WideShapes Go.ChangeAt Go.RowKit Go.Deep
set_option linter.unusedSimpArgs false
set_option linter.unusedVariables false

theorem most_law (z : Nat) (hz : z ≤ 255) (v1 v2 : Value) (l1 l2 : List (Int × Int)) (w : World) (hp1 : Pairs w v1 l1) (hp2 : Pairs w v2 l2) :
    Calls Try.prog 6 #[.int .u8 z, v1, v2] w (LawP w) := by
  by_cases hl : 80 < l1.length
  · exact law_most_long z hz v1 v2 l1 l2 w hp1 hp2 hl
  · by_cases hl2 : 30 < l2.length
    · exact law_most_long2 z hz v1 v2 l1 l2 w hp1 hp2 (by omega) hl2
    · exact law_most_some z (z % 14) hz v1 v2 l1 l2 w hp1 hp2 (by omega) (by omega) (by omega) (by omega)

set_option maxRecDepth 100000 in
theorem most_lifted (os : Os) (started : os.Started) (H : Type) (enc : TypeId × Value → H) :
    ReturnsInHanded {} Try.checked os 6 .any (Rows.graphMostSpec.pre6 enc Try.prog Try.f6 Rows.graphMostRow.domain false) (Rows.graphMostSpec.post enc Try.prog Try.f6 false true false false) := by
  refine returnsInHanded_of_change (C := Try.checked) tryOwn started (by kernel_rfl) Try.func6
    (ChangeSpec.witness6 (enc := enc) (C := Try.checked) false ⟨#[], #[.int .u8 0, .slice none 0 0, .slice none 0 0], []⟩ 8 (by kernel_rfl) (by kernel_rfl) (by kernel_rfl) (by kernel_rfl)) ?_
  intro W base args ds gs before hval0 hW _ _
  have hval : ∀ (j : Nat) t v, Try.f6.params[j]? = some t → args[j]? = some v → Value.okWide Try.prog W .any base t v := hval0
  have hW' := hW
  obtain ⟨p, q, hA0, hV, rfl, _, _⟩ := hW
  have hA : DataW.TrodAll enc Try.prog W 0 (fun _ => true) true Try.f6.params.toList args.toList ds p := hA0
  rw [Try.params6] at hA hval
  obtain ⟨v0, v1, v2, d0, d1, d2, p0, p1, p2, rfl, rfl, rfl, h0, h1, h2⟩ := trodAll_three hA
  obtain ⟨rfl, rfl⟩ := trodVars_none hV
  obtain ⟨x0, rfl, rfl, rfl, w0⟩ := open_int Try.underlying5 (hval 0 5 v0 rfl rfl) h0
  obtain ⟨a1, len1, cap1, rfl⟩ := okWide_slice Try.underlying22 (hval 1 22 v1 rfl rfl)
  obtain ⟨a2, len2, cap2, rfl⟩ := okWide_slice Try.underlying22 (hval 2 22 v2 rfl rfl)
  clear hA0 hval0
  simp only [List.append_nil, List.nil_append] at hW'
  have hlt : ∀ x ∈ p1 ++ p2, x.block < W.heap.size := fun x hx => by simpa using hW'.lt x hx
  obtain ⟨l1, hl1⟩ := pairs_of h1
  obtain ⟨l2, hl2⟩ := pairs_of h2
  obtain ⟨z, rfl, hz⟩ := u8_nat w0
  refine (most_law z hz _ _ l1 l2 W hl1 hl2).mono fun e W' ⟨he, hn⟩ => ?_
  subst he
  refine ⟨_, rfl, _, _, _, [], p1 ++ p2, [], hW', ?_, ?_, rfl, hn.frame _, fun h => by cases h⟩
  · exact trodAll_mk1 (shut_bool Try.underlying4 _)
  · have := trodAll_mk3 (shut_int (enc := enc) (w := W') (base := 0) (spare := fun b => decide (b < W.heap.size)) (held := true) Try.underlying5 w0) (Below.trod tryLaid (by kernel_rfl) (of_decide_eq_true (by kernel_rfl)) h1 hn (fun x hx => hlt x (List.mem_append_left _ hx)))
      (Below.trod tryLaid (by kernel_rfl) (of_decide_eq_true (by kernel_rfl)) h2 hn (fun x hx => hlt x (List.mem_append_right _ hx)))
    exact this

/-- For every input the law GraphMost answers true, and each argument reads afterwards as it read before. -/
theorem graphMost_holds : Rows.GraphMostSaid :=
  OpenClaim.holds_of_wide 6 Try.f6 rfl rfl rfl rfl rfl rfl rfl ⟨rfl, rfl, rfl, rfl, rfl⟩ rfl rfl rfl rfl rfl (by kernel_rfl) Try.func6 (by kernel_rfl)
    (of_decide_eq_true (by kernel_rfl)) (by unfold Func.isWrapper; first | (rw [if_pos (by decide +kernel)]; kernel_rfl) | (rw [if_neg (by decide +kernel)]; exact ⟨rfl, rfl⟩))
    (fun os started H enc _ => most_lifted os started H enc)

#print axioms graphMost_holds
end Go.Proofs.Yteaemnkllpfbgaa
