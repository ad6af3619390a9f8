/- GraphKnots: for every size, pairs and two things the law answers true: two things of the graph are in one knot just if there is a way there and back; a thing alone in its knot is on a ring just if an arrow leads to itself. No condition. -/
import Derived.Test.YteaemnkllpfbgaaOp
import Derived.Test.YteaemnkllpfbgaaLk
namespace Go.Proofs.Yteaemnkllpfbgaa
open Go.ChangeShapes Go.WideShapes Go.ChangeAt Go.RowKit Go.Deep
set_option linter.unusedSimpArgs false
set_option linter.unusedVariables false

theorem knots_law (z a b : Nat) (hz : z ≤ 255) (ha : a ≤ 255) (hb : b ≤ 255) (v : Value) (l : List (Int × Int)) (w : World) (hp : Pairs w v l) :
    Calls Try.prog 5 #[.int .u8 z, v, .int .u8 a, .int .u8 b] w (LawP w) := by
  by_cases hl : 80 < l.length
  · exact law_knots_long z a b hz v l w hp hl
  · have hn0 : 0 < 1 + z % 13 := by omega
    have hdec : ∀ p : Prop, ∃ R : Bool, R = true ↔ p := fun p => ⟨@decide p (Classical.propDecidable p), by simp⟩
    obtain ⟨R1, hR1⟩ := hdec (Cal.Reach (sc (1 + z % 13) (arrows (1 + z % 13) l)) (a % (1 + z % 13)) (b % (1 + z % 13)))
    obtain ⟨R2, hR2⟩ := hdec (Cal.Reach (sc (1 + z % 13) (arrows (1 + z % 13) l)) (b % (1 + z % 13)) (a % (1 + z % 13)))
    exact law_knots z a b (1 + z % 13) (a % (1 + z % 13)) (b % (1 + z % 13)) hz ha hb v l w hp (by omega) (by omega) hn0 (by omega) (by simp) (by simp) (Nat.mod_lt _ hn0) (Nat.mod_lt _ hn0) R1 R2 hR1 hR2

set_option maxRecDepth 100000 in
theorem knots_lifted (os : Os) (started : os.Started) (H : Type) (enc : TypeId × Value → H) :
    ReturnsInHanded {} Try.checked os 5 .any (Rows.graphKnotsSpec.pre6 enc Try.prog Try.f5 Rows.graphKnotsRow.domain false) (Rows.graphKnotsSpec.post enc Try.prog Try.f5 false true false false) := by
  refine returnsInHanded_of_change (C := Try.checked) tryOwn started (by kernel_rfl) Try.func5
    (ChangeSpec.witness6 (enc := enc) (C := Try.checked) false ⟨#[], #[.int .u8 0, .slice none 0 0, .int .u8 0, .int .u8 0], []⟩ 8 (by kernel_rfl) (by kernel_rfl) (by kernel_rfl) (by kernel_rfl)) ?_
  intro W base args ds gs before hval0 hW _ _
  have hval : ∀ (j : Nat) t v, Try.f5.params[j]? = some t → args[j]? = some v → Value.okWide Try.prog W .any base t v := hval0
  have hW' := hW
  obtain ⟨p, q, hA0, hV, rfl, _, _⟩ := hW
  have hA : DataW.TrodAll enc Try.prog W 0 (fun _ => true) true Try.f5.params.toList args.toList ds p := hA0
  rw [Try.params5] at hA hval
  obtain ⟨v0, v1, v2, v3, d0, d1, d2, d3, p0, p1, p2, p3, rfl, rfl, rfl, h0, h1, h2, h3⟩ := trodAll_four hA
  obtain ⟨rfl, rfl⟩ := trodVars_none hV
  obtain ⟨x0, rfl, rfl, rfl, w0⟩ := open_int Try.underlying5 (hval 0 5 v0 rfl rfl) h0
  obtain ⟨a0, len, cap, rfl⟩ := okWide_slice Try.underlying22 (hval 1 22 v1 rfl rfl)
  obtain ⟨x2, rfl, rfl, rfl, w2⟩ := open_int Try.underlying5 (hval 2 5 v2 rfl rfl) h2
  obtain ⟨x3, rfl, rfl, rfl, w3⟩ := open_int Try.underlying5 (hval 3 5 v3 rfl rfl) h3
  clear hA0 hval0
  simp only [List.append_nil, List.nil_append] at hW'
  have hlt : ∀ x ∈ p1, x.block < W.heap.size := fun x hx => by simpa using hW'.lt x hx
  obtain ⟨l, hl⟩ := pairs_of h1
  obtain ⟨z, rfl, hz⟩ := u8_nat w0
  obtain ⟨a, rfl, ha⟩ := u8_nat w2
  obtain ⟨b, rfl, hb⟩ := u8_nat w3
  refine (knots_law z a b hz ha hb _ l W hl).mono fun e W' ⟨he, hn⟩ => ?_
  subst he
  refine ⟨_, rfl, _, _, _, [], p1, [], hW', ?_, ?_, rfl, hn.frame _, fun h => by cases h⟩
  · exact trodAll_mk1 (shut_bool Try.underlying4 _)
  · have := trodAll_mk4 (shut_int (enc := enc) (w := W') (base := 0) (spare := fun b => decide (b < W.heap.size)) (held := true) Try.underlying5 w0) (Below.trod tryLaid (by kernel_rfl) (of_decide_eq_true (by kernel_rfl)) h1 hn hlt) (shut_int Try.underlying5 w2) (shut_int Try.underlying5 w3)
    have e : ([] ++ (p1 ++ ([] ++ [])) : List MemPlace) = p1 := by simp
    rw [e] at this
    exact this

/-- For every input the law GraphKnots answers true, and each argument reads afterwards as it read before. -/
theorem graphKnots_holds : Rows.GraphKnotsSaid :=
  OpenClaim.holds_of_wide 5 Try.f5 rfl rfl rfl rfl rfl rfl rfl ⟨rfl, rfl, rfl, rfl, rfl⟩ rfl rfl rfl rfl rfl (by kernel_rfl) Try.func5 (by kernel_rfl)
    (of_decide_eq_true (by kernel_rfl)) (by unfold Func.isWrapper; first | (rw [if_pos (by decide +kernel)]; kernel_rfl) | (rw [if_neg (by decide +kernel)]; exact ⟨rfl, rfl⟩))
    (fun os started H enc _ => knots_lifted os started H enc)

#print axioms graphKnots_holds
end Go.Proofs.Yteaemnkllpfbgaa
