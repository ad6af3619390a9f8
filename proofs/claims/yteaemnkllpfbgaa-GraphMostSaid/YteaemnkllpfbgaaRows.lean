/-
  No cell of these rows narrows 'for every input' (looked for: loops, veiled, ifaces, maps, wideKeys, modest, calm, conditions, laid).
  DERIVED. THE GIVEN ROWS OF THIS SEAT. 5 by the template 'for every input the law returns true; each argument reads behind the call as it read before'; 0 by the template 'total and deterministic' (their statements: YteaemnkllpfbgaaTotals.lean).
  GIVEN WITH THE SEED: the statements are not yours to turn. If you find one false, say at which input.
  Laid BY PROGRAM, IN A SANDBOX (cutbox-rows.mjs): the forced cells as the released guide's own fill.sh prints them over the translation 86f2409f097b48cd… (all of the seat's roots in one cut). By AI agents, Wed Nov 11 2026. No macro, syntax, notation, axiom, sorry.
-/
import Derived.Test.YteaemnkllpfbgaaChecked
import GoSem.Claim
import GoSem.ClaimJoined
import GoSem.ClaimMapViews
import Derived.JoinedTies
import Derived.KernelRfl
namespace Go.Proofs.Yteaemnkllpfbgaa
/- THE CELL 'sum', in the pinned program and in every row, IS THE sha256 OF THE DUMP (.gsa) THAT YteaemnkllpfbgaaProg.lean LOADS. Nothing in Lean hashes anything: it is a label: what it is worth is what the hold of that sum in a sandbox is worth. -/
noncomputable def Try.pinned : Pinned := { name := "yteaemnkllpfbgaa", sum := "86f2409f097b48cd22b2927dcf97c0142a7e7363603e16e231dcc98eee72ac3e", checked := Try.checked }
namespace Rows
def none {H : Type} : Left H := { results := [], args := [] }

/-- 'caltroplaw14.GraphReaches': WHATEVER THE INPUT: true; the input reads as it did. -/
def graphReachesSpec : ChangeSpec := { name := "graphReaches", fn := fun _ => fun
  | [d1, d2] => { results := [.lit (.bool true)], args := [d1, d2] }
  | _ => none }
def graphReachesRow : OpenClaim := { program := "yteaemnkllpfbgaa", sum := "86f2409f097b48cd22b2927dcf97c0142a7e7363603e16e231dcc98eee72ac3e", func := "caltrop/caltroplaw14.GraphReaches", spec := "graphReaches", unfollowed := true, recurses := true, apart := false }
def GraphReachesSaid : Prop := graphReachesRow.holds Try.pinned (OpenSpec.ofChange graphReachesSpec)

/-- ITS FALSE NEIGHBOUR: 'it returns false'. Refute it at one input. -/
def graphReachesWrong : ChangeSpec := { name := "graphReaches", fn := fun _ => fun
  | [d1, d2] => { results := [.lit (.bool false)], args := [d1, d2] }
  | _ => none }
def GraphReachesWrongFalsely : Prop := graphReachesRow.holds Try.pinned (OpenSpec.ofChange graphReachesWrong)

/-- 'caltroplaw14.GraphPaths': WHATEVER THE INPUT: true; the input reads as it did. -/
def graphPathsSpec : ChangeSpec := { name := "graphPaths", fn := fun _ => fun
  | [d1, d2, d3, d4] => { results := [.lit (.bool true)], args := [d1, d2, d3, d4] }
  | _ => none }
def graphPathsRow : OpenClaim := { program := "yteaemnkllpfbgaa", sum := "86f2409f097b48cd22b2927dcf97c0142a7e7363603e16e231dcc98eee72ac3e", func := "caltrop/caltroplaw14.GraphPaths", spec := "graphPaths", unfollowed := true, recurses := true, apart := false }
def GraphPathsSaid : Prop := graphPathsRow.holds Try.pinned (OpenSpec.ofChange graphPathsSpec)

/-- ITS FALSE NEIGHBOUR: 'it returns false'. Refute it at one input. -/
def graphPathsWrong : ChangeSpec := { name := "graphPaths", fn := fun _ => fun
  | [d1, d2, d3, d4] => { results := [.lit (.bool false)], args := [d1, d2, d3, d4] }
  | _ => none }
def GraphPathsWrongFalsely : Prop := graphPathsRow.holds Try.pinned (OpenSpec.ofChange graphPathsWrong)

/-- 'caltroplaw14.GraphKnots': WHATEVER THE INPUT: true; the input reads as it did. -/
def graphKnotsSpec : ChangeSpec := { name := "graphKnots", fn := fun _ => fun
  | [d1, d2, d3, d4] => { results := [.lit (.bool true)], args := [d1, d2, d3, d4] }
  | _ => none }
def graphKnotsRow : OpenClaim := { program := "yteaemnkllpfbgaa", sum := "86f2409f097b48cd22b2927dcf97c0142a7e7363603e16e231dcc98eee72ac3e", func := "caltrop/caltroplaw14.GraphKnots", spec := "graphKnots", unfollowed := true, recurses := true, apart := false }
def GraphKnotsSaid : Prop := graphKnotsRow.holds Try.pinned (OpenSpec.ofChange graphKnotsSpec)

/-- ITS FALSE NEIGHBOUR: 'it returns false'. Refute it at one input. -/
def graphKnotsWrong : ChangeSpec := { name := "graphKnots", fn := fun _ => fun
  | [d1, d2, d3, d4] => { results := [.lit (.bool false)], args := [d1, d2, d3, d4] }
  | _ => none }
def GraphKnotsWrongFalsely : Prop := graphKnotsRow.holds Try.pinned (OpenSpec.ofChange graphKnotsWrong)

/-- 'caltroplaw14.GraphMost': WHATEVER THE INPUT: true; the input reads as it did. -/
def graphMostSpec : ChangeSpec := { name := "graphMost", fn := fun _ => fun
  | [d1, d2, d3] => { results := [.lit (.bool true)], args := [d1, d2, d3] }
  | _ => none }
def graphMostRow : OpenClaim := { program := "yteaemnkllpfbgaa", sum := "86f2409f097b48cd22b2927dcf97c0142a7e7363603e16e231dcc98eee72ac3e", func := "caltrop/caltroplaw14.GraphMost", spec := "graphMost", unfollowed := true, recurses := true, apart := false }
def GraphMostSaid : Prop := graphMostRow.holds Try.pinned (OpenSpec.ofChange graphMostSpec)

/-- ITS FALSE NEIGHBOUR: 'it returns false'. Refute it at one input. -/
def graphMostWrong : ChangeSpec := { name := "graphMost", fn := fun _ => fun
  | [d1, d2, d3] => { results := [.lit (.bool false)], args := [d1, d2, d3] }
  | _ => none }
def GraphMostWrongFalsely : Prop := graphMostRow.holds Try.pinned (OpenSpec.ofChange graphMostWrong)

/-- 'caltroplaw14.GraphNone': WHATEVER THE INPUT: true; the input reads as it did. -/
def graphNoneSpec : ChangeSpec := { name := "graphNone", fn := fun _ => fun
  | [d1, d2] => { results := [.lit (.bool true)], args := [d1, d2] }
  | _ => none }
def graphNoneRow : OpenClaim := { program := "yteaemnkllpfbgaa", sum := "86f2409f097b48cd22b2927dcf97c0142a7e7363603e16e231dcc98eee72ac3e", func := "caltrop/caltroplaw14.GraphNone", spec := "graphNone", unfollowed := true, recurses := true, apart := false }
def GraphNoneSaid : Prop := graphNoneRow.holds Try.pinned (OpenSpec.ofChange graphNoneSpec)

/-- ITS FALSE NEIGHBOUR: 'it returns false'. Refute it at one input. -/
def graphNoneWrong : ChangeSpec := { name := "graphNone", fn := fun _ => fun
  | [d1, d2] => { results := [.lit (.bool false)], args := [d1, d2] }
  | _ => none }
def GraphNoneWrongFalsely : Prop := graphNoneRow.holds Try.pinned (OpenSpec.ofChange graphNoneWrong)

/- THE SECOND FORM. 'bulk': how many values and letters a reading holds, each counted each time it is reached (what is shared counts as often as it is met; a slice's spare places count too). A statement '..UptoSaid' is the law's where the arguments, and the package variables that the reading takes, are together of bulk at most 1048576: NARROWER than '..Said'. Prove '..Said' where nothing that the law and all that it calls make is longer than what came in: it says more and counts as full. Else prove '..UptoSaid'. A law counts once. -/
mutual
def uptoBulk {H : Type} : DataW H → Nat
  | .lit (.string bytes) => bytes.length + 1
  | .lit _ => 1
  | .nil => 1
  | .ptr d => uptoBulk d + 1
  | .slice elems spare => uptoBulkAll elems + uptoBulkAll spare + 1
  | .agg parts => uptoBulkAll parts + 1
  | .iface _ d => uptoBulk d + 1
  | .map entries => uptoBulkEntries entries + 1
  | .held _ => 1
def uptoBulkAll {H : Type} : List (DataW H) → Nat
  | [] => 0
  | d :: r => uptoBulk d + uptoBulkAll r
def uptoBulkEntries {H : Type} : List (Lit × DataW H) → Nat
  | [] => 0
  | x :: r => uptoBulkEntry x + uptoBulkEntries r
def uptoBulkEntry {H : Type} : Lit × DataW H → Nat
  | (.string bytes, d) => bytes.length + uptoBulk d + 1
  | (_, d) => uptoBulk d + 1
 end
def uptoSmall : (H : Type) → List (DataW H) → Bool := fun _ ds => decide (uptoBulkAll ds ≤ 1048576)
def OpenSpec.upto (s : _root_.Go.ChangeSpec) : _root_.Go.OpenSpec := { _root_.Go.OpenSpec.ofChange s with cond := some uptoSmall }

/-- 'caltroplaw14.GraphReaches', WHERE WHAT IT READS IS OF BULK AT MOST 1048576: true; the input reads as it did. -/
def graphReachesUptoRow : OpenClaim := { program := "yteaemnkllpfbgaa", sum := "86f2409f097b48cd22b2927dcf97c0142a7e7363603e16e231dcc98eee72ac3e", func := "caltrop/caltroplaw14.GraphReaches", spec := "graphReaches", unfollowed := true, recurses := true, apart := false, narrowed := true }
def GraphReachesUptoSaid : Prop := graphReachesUptoRow.holds Try.pinned (OpenSpec.upto graphReachesSpec)

/-- 'caltroplaw14.GraphPaths', WHERE WHAT IT READS IS OF BULK AT MOST 1048576: true; the input reads as it did. -/
def graphPathsUptoRow : OpenClaim := { program := "yteaemnkllpfbgaa", sum := "86f2409f097b48cd22b2927dcf97c0142a7e7363603e16e231dcc98eee72ac3e", func := "caltrop/caltroplaw14.GraphPaths", spec := "graphPaths", unfollowed := true, recurses := true, apart := false, narrowed := true }
def GraphPathsUptoSaid : Prop := graphPathsUptoRow.holds Try.pinned (OpenSpec.upto graphPathsSpec)

/-- 'caltroplaw14.GraphKnots', WHERE WHAT IT READS IS OF BULK AT MOST 1048576: true; the input reads as it did. -/
def graphKnotsUptoRow : OpenClaim := { program := "yteaemnkllpfbgaa", sum := "86f2409f097b48cd22b2927dcf97c0142a7e7363603e16e231dcc98eee72ac3e", func := "caltrop/caltroplaw14.GraphKnots", spec := "graphKnots", unfollowed := true, recurses := true, apart := false, narrowed := true }
def GraphKnotsUptoSaid : Prop := graphKnotsUptoRow.holds Try.pinned (OpenSpec.upto graphKnotsSpec)

/-- 'caltroplaw14.GraphMost', WHERE WHAT IT READS IS OF BULK AT MOST 1048576: true; the input reads as it did. -/
def graphMostUptoRow : OpenClaim := { program := "yteaemnkllpfbgaa", sum := "86f2409f097b48cd22b2927dcf97c0142a7e7363603e16e231dcc98eee72ac3e", func := "caltrop/caltroplaw14.GraphMost", spec := "graphMost", unfollowed := true, recurses := true, apart := false, narrowed := true }
def GraphMostUptoSaid : Prop := graphMostUptoRow.holds Try.pinned (OpenSpec.upto graphMostSpec)

/-- 'caltroplaw14.GraphNone', WHERE WHAT IT READS IS OF BULK AT MOST 1048576: true; the input reads as it did. -/
def graphNoneUptoRow : OpenClaim := { program := "yteaemnkllpfbgaa", sum := "86f2409f097b48cd22b2927dcf97c0142a7e7363603e16e231dcc98eee72ac3e", func := "caltrop/caltroplaw14.GraphNone", spec := "graphNone", unfollowed := true, recurses := true, apart := false, narrowed := true }
def GraphNoneUptoSaid : Prop := graphNoneUptoRow.holds Try.pinned (OpenSpec.upto graphNoneSpec)

end Rows
end Go.Proofs.Yteaemnkllpfbgaa
