/-
  NARROWER THAN 'FOR EVERY INPUT', by the rows' own cells (each row's printed sentence says how): FnExactNarrowType: loops · FnExactIndicesOf: loops.
  DERIVED. THE GIVEN ROWS OF THIS SEAT. 8 by the template 'for every input the law returns true; each argument reads behind the call as it read before'; 0 by the template 'total and deterministic' (their statements: YtpimgoacljakgaaTotals.lean).
  GIVEN WITH THE SEED: the statements are not yours to turn. If you find one false, say at which input.
  Laid BY PROGRAM, IN A SANDBOX (cutbox-rows.mjs): the forced cells as the released guide's own fill.sh prints them over the translation 49cb6603fc60480c… (all of the seat's roots in one cut). By AI agents, Wed Nov 11 2026. No macro, syntax, notation, axiom, sorry.
-/
import Derived.Test.YtpimgoacljakgaaChecked
import GoSem.Claim
import GoSem.ClaimJoined
import GoSem.ClaimMapViews
import Derived.JoinedTies
import Derived.KernelRfl
namespace Go.Proofs.Ytpimgoacljakgaa
/- THE CELL 'sum', in the pinned program and in every row, IS THE sha256 OF THE DUMP (.gsa) THAT YtpimgoacljakgaaProg.lean LOADS. Nothing in Lean hashes anything: it is a label: what it is worth is what the hold of that sum in a sandbox is worth. -/
noncomputable def Try.pinned : Pinned := { name := "ytpimgoacljakgaa", sum := "49cb6603fc60480c458fc958b44823b69cdf3716431d1e3371e7bab79600e39d", checked := Try.checked }
namespace Rows
def none {H : Type} : Left H := { results := [], args := [] }

/-- 'laws.FnAllTypes': WHATEVER THE INPUT: true; the input reads as it did. -/
def fnAllTypesSpec : ChangeSpec := { name := "fnAllTypes", fn := fun _ => fun
  | [d] => { results := [.lit (.bool true)], args := [d] }
  | _ => none }
def fnAllTypesRow : OpenClaim := { program := "ytpimgoacljakgaa", sum := "49cb6603fc60480c458fc958b44823b69cdf3716431d1e3371e7bab79600e39d", func := "loop.example/matchcompiler/laws.FnAllTypes", spec := "fnAllTypes", unfollowed := true, recurses := true, apart := false }
def FnAllTypesSaid : Prop := fnAllTypesRow.holds Try.pinned (OpenSpec.ofChange fnAllTypesSpec)

/-- ITS FALSE NEIGHBOUR: 'it returns false'. Refute it at one input. -/
def fnAllTypesWrong : ChangeSpec := { name := "fnAllTypes", fn := fun _ => fun
  | [d] => { results := [.lit (.bool false)], args := [d] }
  | _ => none }
def FnAllTypesWrongFalsely : Prop := fnAllTypesRow.holds Try.pinned (OpenSpec.ofChange fnAllTypesWrong)

/-- 'laws.FnSameValues': WHATEVER THE INPUT: true; the input reads as it did. -/
def fnSameValuesSpec : ChangeSpec := { name := "fnSameValues", fn := fun _ => fun
  | [d] => { results := [.lit (.bool true)], args := [d] }
  | _ => none }
def fnSameValuesRow : OpenClaim := { program := "ytpimgoacljakgaa", sum := "49cb6603fc60480c458fc958b44823b69cdf3716431d1e3371e7bab79600e39d", func := "loop.example/matchcompiler/laws.FnSameValues", spec := "fnSameValues", unfollowed := true, recurses := true, apart := false }
def FnSameValuesSaid : Prop := fnSameValuesRow.holds Try.pinned (OpenSpec.ofChange fnSameValuesSpec)

/-- ITS FALSE NEIGHBOUR: 'it returns false'. Refute it at one input. -/
def fnSameValuesWrong : ChangeSpec := { name := "fnSameValues", fn := fun _ => fun
  | [d] => { results := [.lit (.bool false)], args := [d] }
  | _ => none }
def FnSameValuesWrongFalsely : Prop := fnSameValuesRow.holds Try.pinned (OpenSpec.ofChange fnSameValuesWrong)

/-- 'laws.FnTypesOfValue': WHATEVER THE INPUT: true; the input reads as it did. -/
def fnTypesOfValueSpec : ChangeSpec := { name := "fnTypesOfValue", fn := fun _ => fun
  | [d] => { results := [.lit (.bool true)], args := [d] }
  | _ => none }
def fnTypesOfValueRow : OpenClaim := { program := "ytpimgoacljakgaa", sum := "49cb6603fc60480c458fc958b44823b69cdf3716431d1e3371e7bab79600e39d", func := "loop.example/matchcompiler/laws.FnTypesOfValue", spec := "fnTypesOfValue", unfollowed := true, recurses := true, apart := false }
def FnTypesOfValueSaid : Prop := fnTypesOfValueRow.holds Try.pinned (OpenSpec.ofChange fnTypesOfValueSpec)

/-- ITS FALSE NEIGHBOUR: 'it returns false'. Refute it at one input. -/
def fnTypesOfValueWrong : ChangeSpec := { name := "fnTypesOfValue", fn := fun _ => fun
  | [d] => { results := [.lit (.bool false)], args := [d] }
  | _ => none }
def FnTypesOfValueWrongFalsely : Prop := fnTypesOfValueRow.holds Try.pinned (OpenSpec.ofChange fnTypesOfValueWrong)

/-- 'laws.FnExactNarrowType': WHATEVER THE INPUT: true; the input reads as it did. -/
def fnExactNarrowTypeSpec : ChangeSpec := { name := "fnExactNarrowType", fn := fun _ => fun
  | [d1, d2, d3] => { results := [.lit (.bool true)], args := [d1, d2, d3] }
  | _ => none }
def fnExactNarrowTypeRow : OpenClaim := { program := "ytpimgoacljakgaa", sum := "49cb6603fc60480c458fc958b44823b69cdf3716431d1e3371e7bab79600e39d", func := "loop.example/matchcompiler/laws.FnExactNarrowType", spec := "fnExactNarrowType", unfollowed := true, recurses := true, loops := true, apart := false }
def FnExactNarrowTypeSaid : Prop := fnExactNarrowTypeRow.holds Try.pinned (OpenSpec.ofChange fnExactNarrowTypeSpec)

/-- ITS FALSE NEIGHBOUR: 'it returns false'. Refute it at one input. -/
def fnExactNarrowTypeWrong : ChangeSpec := { name := "fnExactNarrowType", fn := fun _ => fun
  | [d1, d2, d3] => { results := [.lit (.bool false)], args := [d1, d2, d3] }
  | _ => none }
def FnExactNarrowTypeWrongFalsely : Prop := fnExactNarrowTypeRow.holds Try.pinned (OpenSpec.ofChange fnExactNarrowTypeWrong)

/-- 'laws.FnIndicesLess': WHATEVER THE INPUT: true; the input reads as it did. -/
def fnIndicesLessSpec : ChangeSpec := { name := "fnIndicesLess", fn := fun _ => fun
  | [d] => { results := [.lit (.bool true)], args := [d] }
  | _ => none }
def fnIndicesLessRow : OpenClaim := { program := "ytpimgoacljakgaa", sum := "49cb6603fc60480c458fc958b44823b69cdf3716431d1e3371e7bab79600e39d", func := "loop.example/matchcompiler/laws.FnIndicesLess", spec := "fnIndicesLess", unfollowed := true, recurses := true, apart := false }
def FnIndicesLessSaid : Prop := fnIndicesLessRow.holds Try.pinned (OpenSpec.ofChange fnIndicesLessSpec)

/-- ITS FALSE NEIGHBOUR: 'it returns false'. Refute it at one input. -/
def fnIndicesLessWrong : ChangeSpec := { name := "fnIndicesLess", fn := fun _ => fun
  | [d] => { results := [.lit (.bool false)], args := [d] }
  | _ => none }
def FnIndicesLessWrongFalsely : Prop := fnIndicesLessRow.holds Try.pinned (OpenSpec.ofChange fnIndicesLessWrong)

/-- 'laws.FnNarrowAgain': WHATEVER THE INPUT: true; the input reads as it did. -/
def fnNarrowAgainSpec : ChangeSpec := { name := "fnNarrowAgain", fn := fun _ => fun
  | [d] => { results := [.lit (.bool true)], args := [d] }
  | _ => none }
def fnNarrowAgainRow : OpenClaim := { program := "ytpimgoacljakgaa", sum := "49cb6603fc60480c458fc958b44823b69cdf3716431d1e3371e7bab79600e39d", func := "loop.example/matchcompiler/laws.FnNarrowAgain", spec := "fnNarrowAgain", unfollowed := true, recurses := true, apart := false }
def FnNarrowAgainSaid : Prop := fnNarrowAgainRow.holds Try.pinned (OpenSpec.ofChange fnNarrowAgainSpec)

/-- ITS FALSE NEIGHBOUR: 'it returns false'. Refute it at one input. -/
def fnNarrowAgainWrong : ChangeSpec := { name := "fnNarrowAgain", fn := fun _ => fun
  | [d] => { results := [.lit (.bool false)], args := [d] }
  | _ => none }
def FnNarrowAgainWrongFalsely : Prop := fnNarrowAgainRow.holds Try.pinned (OpenSpec.ofChange fnNarrowAgainWrong)

/-- 'laws.FnTypesOfPattern': WHATEVER THE INPUT: true; the input reads as it did. -/
def fnTypesOfPatternSpec : ChangeSpec := { name := "fnTypesOfPattern", fn := fun _ => fun
  | [d] => { results := [.lit (.bool true)], args := [d] }
  | _ => none }
def fnTypesOfPatternRow : OpenClaim := { program := "ytpimgoacljakgaa", sum := "49cb6603fc60480c458fc958b44823b69cdf3716431d1e3371e7bab79600e39d", func := "loop.example/matchcompiler/laws.FnTypesOfPattern", spec := "fnTypesOfPattern", unfollowed := true, recurses := true, apart := false }
def FnTypesOfPatternSaid : Prop := fnTypesOfPatternRow.holds Try.pinned (OpenSpec.ofChange fnTypesOfPatternSpec)

/-- ITS FALSE NEIGHBOUR: 'it returns false'. Refute it at one input. -/
def fnTypesOfPatternWrong : ChangeSpec := { name := "fnTypesOfPattern", fn := fun _ => fun
  | [d] => { results := [.lit (.bool false)], args := [d] }
  | _ => none }
def FnTypesOfPatternWrongFalsely : Prop := fnTypesOfPatternRow.holds Try.pinned (OpenSpec.ofChange fnTypesOfPatternWrong)

/-- 'laws.FnExactIndicesOf': WHATEVER THE INPUT: true; the input reads as it did. -/
def fnExactIndicesOfSpec : ChangeSpec := { name := "fnExactIndicesOf", fn := fun _ => fun
  | [d1, d2, d3] => { results := [.lit (.bool true)], args := [d1, d2, d3] }
  | _ => none }
def fnExactIndicesOfRow : OpenClaim := { program := "ytpimgoacljakgaa", sum := "49cb6603fc60480c458fc958b44823b69cdf3716431d1e3371e7bab79600e39d", func := "loop.example/matchcompiler/laws.FnExactIndicesOf", spec := "fnExactIndicesOf", unfollowed := true, recurses := true, loops := true, apart := false }
def FnExactIndicesOfSaid : Prop := fnExactIndicesOfRow.holds Try.pinned (OpenSpec.ofChange fnExactIndicesOfSpec)

/-- ITS FALSE NEIGHBOUR: 'it returns false'. Refute it at one input. -/
def fnExactIndicesOfWrong : ChangeSpec := { name := "fnExactIndicesOf", fn := fun _ => fun
  | [d1, d2, d3] => { results := [.lit (.bool false)], args := [d1, d2, d3] }
  | _ => none }
def FnExactIndicesOfWrongFalsely : Prop := fnExactIndicesOfRow.holds Try.pinned (OpenSpec.ofChange fnExactIndicesOfWrong)

/- THE SECOND FORM. 'bulk': how many values and letters a reading holds, each counted each time it is reached (what is shared counts as often as it is met; a slice's spare places count too). A statement '..UptoSaid' is the law's where the arguments, and the package variables that the reading takes, are together of bulk at most 1048576: NARROWER than '..Said'. Prove '..Said' where nothing that the law and all that it calls make is longer than what came in: it says more and counts as full. Else prove '..UptoSaid'. A law counts once. -/
mutual
def uptoBulk {H : Type} : DataW H → Nat
  | .lit (.string bytes) => bytes.length + 1
  | .lit _ => 1
  | .nil => 1
  | .ptr d => uptoBulk d + 1
  | .slice elems spare => uptoBulkAll elems + uptoBulkAll spare + 1
  | .agg parts => uptoBulkAll parts + 1
  | .iface _ d => uptoBulk d + 1
  | .map entries => uptoBulkEntries entries + 1
  | .held _ => 1
def uptoBulkAll {H : Type} : List (DataW H) → Nat
  | [] => 0
  | d :: r => uptoBulk d + uptoBulkAll r
def uptoBulkEntries {H : Type} : List (Lit × DataW H) → Nat
  | [] => 0
  | x :: r => uptoBulkEntry x + uptoBulkEntries r
def uptoBulkEntry {H : Type} : Lit × DataW H → Nat
  | (.string bytes, d) => bytes.length + uptoBulk d + 1
  | (_, d) => uptoBulk d + 1
 end
def uptoSmall : (H : Type) → List (DataW H) → Bool := fun _ ds => decide (uptoBulkAll ds ≤ 1048576)
def OpenSpec.upto (s : _root_.Go.ChangeSpec) : _root_.Go.OpenSpec := { _root_.Go.OpenSpec.ofChange s with cond := some uptoSmall }

/-- 'laws.FnAllTypes', WHERE WHAT IT READS IS OF BULK AT MOST 1048576: true; the input reads as it did. -/
def fnAllTypesUptoRow : OpenClaim := { program := "ytpimgoacljakgaa", sum := "49cb6603fc60480c458fc958b44823b69cdf3716431d1e3371e7bab79600e39d", func := "loop.example/matchcompiler/laws.FnAllTypes", spec := "fnAllTypes", unfollowed := true, recurses := true, apart := false, narrowed := true }
def FnAllTypesUptoSaid : Prop := fnAllTypesUptoRow.holds Try.pinned (OpenSpec.upto fnAllTypesSpec)

/-- 'laws.FnSameValues', WHERE WHAT IT READS IS OF BULK AT MOST 1048576: true; the input reads as it did. -/
def fnSameValuesUptoRow : OpenClaim := { program := "ytpimgoacljakgaa", sum := "49cb6603fc60480c458fc958b44823b69cdf3716431d1e3371e7bab79600e39d", func := "loop.example/matchcompiler/laws.FnSameValues", spec := "fnSameValues", unfollowed := true, recurses := true, apart := false, narrowed := true }
def FnSameValuesUptoSaid : Prop := fnSameValuesUptoRow.holds Try.pinned (OpenSpec.upto fnSameValuesSpec)

/-- 'laws.FnTypesOfValue', WHERE WHAT IT READS IS OF BULK AT MOST 1048576: true; the input reads as it did. -/
def fnTypesOfValueUptoRow : OpenClaim := { program := "ytpimgoacljakgaa", sum := "49cb6603fc60480c458fc958b44823b69cdf3716431d1e3371e7bab79600e39d", func := "loop.example/matchcompiler/laws.FnTypesOfValue", spec := "fnTypesOfValue", unfollowed := true, recurses := true, apart := false, narrowed := true }
def FnTypesOfValueUptoSaid : Prop := fnTypesOfValueUptoRow.holds Try.pinned (OpenSpec.upto fnTypesOfValueSpec)

/-- 'laws.FnExactNarrowType', WHERE WHAT IT READS IS OF BULK AT MOST 1048576: true; the input reads as it did. -/
def fnExactNarrowTypeUptoRow : OpenClaim := { program := "ytpimgoacljakgaa", sum := "49cb6603fc60480c458fc958b44823b69cdf3716431d1e3371e7bab79600e39d", func := "loop.example/matchcompiler/laws.FnExactNarrowType", spec := "fnExactNarrowType", unfollowed := true, recurses := true, loops := true, apart := false, narrowed := true }
def FnExactNarrowTypeUptoSaid : Prop := fnExactNarrowTypeUptoRow.holds Try.pinned (OpenSpec.upto fnExactNarrowTypeSpec)

/-- 'laws.FnIndicesLess', WHERE WHAT IT READS IS OF BULK AT MOST 1048576: true; the input reads as it did. -/
def fnIndicesLessUptoRow : OpenClaim := { program := "ytpimgoacljakgaa", sum := "49cb6603fc60480c458fc958b44823b69cdf3716431d1e3371e7bab79600e39d", func := "loop.example/matchcompiler/laws.FnIndicesLess", spec := "fnIndicesLess", unfollowed := true, recurses := true, apart := false, narrowed := true }
def FnIndicesLessUptoSaid : Prop := fnIndicesLessUptoRow.holds Try.pinned (OpenSpec.upto fnIndicesLessSpec)

/-- 'laws.FnNarrowAgain', WHERE WHAT IT READS IS OF BULK AT MOST 1048576: true; the input reads as it did. -/
def fnNarrowAgainUptoRow : OpenClaim := { program := "ytpimgoacljakgaa", sum := "49cb6603fc60480c458fc958b44823b69cdf3716431d1e3371e7bab79600e39d", func := "loop.example/matchcompiler/laws.FnNarrowAgain", spec := "fnNarrowAgain", unfollowed := true, recurses := true, apart := false, narrowed := true }
def FnNarrowAgainUptoSaid : Prop := fnNarrowAgainUptoRow.holds Try.pinned (OpenSpec.upto fnNarrowAgainSpec)

/-- 'laws.FnTypesOfPattern', WHERE WHAT IT READS IS OF BULK AT MOST 1048576: true; the input reads as it did. -/
def fnTypesOfPatternUptoRow : OpenClaim := { program := "ytpimgoacljakgaa", sum := "49cb6603fc60480c458fc958b44823b69cdf3716431d1e3371e7bab79600e39d", func := "loop.example/matchcompiler/laws.FnTypesOfPattern", spec := "fnTypesOfPattern", unfollowed := true, recurses := true, apart := false, narrowed := true }
def FnTypesOfPatternUptoSaid : Prop := fnTypesOfPatternUptoRow.holds Try.pinned (OpenSpec.upto fnTypesOfPatternSpec)

/-- 'laws.FnExactIndicesOf', WHERE WHAT IT READS IS OF BULK AT MOST 1048576: true; the input reads as it did. -/
def fnExactIndicesOfUptoRow : OpenClaim := { program := "ytpimgoacljakgaa", sum := "49cb6603fc60480c458fc958b44823b69cdf3716431d1e3371e7bab79600e39d", func := "loop.example/matchcompiler/laws.FnExactIndicesOf", spec := "fnExactIndicesOf", unfollowed := true, recurses := true, loops := true, apart := false, narrowed := true }
def FnExactIndicesOfUptoSaid : Prop := fnExactIndicesOfUptoRow.holds Try.pinned (OpenSpec.upto fnExactIndicesOfSpec)

end Rows
end Go.Proofs.Ytpimgoacljakgaa
