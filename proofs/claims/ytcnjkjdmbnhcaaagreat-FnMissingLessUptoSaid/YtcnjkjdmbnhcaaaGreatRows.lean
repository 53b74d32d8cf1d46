/-
  NARROWER THAN 'FOR EVERY INPUT', by the rows' own cells (each row's printed sentence says how): FnExactClosedClauses: loops · FnExactMissingValue: loops · FnExactSwapClauses: loops.
  DERIVED. THE GIVEN ROWS OF THIS SEAT. 8 by the template 'for every input the law returns true; each argument reads behind the call as it read before'; 0 by the template 'total and deterministic' (their statements: YtcnjkjdmbnhcaaaGreatTotals.lean).
  GIVEN WITH THE SEED: the statements are not yours to turn. If you find one false, say at which input.
  Laid BY PROGRAM, IN A SANDBOX (cutbox-rows.mjs): the forced cells as the released guide's own fill.sh prints them over the translation 69a4428da22434bf… (all of the seat's roots in one cut). By AI agents, Wed Nov 11 2026. No macro, syntax, notation, axiom, sorry.
-/
import Derived.Test.YtcnjkjdmbnhcaaaGreatChecked
import GoSem.Claim
import GoSem.ClaimJoined
import GoSem.ClaimMapViews
import Derived.JoinedTies
import Derived.KernelRfl
namespace Go.Proofs.YtcnjkjdmbnhcaaaGreat
/- THE CELL 'sum', in the pinned program and in every row, IS THE sha256 OF THE DUMP (.gsa) THAT YtcnjkjdmbnhcaaaGreatProg.lean LOADS. Nothing in Lean hashes anything: it is a label: what it is worth is what the hold of that sum in a sandbox is worth. -/
noncomputable def Tryz.pinned : Pinned := { name := "ytcnjkjdmbnhcaaagreat", sum := "69a4428da22434bf6d3e911c73e1721456aa60124da36fa2777016d199cff520", checked := Tryz.checked }
namespace Rows
def none {H : Type} : Left H := { results := [], args := [] }

/-- 'laws.FnExactClosedClauses': WHATEVER THE INPUT: true; the input reads as it did. -/
def fnExactClosedClausesSpec : ChangeSpec := { name := "fnExactClosedClauses", fn := fun _ => fun
  | [d1, d2, d3] => { results := [.lit (.bool true)], args := [d1, d2, d3] }
  | _ => none }
def fnExactClosedClausesRow : OpenClaim := { program := "ytcnjkjdmbnhcaaagreat", sum := "69a4428da22434bf6d3e911c73e1721456aa60124da36fa2777016d199cff520", func := "loop.example/matchcompiler/laws.FnExactClosedClauses", spec := "fnExactClosedClauses", unfollowed := true, recurses := true, loops := true, apart := false }
def FnExactClosedClausesSaid : Prop := fnExactClosedClausesRow.holds Tryz.pinned (OpenSpec.ofChange fnExactClosedClausesSpec)

/-- ITS FALSE NEIGHBOUR: 'it returns false'. Refute it at one input. -/
def fnExactClosedClausesWrong : ChangeSpec := { name := "fnExactClosedClauses", fn := fun _ => fun
  | [d1, d2, d3] => { results := [.lit (.bool false)], args := [d1, d2, d3] }
  | _ => none }
def FnExactClosedClausesWrongFalsely : Prop := fnExactClosedClausesRow.holds Tryz.pinned (OpenSpec.ofChange fnExactClosedClausesWrong)

/-- 'laws.FnClosedTwice': WHATEVER THE INPUT: true; the input reads as it did. -/
def fnClosedTwiceSpec : ChangeSpec := { name := "fnClosedTwice", fn := fun _ => fun
  | [d] => { results := [.lit (.bool true)], args := [d] }
  | _ => none }
def fnClosedTwiceRow : OpenClaim := { program := "ytcnjkjdmbnhcaaagreat", sum := "69a4428da22434bf6d3e911c73e1721456aa60124da36fa2777016d199cff520", func := "loop.example/matchcompiler/laws.FnClosedTwice", spec := "fnClosedTwice", unfollowed := true, recurses := true, apart := false }
def FnClosedTwiceSaid : Prop := fnClosedTwiceRow.holds Tryz.pinned (OpenSpec.ofChange fnClosedTwiceSpec)

/-- ITS FALSE NEIGHBOUR: 'it returns false'. Refute it at one input. -/
def fnClosedTwiceWrong : ChangeSpec := { name := "fnClosedTwice", fn := fun _ => fun
  | [d] => { results := [.lit (.bool false)], args := [d] }
  | _ => none }
def FnClosedTwiceWrongFalsely : Prop := fnClosedTwiceRow.holds Tryz.pinned (OpenSpec.ofChange fnClosedTwiceWrong)

/-- 'laws.FnMissingPatterns': WHATEVER THE INPUT: true; the input reads as it did. -/
def fnMissingPatternsSpec : ChangeSpec := { name := "fnMissingPatterns", fn := fun _ => fun
  | [d1, d2] => { results := [.lit (.bool true)], args := [d1, d2] }
  | _ => none }
def fnMissingPatternsRow : OpenClaim := { program := "ytcnjkjdmbnhcaaagreat", sum := "69a4428da22434bf6d3e911c73e1721456aa60124da36fa2777016d199cff520", func := "loop.example/matchcompiler/laws.FnMissingPatterns", spec := "fnMissingPatterns", unfollowed := true, recurses := true, apart := false }
def FnMissingPatternsSaid : Prop := fnMissingPatternsRow.holds Tryz.pinned (OpenSpec.ofChange fnMissingPatternsSpec)

/-- ITS FALSE NEIGHBOUR: 'it returns false'. Refute it at one input. -/
def fnMissingPatternsWrong : ChangeSpec := { name := "fnMissingPatterns", fn := fun _ => fun
  | [d1, d2] => { results := [.lit (.bool false)], args := [d1, d2] }
  | _ => none }
def FnMissingPatternsWrongFalsely : Prop := fnMissingPatternsRow.holds Tryz.pinned (OpenSpec.ofChange fnMissingPatternsWrong)

/-- 'laws.FnMissingLess': WHATEVER THE INPUT: true; the input reads as it did. -/
def fnMissingLessSpec : ChangeSpec := { name := "fnMissingLess", fn := fun _ => fun
  | [d1, d2] => { results := [.lit (.bool true)], args := [d1, d2] }
  | _ => none }
def fnMissingLessRow : OpenClaim := { program := "ytcnjkjdmbnhcaaagreat", sum := "69a4428da22434bf6d3e911c73e1721456aa60124da36fa2777016d199cff520", func := "loop.example/matchcompiler/laws.FnMissingLess", spec := "fnMissingLess", unfollowed := true, recurses := true, apart := false }
def FnMissingLessSaid : Prop := fnMissingLessRow.holds Tryz.pinned (OpenSpec.ofChange fnMissingLessSpec)

/-- ITS FALSE NEIGHBOUR: 'it returns false'. Refute it at one input. -/
def fnMissingLessWrong : ChangeSpec := { name := "fnMissingLess", fn := fun _ => fun
  | [d1, d2] => { results := [.lit (.bool false)], args := [d1, d2] }
  | _ => none }
def FnMissingLessWrongFalsely : Prop := fnMissingLessRow.holds Tryz.pinned (OpenSpec.ofChange fnMissingLessWrong)

/-- 'laws.FnTotalClauses': WHATEVER THE INPUT: true; the input reads as it did. -/
def fnTotalClausesSpec : ChangeSpec := { name := "fnTotalClauses", fn := fun _ => fun
  | [d] => { results := [.lit (.bool true)], args := [d] }
  | _ => none }
def fnTotalClausesRow : OpenClaim := { program := "ytcnjkjdmbnhcaaagreat", sum := "69a4428da22434bf6d3e911c73e1721456aa60124da36fa2777016d199cff520", func := "loop.example/matchcompiler/laws.FnTotalClauses", spec := "fnTotalClauses", unfollowed := true, recurses := true, apart := false }
def FnTotalClausesSaid : Prop := fnTotalClausesRow.holds Tryz.pinned (OpenSpec.ofChange fnTotalClausesSpec)

/-- ITS FALSE NEIGHBOUR: 'it returns false'. Refute it at one input. -/
def fnTotalClausesWrong : ChangeSpec := { name := "fnTotalClauses", fn := fun _ => fun
  | [d] => { results := [.lit (.bool false)], args := [d] }
  | _ => none }
def FnTotalClausesWrongFalsely : Prop := fnTotalClausesRow.holds Tryz.pinned (OpenSpec.ofChange fnTotalClausesWrong)

/-- 'laws.FnExactMissingValue': WHATEVER THE INPUT: true; the input reads as it did. -/
def fnExactMissingValueSpec : ChangeSpec := { name := "fnExactMissingValue", fn := fun _ => fun
  | [d1, d2, d3] => { results := [.lit (.bool true)], args := [d1, d2, d3] }
  | _ => none }
def fnExactMissingValueRow : OpenClaim := { program := "ytcnjkjdmbnhcaaagreat", sum := "69a4428da22434bf6d3e911c73e1721456aa60124da36fa2777016d199cff520", func := "loop.example/matchcompiler/laws.FnExactMissingValue", spec := "fnExactMissingValue", unfollowed := true, recurses := true, loops := true, apart := false }
def FnExactMissingValueSaid : Prop := fnExactMissingValueRow.holds Tryz.pinned (OpenSpec.ofChange fnExactMissingValueSpec)

/-- ITS FALSE NEIGHBOUR: 'it returns false'. Refute it at one input. -/
def fnExactMissingValueWrong : ChangeSpec := { name := "fnExactMissingValue", fn := fun _ => fun
  | [d1, d2, d3] => { results := [.lit (.bool false)], args := [d1, d2, d3] }
  | _ => none }
def FnExactMissingValueWrongFalsely : Prop := fnExactMissingValueRow.holds Tryz.pinned (OpenSpec.ofChange fnExactMissingValueWrong)

/-- 'laws.FnMissingValue': WHATEVER THE INPUT: true; the input reads as it did. -/
def fnMissingValueSpec : ChangeSpec := { name := "fnMissingValue", fn := fun _ => fun
  | [d] => { results := [.lit (.bool true)], args := [d] }
  | _ => none }
def fnMissingValueRow : OpenClaim := { program := "ytcnjkjdmbnhcaaagreat", sum := "69a4428da22434bf6d3e911c73e1721456aa60124da36fa2777016d199cff520", func := "loop.example/matchcompiler/laws.FnMissingValue", spec := "fnMissingValue", unfollowed := true, recurses := true, apart := false }
def FnMissingValueSaid : Prop := fnMissingValueRow.holds Tryz.pinned (OpenSpec.ofChange fnMissingValueSpec)

/-- ITS FALSE NEIGHBOUR: 'it returns false'. Refute it at one input. -/
def fnMissingValueWrong : ChangeSpec := { name := "fnMissingValue", fn := fun _ => fun
  | [d] => { results := [.lit (.bool false)], args := [d] }
  | _ => none }
def FnMissingValueWrongFalsely : Prop := fnMissingValueRow.holds Tryz.pinned (OpenSpec.ofChange fnMissingValueWrong)

/-- 'laws.FnExactSwapClauses': WHATEVER THE INPUT: true; the input reads as it did. -/
def fnExactSwapClausesSpec : ChangeSpec := { name := "fnExactSwapClauses", fn := fun _ => fun
  | [d1, d2, d3, d4] => { results := [.lit (.bool true)], args := [d1, d2, d3, d4] }
  | _ => none }
def fnExactSwapClausesRow : OpenClaim := { program := "ytcnjkjdmbnhcaaagreat", sum := "69a4428da22434bf6d3e911c73e1721456aa60124da36fa2777016d199cff520", func := "loop.example/matchcompiler/laws.FnExactSwapClauses", spec := "fnExactSwapClauses", unfollowed := true, recurses := true, loops := true, apart := false }
def FnExactSwapClausesSaid : Prop := fnExactSwapClausesRow.holds Tryz.pinned (OpenSpec.ofChange fnExactSwapClausesSpec)

/-- ITS FALSE NEIGHBOUR: 'it returns false'. Refute it at one input. -/
def fnExactSwapClausesWrong : ChangeSpec := { name := "fnExactSwapClauses", fn := fun _ => fun
  | [d1, d2, d3, d4] => { results := [.lit (.bool false)], args := [d1, d2, d3, d4] }
  | _ => none }
def FnExactSwapClausesWrongFalsely : Prop := fnExactSwapClausesRow.holds Tryz.pinned (OpenSpec.ofChange fnExactSwapClausesWrong)

/- THE SECOND FORM. 'bulk': how many values and letters a reading holds, each counted each time it is reached (what is shared counts as often as it is met; a slice's spare places count too). A statement '..UptoSaid' is the law's where the arguments, and the package variables that the reading takes, are together of bulk at most 1048576: NARROWER than '..Said'. Prove '..Said' where nothing that the law and all that it calls make is longer than what came in: it says more and counts as full. Else prove '..UptoSaid'. A law counts once. -/
mutual
def uptoBulk {H : Type} : DataW H → Nat
  | .lit (.string bytes) => bytes.length + 1
  | .lit _ => 1
  | .nil => 1
  | .ptr d => uptoBulk d + 1
  | .slice elems spare => uptoBulkAll elems + uptoBulkAll spare + 1
  | .agg parts => uptoBulkAll parts + 1
  | .iface _ d => uptoBulk d + 1
  | .map entries => uptoBulkEntries entries + 1
  | .held _ => 1
def uptoBulkAll {H : Type} : List (DataW H) → Nat
  | [] => 0
  | d :: r => uptoBulk d + uptoBulkAll r
def uptoBulkEntries {H : Type} : List (Lit × DataW H) → Nat
  | [] => 0
  | x :: r => uptoBulkEntry x + uptoBulkEntries r
def uptoBulkEntry {H : Type} : Lit × DataW H → Nat
  | (.string bytes, d) => bytes.length + uptoBulk d + 1
  | (_, d) => uptoBulk d + 1
 end
def uptoSmall : (H : Type) → List (DataW H) → Bool := fun _ ds => decide (uptoBulkAll ds ≤ 1048576)
def OpenSpec.upto (s : _root_.Go.ChangeSpec) : _root_.Go.OpenSpec := { _root_.Go.OpenSpec.ofChange s with cond := some uptoSmall }

/-- 'laws.FnExactClosedClauses', WHERE WHAT IT READS IS OF BULK AT MOST 1048576: true; the input reads as it did. -/
def fnExactClosedClausesUptoRow : OpenClaim := { program := "ytcnjkjdmbnhcaaagreat", sum := "69a4428da22434bf6d3e911c73e1721456aa60124da36fa2777016d199cff520", func := "loop.example/matchcompiler/laws.FnExactClosedClauses", spec := "fnExactClosedClauses", unfollowed := true, recurses := true, loops := true, apart := false, narrowed := true }
def FnExactClosedClausesUptoSaid : Prop := fnExactClosedClausesUptoRow.holds Tryz.pinned (OpenSpec.upto fnExactClosedClausesSpec)

/-- 'laws.FnClosedTwice', WHERE WHAT IT READS IS OF BULK AT MOST 1048576: true; the input reads as it did. -/
def fnClosedTwiceUptoRow : OpenClaim := { program := "ytcnjkjdmbnhcaaagreat", sum := "69a4428da22434bf6d3e911c73e1721456aa60124da36fa2777016d199cff520", func := "loop.example/matchcompiler/laws.FnClosedTwice", spec := "fnClosedTwice", unfollowed := true, recurses := true, apart := false, narrowed := true }
def FnClosedTwiceUptoSaid : Prop := fnClosedTwiceUptoRow.holds Tryz.pinned (OpenSpec.upto fnClosedTwiceSpec)

/-- 'laws.FnMissingPatterns', WHERE WHAT IT READS IS OF BULK AT MOST 1048576: true; the input reads as it did. -/
def fnMissingPatternsUptoRow : OpenClaim := { program := "ytcnjkjdmbnhcaaagreat", sum := "69a4428da22434bf6d3e911c73e1721456aa60124da36fa2777016d199cff520", func := "loop.example/matchcompiler/laws.FnMissingPatterns", spec := "fnMissingPatterns", unfollowed := true, recurses := true, apart := false, narrowed := true }
def FnMissingPatternsUptoSaid : Prop := fnMissingPatternsUptoRow.holds Tryz.pinned (OpenSpec.upto fnMissingPatternsSpec)

/-- 'laws.FnMissingLess', WHERE WHAT IT READS IS OF BULK AT MOST 1048576: true; the input reads as it did. -/
def fnMissingLessUptoRow : OpenClaim := { program := "ytcnjkjdmbnhcaaagreat", sum := "69a4428da22434bf6d3e911c73e1721456aa60124da36fa2777016d199cff520", func := "loop.example/matchcompiler/laws.FnMissingLess", spec := "fnMissingLess", unfollowed := true, recurses := true, apart := false, narrowed := true }
def FnMissingLessUptoSaid : Prop := fnMissingLessUptoRow.holds Tryz.pinned (OpenSpec.upto fnMissingLessSpec)

/-- 'laws.FnTotalClauses', WHERE WHAT IT READS IS OF BULK AT MOST 1048576: true; the input reads as it did. -/
def fnTotalClausesUptoRow : OpenClaim := { program := "ytcnjkjdmbnhcaaagreat", sum := "69a4428da22434bf6d3e911c73e1721456aa60124da36fa2777016d199cff520", func := "loop.example/matchcompiler/laws.FnTotalClauses", spec := "fnTotalClauses", unfollowed := true, recurses := true, apart := false, narrowed := true }
def FnTotalClausesUptoSaid : Prop := fnTotalClausesUptoRow.holds Tryz.pinned (OpenSpec.upto fnTotalClausesSpec)

/-- 'laws.FnExactMissingValue', WHERE WHAT IT READS IS OF BULK AT MOST 1048576: true; the input reads as it did. -/
def fnExactMissingValueUptoRow : OpenClaim := { program := "ytcnjkjdmbnhcaaagreat", sum := "69a4428da22434bf6d3e911c73e1721456aa60124da36fa2777016d199cff520", func := "loop.example/matchcompiler/laws.FnExactMissingValue", spec := "fnExactMissingValue", unfollowed := true, recurses := true, loops := true, apart := false, narrowed := true }
def FnExactMissingValueUptoSaid : Prop := fnExactMissingValueUptoRow.holds Tryz.pinned (OpenSpec.upto fnExactMissingValueSpec)

/-- 'laws.FnMissingValue', WHERE WHAT IT READS IS OF BULK AT MOST 1048576: true; the input reads as it did. -/
def fnMissingValueUptoRow : OpenClaim := { program := "ytcnjkjdmbnhcaaagreat", sum := "69a4428da22434bf6d3e911c73e1721456aa60124da36fa2777016d199cff520", func := "loop.example/matchcompiler/laws.FnMissingValue", spec := "fnMissingValue", unfollowed := true, recurses := true, apart := false, narrowed := true }
def FnMissingValueUptoSaid : Prop := fnMissingValueUptoRow.holds Tryz.pinned (OpenSpec.upto fnMissingValueSpec)

/-- 'laws.FnExactSwapClauses', WHERE WHAT IT READS IS OF BULK AT MOST 1048576: true; the input reads as it did. -/
def fnExactSwapClausesUptoRow : OpenClaim := { program := "ytcnjkjdmbnhcaaagreat", sum := "69a4428da22434bf6d3e911c73e1721456aa60124da36fa2777016d199cff520", func := "loop.example/matchcompiler/laws.FnExactSwapClauses", spec := "fnExactSwapClauses", unfollowed := true, recurses := true, loops := true, apart := false, narrowed := true }
def FnExactSwapClausesUptoSaid : Prop := fnExactSwapClausesUptoRow.holds Tryz.pinned (OpenSpec.upto fnExactSwapClausesSpec)

end Rows
end Go.Proofs.YtcnjkjdmbnhcaaaGreat
