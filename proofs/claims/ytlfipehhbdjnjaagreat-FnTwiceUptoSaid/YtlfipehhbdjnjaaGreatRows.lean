/-
  NARROWER THAN 'FOR EVERY INPUT', by the rows' own cells (each row's printed sentence says how): FnExactMissingValue: loops · FnExactSwapClauses: loops · FnExactRunClauses: loops · FnExactStepsCost: loops.
  DERIVED. THE GIVEN ROWS OF THIS SEAT. 8 by the template 'for every input the law returns true; each argument reads behind the call as it read before'; 0 by the template 'total and deterministic' (their statements: YtlfipehhbdjnjaaGreatTotals.lean).
  GIVEN WITH THE SEED: the statements are not yours to turn. If you find one false, say at which input.
  Laid BY PROGRAM, IN A SANDBOX (cutbox-rows.mjs): the forced cells as the released guide's own fill.sh prints them over the translation d1b38c26ac043e6e… (all of the seat's roots in one cut). By AI agents, Wed Nov 11 2026. No macro, syntax, notation, axiom, sorry.
-/
import Derived.Test.YtlfipehhbdjnjaaGreatChecked
import GoSem.Claim
import GoSem.ClaimJoined
import GoSem.ClaimMapViews
import Derived.JoinedTies
import Derived.KernelRfl
namespace Go.Proofs.YtlfipehhbdjnjaaGreat
/- THE CELL 'sum', in the pinned program and in every row, IS THE sha256 OF THE DUMP (.gsa) THAT YtlfipehhbdjnjaaGreatProg.lean LOADS. Nothing in Lean hashes anything: it is a label: what it is worth is what the hold of that sum in a sandbox is worth. -/
noncomputable def Tryz.pinned : Pinned := { name := "ytlfipehhbdjnjaagreat", sum := "d1b38c26ac043e6eb7c3553d2d8f1cc881b3c088f0fb5c1b1c9148b56a36f820", checked := Tryz.checked }
namespace Rows
def none {H : Type} : Left H := { results := [], args := [] }

/-- 'laws.FnTwice': WHATEVER THE INPUT: true; the input reads as it did. -/
def fnTwiceSpec : ChangeSpec := { name := "fnTwice", fn := fun _ => fun
  | [d] => { results := [.lit (.bool true)], args := [d] }
  | _ => none }
def fnTwiceRow : OpenClaim := { program := "ytlfipehhbdjnjaagreat", sum := "d1b38c26ac043e6eb7c3553d2d8f1cc881b3c088f0fb5c1b1c9148b56a36f820", func := "loop.example/matchcompiler/laws.FnTwice", spec := "fnTwice", unfollowed := true, recurses := true, apart := false }
def FnTwiceSaid : Prop := fnTwiceRow.holds Tryz.pinned (OpenSpec.ofChange fnTwiceSpec)

/-- ITS FALSE NEIGHBOUR: 'it returns false'. Refute it at one input. -/
def fnTwiceWrong : ChangeSpec := { name := "fnTwice", fn := fun _ => fun
  | [d] => { results := [.lit (.bool false)], args := [d] }
  | _ => none }
def FnTwiceWrongFalsely : Prop := fnTwiceRow.holds Tryz.pinned (OpenSpec.ofChange fnTwiceWrong)

/-- 'laws.FnWithinPattern': WHATEVER THE INPUT: true; the input reads as it did. -/
def fnWithinPatternSpec : ChangeSpec := { name := "fnWithinPattern", fn := fun _ => fun
  | [d] => { results := [.lit (.bool true)], args := [d] }
  | _ => none }
def fnWithinPatternRow : OpenClaim := { program := "ytlfipehhbdjnjaagreat", sum := "d1b38c26ac043e6eb7c3553d2d8f1cc881b3c088f0fb5c1b1c9148b56a36f820", func := "loop.example/matchcompiler/laws.FnWithinPattern", spec := "fnWithinPattern", unfollowed := true, recurses := true, apart := false }
def FnWithinPatternSaid : Prop := fnWithinPatternRow.holds Tryz.pinned (OpenSpec.ofChange fnWithinPatternSpec)

/-- ITS FALSE NEIGHBOUR: 'it returns false'. Refute it at one input. -/
def fnWithinPatternWrong : ChangeSpec := { name := "fnWithinPattern", fn := fun _ => fun
  | [d] => { results := [.lit (.bool false)], args := [d] }
  | _ => none }
def FnWithinPatternWrongFalsely : Prop := fnWithinPatternRow.holds Tryz.pinned (OpenSpec.ofChange fnWithinPatternWrong)

/-- 'laws.FnMissingValue': WHATEVER THE INPUT: true; the input reads as it did. -/
def fnMissingValueSpec : ChangeSpec := { name := "fnMissingValue", fn := fun _ => fun
  | [d] => { results := [.lit (.bool true)], args := [d] }
  | _ => none }
def fnMissingValueRow : OpenClaim := { program := "ytlfipehhbdjnjaagreat", sum := "d1b38c26ac043e6eb7c3553d2d8f1cc881b3c088f0fb5c1b1c9148b56a36f820", func := "loop.example/matchcompiler/laws.FnMissingValue", spec := "fnMissingValue", unfollowed := true, recurses := true, apart := false }
def FnMissingValueSaid : Prop := fnMissingValueRow.holds Tryz.pinned (OpenSpec.ofChange fnMissingValueSpec)

/-- ITS FALSE NEIGHBOUR: 'it returns false'. Refute it at one input. -/
def fnMissingValueWrong : ChangeSpec := { name := "fnMissingValue", fn := fun _ => fun
  | [d] => { results := [.lit (.bool false)], args := [d] }
  | _ => none }
def FnMissingValueWrongFalsely : Prop := fnMissingValueRow.holds Tryz.pinned (OpenSpec.ofChange fnMissingValueWrong)

/-- 'laws.FnExactMissingValue': WHATEVER THE INPUT: true; the input reads as it did. -/
def fnExactMissingValueSpec : ChangeSpec := { name := "fnExactMissingValue", fn := fun _ => fun
  | [d1, d2, d3] => { results := [.lit (.bool true)], args := [d1, d2, d3] }
  | _ => none }
def fnExactMissingValueRow : OpenClaim := { program := "ytlfipehhbdjnjaagreat", sum := "d1b38c26ac043e6eb7c3553d2d8f1cc881b3c088f0fb5c1b1c9148b56a36f820", func := "loop.example/matchcompiler/laws.FnExactMissingValue", spec := "fnExactMissingValue", unfollowed := true, recurses := true, loops := true, apart := false }
def FnExactMissingValueSaid : Prop := fnExactMissingValueRow.holds Tryz.pinned (OpenSpec.ofChange fnExactMissingValueSpec)

/-- ITS FALSE NEIGHBOUR: 'it returns false'. Refute it at one input. -/
def fnExactMissingValueWrong : ChangeSpec := { name := "fnExactMissingValue", fn := fun _ => fun
  | [d1, d2, d3] => { results := [.lit (.bool false)], args := [d1, d2, d3] }
  | _ => none }
def FnExactMissingValueWrongFalsely : Prop := fnExactMissingValueRow.holds Tryz.pinned (OpenSpec.ofChange fnExactMissingValueWrong)

/-- 'laws.FnTotalClauses': WHATEVER THE INPUT: true; the input reads as it did. -/
def fnTotalClausesSpec : ChangeSpec := { name := "fnTotalClauses", fn := fun _ => fun
  | [d] => { results := [.lit (.bool true)], args := [d] }
  | _ => none }
def fnTotalClausesRow : OpenClaim := { program := "ytlfipehhbdjnjaagreat", sum := "d1b38c26ac043e6eb7c3553d2d8f1cc881b3c088f0fb5c1b1c9148b56a36f820", func := "loop.example/matchcompiler/laws.FnTotalClauses", spec := "fnTotalClauses", unfollowed := true, recurses := true, apart := false }
def FnTotalClausesSaid : Prop := fnTotalClausesRow.holds Tryz.pinned (OpenSpec.ofChange fnTotalClausesSpec)

/-- ITS FALSE NEIGHBOUR: 'it returns false'. Refute it at one input. -/
def fnTotalClausesWrong : ChangeSpec := { name := "fnTotalClauses", fn := fun _ => fun
  | [d] => { results := [.lit (.bool false)], args := [d] }
  | _ => none }
def FnTotalClausesWrongFalsely : Prop := fnTotalClausesRow.holds Tryz.pinned (OpenSpec.ofChange fnTotalClausesWrong)

/-- 'laws.FnExactSwapClauses': WHATEVER THE INPUT: true; the input reads as it did. -/
def fnExactSwapClausesSpec : ChangeSpec := { name := "fnExactSwapClauses", fn := fun _ => fun
  | [d1, d2, d3, d4] => { results := [.lit (.bool true)], args := [d1, d2, d3, d4] }
  | _ => none }
def fnExactSwapClausesRow : OpenClaim := { program := "ytlfipehhbdjnjaagreat", sum := "d1b38c26ac043e6eb7c3553d2d8f1cc881b3c088f0fb5c1b1c9148b56a36f820", func := "loop.example/matchcompiler/laws.FnExactSwapClauses", spec := "fnExactSwapClauses", unfollowed := true, recurses := true, loops := true, apart := false }
def FnExactSwapClausesSaid : Prop := fnExactSwapClausesRow.holds Tryz.pinned (OpenSpec.ofChange fnExactSwapClausesSpec)

/-- ITS FALSE NEIGHBOUR: 'it returns false'. Refute it at one input. -/
def fnExactSwapClausesWrong : ChangeSpec := { name := "fnExactSwapClauses", fn := fun _ => fun
  | [d1, d2, d3, d4] => { results := [.lit (.bool false)], args := [d1, d2, d3, d4] }
  | _ => none }
def FnExactSwapClausesWrongFalsely : Prop := fnExactSwapClausesRow.holds Tryz.pinned (OpenSpec.ofChange fnExactSwapClausesWrong)

/-- 'laws.FnExactRunClauses': WHATEVER THE INPUT: true; the input reads as it did. -/
def fnExactRunClausesSpec : ChangeSpec := { name := "fnExactRunClauses", fn := fun _ => fun
  | [d1, d2, d3, d4] => { results := [.lit (.bool true)], args := [d1, d2, d3, d4] }
  | _ => none }
def fnExactRunClausesRow : OpenClaim := { program := "ytlfipehhbdjnjaagreat", sum := "d1b38c26ac043e6eb7c3553d2d8f1cc881b3c088f0fb5c1b1c9148b56a36f820", func := "loop.example/matchcompiler/laws.FnExactRunClauses", spec := "fnExactRunClauses", unfollowed := true, recurses := true, loops := true, apart := false }
def FnExactRunClausesSaid : Prop := fnExactRunClausesRow.holds Tryz.pinned (OpenSpec.ofChange fnExactRunClausesSpec)

/-- ITS FALSE NEIGHBOUR: 'it returns false'. Refute it at one input. -/
def fnExactRunClausesWrong : ChangeSpec := { name := "fnExactRunClauses", fn := fun _ => fun
  | [d1, d2, d3, d4] => { results := [.lit (.bool false)], args := [d1, d2, d3, d4] }
  | _ => none }
def FnExactRunClausesWrongFalsely : Prop := fnExactRunClausesRow.holds Tryz.pinned (OpenSpec.ofChange fnExactRunClausesWrong)

/-- 'laws.FnExactStepsCost': WHATEVER THE INPUT: true; the input reads as it did. -/
def fnExactStepsCostSpec : ChangeSpec := { name := "fnExactStepsCost", fn := fun _ => fun
  | [d1, d2, d3, d4] => { results := [.lit (.bool true)], args := [d1, d2, d3, d4] }
  | _ => none }
def fnExactStepsCostRow : OpenClaim := { program := "ytlfipehhbdjnjaagreat", sum := "d1b38c26ac043e6eb7c3553d2d8f1cc881b3c088f0fb5c1b1c9148b56a36f820", func := "loop.example/matchcompiler/laws.FnExactStepsCost", spec := "fnExactStepsCost", unfollowed := true, recurses := true, loops := true, apart := false }
def FnExactStepsCostSaid : Prop := fnExactStepsCostRow.holds Tryz.pinned (OpenSpec.ofChange fnExactStepsCostSpec)

/-- ITS FALSE NEIGHBOUR: 'it returns false'. Refute it at one input. -/
def fnExactStepsCostWrong : ChangeSpec := { name := "fnExactStepsCost", fn := fun _ => fun
  | [d1, d2, d3, d4] => { results := [.lit (.bool false)], args := [d1, d2, d3, d4] }
  | _ => none }
def FnExactStepsCostWrongFalsely : Prop := fnExactStepsCostRow.holds Tryz.pinned (OpenSpec.ofChange fnExactStepsCostWrong)

/- THE SECOND FORM. 'bulk': how many values and letters a reading holds, each counted each time it is reached (what is shared counts as often as it is met; a slice's spare places count too). A statement '..UptoSaid' is the law's where the arguments, and the package variables that the reading takes, are together of bulk at most 1048576: NARROWER than '..Said'. Prove '..Said' where nothing that the law and all that it calls make is longer than what came in: it says more and counts as full. Else prove '..UptoSaid'. A law counts once. -/
mutual
def uptoBulk {H : Type} : DataW H → Nat
  | .lit (.string bytes) => bytes.length + 1
  | .lit _ => 1
  | .nil => 1
  | .ptr d => uptoBulk d + 1
  | .slice elems spare => uptoBulkAll elems + uptoBulkAll spare + 1
  | .agg parts => uptoBulkAll parts + 1
  | .iface _ d => uptoBulk d + 1
  | .map entries => uptoBulkEntries entries + 1
  | .held _ => 1
def uptoBulkAll {H : Type} : List (DataW H) → Nat
  | [] => 0
  | d :: r => uptoBulk d + uptoBulkAll r
def uptoBulkEntries {H : Type} : List (Lit × DataW H) → Nat
  | [] => 0
  | x :: r => uptoBulkEntry x + uptoBulkEntries r
def uptoBulkEntry {H : Type} : Lit × DataW H → Nat
  | (.string bytes, d) => bytes.length + uptoBulk d + 1
  | (_, d) => uptoBulk d + 1
 end
def uptoSmall : (H : Type) → List (DataW H) → Bool := fun _ ds => decide (uptoBulkAll ds ≤ 1048576)
def OpenSpec.upto (s : _root_.Go.ChangeSpec) : _root_.Go.OpenSpec := { _root_.Go.OpenSpec.ofChange s with cond := some uptoSmall }

/-- 'laws.FnTwice', WHERE WHAT IT READS IS OF BULK AT MOST 1048576: true; the input reads as it did. -/
def fnTwiceUptoRow : OpenClaim := { program := "ytlfipehhbdjnjaagreat", sum := "d1b38c26ac043e6eb7c3553d2d8f1cc881b3c088f0fb5c1b1c9148b56a36f820", func := "loop.example/matchcompiler/laws.FnTwice", spec := "fnTwice", unfollowed := true, recurses := true, apart := false, narrowed := true }
def FnTwiceUptoSaid : Prop := fnTwiceUptoRow.holds Tryz.pinned (OpenSpec.upto fnTwiceSpec)

/-- 'laws.FnWithinPattern', WHERE WHAT IT READS IS OF BULK AT MOST 1048576: true; the input reads as it did. -/
def fnWithinPatternUptoRow : OpenClaim := { program := "ytlfipehhbdjnjaagreat", sum := "d1b38c26ac043e6eb7c3553d2d8f1cc881b3c088f0fb5c1b1c9148b56a36f820", func := "loop.example/matchcompiler/laws.FnWithinPattern", spec := "fnWithinPattern", unfollowed := true, recurses := true, apart := false, narrowed := true }
def FnWithinPatternUptoSaid : Prop := fnWithinPatternUptoRow.holds Tryz.pinned (OpenSpec.upto fnWithinPatternSpec)

/-- 'laws.FnMissingValue', WHERE WHAT IT READS IS OF BULK AT MOST 1048576: true; the input reads as it did. -/
def fnMissingValueUptoRow : OpenClaim := { program := "ytlfipehhbdjnjaagreat", sum := "d1b38c26ac043e6eb7c3553d2d8f1cc881b3c088f0fb5c1b1c9148b56a36f820", func := "loop.example/matchcompiler/laws.FnMissingValue", spec := "fnMissingValue", unfollowed := true, recurses := true, apart := false, narrowed := true }
def FnMissingValueUptoSaid : Prop := fnMissingValueUptoRow.holds Tryz.pinned (OpenSpec.upto fnMissingValueSpec)

/-- 'laws.FnExactMissingValue', WHERE WHAT IT READS IS OF BULK AT MOST 1048576: true; the input reads as it did. -/
def fnExactMissingValueUptoRow : OpenClaim := { program := "ytlfipehhbdjnjaagreat", sum := "d1b38c26ac043e6eb7c3553d2d8f1cc881b3c088f0fb5c1b1c9148b56a36f820", func := "loop.example/matchcompiler/laws.FnExactMissingValue", spec := "fnExactMissingValue", unfollowed := true, recurses := true, loops := true, apart := false, narrowed := true }
def FnExactMissingValueUptoSaid : Prop := fnExactMissingValueUptoRow.holds Tryz.pinned (OpenSpec.upto fnExactMissingValueSpec)

/-- 'laws.FnTotalClauses', WHERE WHAT IT READS IS OF BULK AT MOST 1048576: true; the input reads as it did. -/
def fnTotalClausesUptoRow : OpenClaim := { program := "ytlfipehhbdjnjaagreat", sum := "d1b38c26ac043e6eb7c3553d2d8f1cc881b3c088f0fb5c1b1c9148b56a36f820", func := "loop.example/matchcompiler/laws.FnTotalClauses", spec := "fnTotalClauses", unfollowed := true, recurses := true, apart := false, narrowed := true }
def FnTotalClausesUptoSaid : Prop := fnTotalClausesUptoRow.holds Tryz.pinned (OpenSpec.upto fnTotalClausesSpec)

/-- 'laws.FnExactSwapClauses', WHERE WHAT IT READS IS OF BULK AT MOST 1048576: true; the input reads as it did. -/
def fnExactSwapClausesUptoRow : OpenClaim := { program := "ytlfipehhbdjnjaagreat", sum := "d1b38c26ac043e6eb7c3553d2d8f1cc881b3c088f0fb5c1b1c9148b56a36f820", func := "loop.example/matchcompiler/laws.FnExactSwapClauses", spec := "fnExactSwapClauses", unfollowed := true, recurses := true, loops := true, apart := false, narrowed := true }
def FnExactSwapClausesUptoSaid : Prop := fnExactSwapClausesUptoRow.holds Tryz.pinned (OpenSpec.upto fnExactSwapClausesSpec)

/-- 'laws.FnExactRunClauses', WHERE WHAT IT READS IS OF BULK AT MOST 1048576: true; the input reads as it did. -/
def fnExactRunClausesUptoRow : OpenClaim := { program := "ytlfipehhbdjnjaagreat", sum := "d1b38c26ac043e6eb7c3553d2d8f1cc881b3c088f0fb5c1b1c9148b56a36f820", func := "loop.example/matchcompiler/laws.FnExactRunClauses", spec := "fnExactRunClauses", unfollowed := true, recurses := true, loops := true, apart := false, narrowed := true }
def FnExactRunClausesUptoSaid : Prop := fnExactRunClausesUptoRow.holds Tryz.pinned (OpenSpec.upto fnExactRunClausesSpec)

/-- 'laws.FnExactStepsCost', WHERE WHAT IT READS IS OF BULK AT MOST 1048576: true; the input reads as it did. -/
def fnExactStepsCostUptoRow : OpenClaim := { program := "ytlfipehhbdjnjaagreat", sum := "d1b38c26ac043e6eb7c3553d2d8f1cc881b3c088f0fb5c1b1c9148b56a36f820", func := "loop.example/matchcompiler/laws.FnExactStepsCost", spec := "fnExactStepsCost", unfollowed := true, recurses := true, loops := true, apart := false, narrowed := true }
def FnExactStepsCostUptoSaid : Prop := fnExactStepsCostUptoRow.holds Tryz.pinned (OpenSpec.upto fnExactStepsCostSpec)

end Rows
end Go.Proofs.YtlfipehhbdjnjaaGreat
