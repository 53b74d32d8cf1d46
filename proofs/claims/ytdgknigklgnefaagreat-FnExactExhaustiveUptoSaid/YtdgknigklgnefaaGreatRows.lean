/-
  NARROWER THAN 'FOR EVERY INPUT', by the rows' own cells (each row's printed sentence says how): FnExactFunsValid: loops · FnExactDescendingFun: loops · FnExactExhaustive: loops · FnExactMissingPatterns: loops · FnExactCoveredClauses: loops · FnExactClosedClauses: loops · FnExactRunClauses: loops.
  DERIVED. THE GIVEN ROWS OF THIS SEAT. 9 by the template 'for every input the law returns true; each argument reads behind the call as it read before'; 0 by the template 'total and deterministic' (their statements: YtdgknigklgnefaaGreatTotals.lean).
  GIVEN WITH THE SEED: the statements are not yours to turn. If you find one false, say at which input.
  Laid BY PROGRAM, IN A SANDBOX (cutbox-rows.mjs): the forced cells as the released guide's own fill.sh prints them over the translation 35db2f8b0fdc09bd… (all of the seat's roots in one cut). By AI agents, Wed Nov 11 2026. No macro, syntax, notation, axiom, sorry.
-/
import Derived.Test.YtdgknigklgnefaaGreatChecked
import GoSem.Claim
import GoSem.ClaimJoined
import GoSem.ClaimMapViews
import Derived.JoinedTies
import Derived.KernelRfl
namespace Go.Proofs.YtdgknigklgnefaaGreat
/- THE CELL 'sum', in the pinned program and in every row, IS THE sha256 OF THE DUMP (.gsa) THAT YtdgknigklgnefaaGreatProg.lean LOADS. Nothing in Lean hashes anything: it is a label: what it is worth is what the hold of that sum in a sandbox is worth. -/
noncomputable def Tryz.pinned : Pinned := { name := "ytdgknigklgnefaagreat", sum := "35db2f8b0fdc09bde24710919fb646f0c26f70b3559c60eaccb2b87cf58c29f0", checked := Tryz.checked }
namespace Rows
def none {H : Type} : Left H := { results := [], args := [] }

/-- 'laws.FnExactFunsValid': WHATEVER THE INPUT: true; the input reads as it did. -/
def fnExactFunsValidSpec : ChangeSpec := { name := "fnExactFunsValid", fn := fun _ => fun
  | [d1, d2] => { results := [.lit (.bool true)], args := [d1, d2] }
  | _ => none }
def fnExactFunsValidRow : OpenClaim := { program := "ytdgknigklgnefaagreat", sum := "35db2f8b0fdc09bde24710919fb646f0c26f70b3559c60eaccb2b87cf58c29f0", func := "loop.example/matchcompiler/laws.FnExactFunsValid", spec := "fnExactFunsValid", unfollowed := true, recurses := true, loops := true, apart := false }
def FnExactFunsValidSaid : Prop := fnExactFunsValidRow.holds Tryz.pinned (OpenSpec.ofChange fnExactFunsValidSpec)

/-- ITS FALSE NEIGHBOUR: 'it returns false'. Refute it at one input. -/
def fnExactFunsValidWrong : ChangeSpec := { name := "fnExactFunsValid", fn := fun _ => fun
  | [d1, d2] => { results := [.lit (.bool false)], args := [d1, d2] }
  | _ => none }
def FnExactFunsValidWrongFalsely : Prop := fnExactFunsValidRow.holds Tryz.pinned (OpenSpec.ofChange fnExactFunsValidWrong)

/-- 'laws.FnExactDescendingFun': WHATEVER THE INPUT: true; the input reads as it did. -/
def fnExactDescendingFunSpec : ChangeSpec := { name := "fnExactDescendingFun", fn := fun _ => fun
  | [d1, d2, d3] => { results := [.lit (.bool true)], args := [d1, d2, d3] }
  | _ => none }
def fnExactDescendingFunRow : OpenClaim := { program := "ytdgknigklgnefaagreat", sum := "35db2f8b0fdc09bde24710919fb646f0c26f70b3559c60eaccb2b87cf58c29f0", func := "loop.example/matchcompiler/laws.FnExactDescendingFun", spec := "fnExactDescendingFun", unfollowed := true, recurses := true, loops := true, apart := false }
def FnExactDescendingFunSaid : Prop := fnExactDescendingFunRow.holds Tryz.pinned (OpenSpec.ofChange fnExactDescendingFunSpec)

/-- ITS FALSE NEIGHBOUR: 'it returns false'. Refute it at one input. -/
def fnExactDescendingFunWrong : ChangeSpec := { name := "fnExactDescendingFun", fn := fun _ => fun
  | [d1, d2, d3] => { results := [.lit (.bool false)], args := [d1, d2, d3] }
  | _ => none }
def FnExactDescendingFunWrongFalsely : Prop := fnExactDescendingFunRow.holds Tryz.pinned (OpenSpec.ofChange fnExactDescendingFunWrong)

/-- 'laws.FnExactExhaustive': WHATEVER THE INPUT: true; the input reads as it did. -/
def fnExactExhaustiveSpec : ChangeSpec := { name := "fnExactExhaustive", fn := fun _ => fun
  | [d1, d2, d3] => { results := [.lit (.bool true)], args := [d1, d2, d3] }
  | _ => none }
def fnExactExhaustiveRow : OpenClaim := { program := "ytdgknigklgnefaagreat", sum := "35db2f8b0fdc09bde24710919fb646f0c26f70b3559c60eaccb2b87cf58c29f0", func := "loop.example/matchcompiler/laws.FnExactExhaustive", spec := "fnExactExhaustive", unfollowed := true, recurses := true, loops := true, apart := false }
def FnExactExhaustiveSaid : Prop := fnExactExhaustiveRow.holds Tryz.pinned (OpenSpec.ofChange fnExactExhaustiveSpec)

/-- ITS FALSE NEIGHBOUR: 'it returns false'. Refute it at one input. -/
def fnExactExhaustiveWrong : ChangeSpec := { name := "fnExactExhaustive", fn := fun _ => fun
  | [d1, d2, d3] => { results := [.lit (.bool false)], args := [d1, d2, d3] }
  | _ => none }
def FnExactExhaustiveWrongFalsely : Prop := fnExactExhaustiveRow.holds Tryz.pinned (OpenSpec.ofChange fnExactExhaustiveWrong)

/-- 'laws.FnIndicesOf': WHATEVER THE INPUT: true; the input reads as it did. -/
def fnIndicesOfSpec : ChangeSpec := { name := "fnIndicesOf", fn := fun _ => fun
  | [d1, d2] => { results := [.lit (.bool true)], args := [d1, d2] }
  | _ => none }
def fnIndicesOfRow : OpenClaim := { program := "ytdgknigklgnefaagreat", sum := "35db2f8b0fdc09bde24710919fb646f0c26f70b3559c60eaccb2b87cf58c29f0", func := "loop.example/matchcompiler/laws.FnIndicesOf", spec := "fnIndicesOf", unfollowed := true, recurses := true, apart := false }
def FnIndicesOfSaid : Prop := fnIndicesOfRow.holds Tryz.pinned (OpenSpec.ofChange fnIndicesOfSpec)

/-- ITS FALSE NEIGHBOUR: 'it returns false'. Refute it at one input. -/
def fnIndicesOfWrong : ChangeSpec := { name := "fnIndicesOf", fn := fun _ => fun
  | [d1, d2] => { results := [.lit (.bool false)], args := [d1, d2] }
  | _ => none }
def FnIndicesOfWrongFalsely : Prop := fnIndicesOfRow.holds Tryz.pinned (OpenSpec.ofChange fnIndicesOfWrong)

/-- 'laws.FnNarrowType': WHATEVER THE INPUT: true; the input reads as it did. -/
def fnNarrowTypeSpec : ChangeSpec := { name := "fnNarrowType", fn := fun _ => fun
  | [d1, d2] => { results := [.lit (.bool true)], args := [d1, d2] }
  | _ => none }
def fnNarrowTypeRow : OpenClaim := { program := "ytdgknigklgnefaagreat", sum := "35db2f8b0fdc09bde24710919fb646f0c26f70b3559c60eaccb2b87cf58c29f0", func := "loop.example/matchcompiler/laws.FnNarrowType", spec := "fnNarrowType", unfollowed := true, recurses := true, apart := false }
def FnNarrowTypeSaid : Prop := fnNarrowTypeRow.holds Tryz.pinned (OpenSpec.ofChange fnNarrowTypeSpec)

/-- ITS FALSE NEIGHBOUR: 'it returns false'. Refute it at one input. -/
def fnNarrowTypeWrong : ChangeSpec := { name := "fnNarrowType", fn := fun _ => fun
  | [d1, d2] => { results := [.lit (.bool false)], args := [d1, d2] }
  | _ => none }
def FnNarrowTypeWrongFalsely : Prop := fnNarrowTypeRow.holds Tryz.pinned (OpenSpec.ofChange fnNarrowTypeWrong)

/-- 'laws.FnExactMissingPatterns': WHATEVER THE INPUT: true; the input reads as it did. -/
def fnExactMissingPatternsSpec : ChangeSpec := { name := "fnExactMissingPatterns", fn := fun _ => fun
  | [d1, d2, d3] => { results := [.lit (.bool true)], args := [d1, d2, d3] }
  | _ => none }
def fnExactMissingPatternsRow : OpenClaim := { program := "ytdgknigklgnefaagreat", sum := "35db2f8b0fdc09bde24710919fb646f0c26f70b3559c60eaccb2b87cf58c29f0", func := "loop.example/matchcompiler/laws.FnExactMissingPatterns", spec := "fnExactMissingPatterns", unfollowed := true, recurses := true, loops := true, apart := false }
def FnExactMissingPatternsSaid : Prop := fnExactMissingPatternsRow.holds Tryz.pinned (OpenSpec.ofChange fnExactMissingPatternsSpec)

/-- ITS FALSE NEIGHBOUR: 'it returns false'. Refute it at one input. -/
def fnExactMissingPatternsWrong : ChangeSpec := { name := "fnExactMissingPatterns", fn := fun _ => fun
  | [d1, d2, d3] => { results := [.lit (.bool false)], args := [d1, d2, d3] }
  | _ => none }
def FnExactMissingPatternsWrongFalsely : Prop := fnExactMissingPatternsRow.holds Tryz.pinned (OpenSpec.ofChange fnExactMissingPatternsWrong)

/-- 'laws.FnExactCoveredClauses': WHATEVER THE INPUT: true; the input reads as it did. -/
def fnExactCoveredClausesSpec : ChangeSpec := { name := "fnExactCoveredClauses", fn := fun _ => fun
  | [d1, d2, d3, d4] => { results := [.lit (.bool true)], args := [d1, d2, d3, d4] }
  | _ => none }
def fnExactCoveredClausesRow : OpenClaim := { program := "ytdgknigklgnefaagreat", sum := "35db2f8b0fdc09bde24710919fb646f0c26f70b3559c60eaccb2b87cf58c29f0", func := "loop.example/matchcompiler/laws.FnExactCoveredClauses", spec := "fnExactCoveredClauses", unfollowed := true, recurses := true, loops := true, apart := false }
def FnExactCoveredClausesSaid : Prop := fnExactCoveredClausesRow.holds Tryz.pinned (OpenSpec.ofChange fnExactCoveredClausesSpec)

/-- ITS FALSE NEIGHBOUR: 'it returns false'. Refute it at one input. -/
def fnExactCoveredClausesWrong : ChangeSpec := { name := "fnExactCoveredClauses", fn := fun _ => fun
  | [d1, d2, d3, d4] => { results := [.lit (.bool false)], args := [d1, d2, d3, d4] }
  | _ => none }
def FnExactCoveredClausesWrongFalsely : Prop := fnExactCoveredClausesRow.holds Tryz.pinned (OpenSpec.ofChange fnExactCoveredClausesWrong)

/-- 'laws.FnExactClosedClauses': WHATEVER THE INPUT: true; the input reads as it did. -/
def fnExactClosedClausesSpec : ChangeSpec := { name := "fnExactClosedClauses", fn := fun _ => fun
  | [d1, d2, d3] => { results := [.lit (.bool true)], args := [d1, d2, d3] }
  | _ => none }
def fnExactClosedClausesRow : OpenClaim := { program := "ytdgknigklgnefaagreat", sum := "35db2f8b0fdc09bde24710919fb646f0c26f70b3559c60eaccb2b87cf58c29f0", func := "loop.example/matchcompiler/laws.FnExactClosedClauses", spec := "fnExactClosedClauses", unfollowed := true, recurses := true, loops := true, apart := false }
def FnExactClosedClausesSaid : Prop := fnExactClosedClausesRow.holds Tryz.pinned (OpenSpec.ofChange fnExactClosedClausesSpec)

/-- ITS FALSE NEIGHBOUR: 'it returns false'. Refute it at one input. -/
def fnExactClosedClausesWrong : ChangeSpec := { name := "fnExactClosedClauses", fn := fun _ => fun
  | [d1, d2, d3] => { results := [.lit (.bool false)], args := [d1, d2, d3] }
  | _ => none }
def FnExactClosedClausesWrongFalsely : Prop := fnExactClosedClausesRow.holds Tryz.pinned (OpenSpec.ofChange fnExactClosedClausesWrong)

/-- 'laws.FnExactRunClauses': WHATEVER THE INPUT: true; the input reads as it did. -/
def fnExactRunClausesSpec : ChangeSpec := { name := "fnExactRunClauses", fn := fun _ => fun
  | [d1, d2, d3, d4] => { results := [.lit (.bool true)], args := [d1, d2, d3, d4] }
  | _ => none }
def fnExactRunClausesRow : OpenClaim := { program := "ytdgknigklgnefaagreat", sum := "35db2f8b0fdc09bde24710919fb646f0c26f70b3559c60eaccb2b87cf58c29f0", func := "loop.example/matchcompiler/laws.FnExactRunClauses", spec := "fnExactRunClauses", unfollowed := true, recurses := true, loops := true, apart := false }
def FnExactRunClausesSaid : Prop := fnExactRunClausesRow.holds Tryz.pinned (OpenSpec.ofChange fnExactRunClausesSpec)

/-- ITS FALSE NEIGHBOUR: 'it returns false'. Refute it at one input. -/
def fnExactRunClausesWrong : ChangeSpec := { name := "fnExactRunClauses", fn := fun _ => fun
  | [d1, d2, d3, d4] => { results := [.lit (.bool false)], args := [d1, d2, d3, d4] }
  | _ => none }
def FnExactRunClausesWrongFalsely : Prop := fnExactRunClausesRow.holds Tryz.pinned (OpenSpec.ofChange fnExactRunClausesWrong)

/- THE SECOND FORM. 'bulk': how many values and letters a reading holds, each counted each time it is reached (what is shared counts as often as it is met; a slice's spare places count too). A statement '..UptoSaid' is the law's where the arguments, and the package variables that the reading takes, are together of bulk at most 1048576: NARROWER than '..Said'. Prove '..Said' where nothing that the law and all that it calls make is longer than what came in: it says more and counts as full. Else prove '..UptoSaid'. A law counts once. -/
mutual
def uptoBulk {H : Type} : DataW H → Nat
  | .lit (.string bytes) => bytes.length + 1
  | .lit _ => 1
  | .nil => 1
  | .ptr d => uptoBulk d + 1
  | .slice elems spare => uptoBulkAll elems + uptoBulkAll spare + 1
  | .agg parts => uptoBulkAll parts + 1
  | .iface _ d => uptoBulk d + 1
  | .map entries => uptoBulkEntries entries + 1
  | .held _ => 1
def uptoBulkAll {H : Type} : List (DataW H) → Nat
  | [] => 0
  | d :: r => uptoBulk d + uptoBulkAll r
def uptoBulkEntries {H : Type} : List (Lit × DataW H) → Nat
  | [] => 0
  | x :: r => uptoBulkEntry x + uptoBulkEntries r
def uptoBulkEntry {H : Type} : Lit × DataW H → Nat
  | (.string bytes, d) => bytes.length + uptoBulk d + 1
  | (_, d) => uptoBulk d + 1
 end
def uptoSmall : (H : Type) → List (DataW H) → Bool := fun _ ds => decide (uptoBulkAll ds ≤ 1048576)
def OpenSpec.upto (s : _root_.Go.ChangeSpec) : _root_.Go.OpenSpec := { _root_.Go.OpenSpec.ofChange s with cond := some uptoSmall }

/-- 'laws.FnExactFunsValid', WHERE WHAT IT READS IS OF BULK AT MOST 1048576: true; the input reads as it did. -/
def fnExactFunsValidUptoRow : OpenClaim := { program := "ytdgknigklgnefaagreat", sum := "35db2f8b0fdc09bde24710919fb646f0c26f70b3559c60eaccb2b87cf58c29f0", func := "loop.example/matchcompiler/laws.FnExactFunsValid", spec := "fnExactFunsValid", unfollowed := true, recurses := true, loops := true, apart := false, narrowed := true }
def FnExactFunsValidUptoSaid : Prop := fnExactFunsValidUptoRow.holds Tryz.pinned (OpenSpec.upto fnExactFunsValidSpec)

/-- 'laws.FnExactDescendingFun', WHERE WHAT IT READS IS OF BULK AT MOST 1048576: true; the input reads as it did. -/
def fnExactDescendingFunUptoRow : OpenClaim := { program := "ytdgknigklgnefaagreat", sum := "35db2f8b0fdc09bde24710919fb646f0c26f70b3559c60eaccb2b87cf58c29f0", func := "loop.example/matchcompiler/laws.FnExactDescendingFun", spec := "fnExactDescendingFun", unfollowed := true, recurses := true, loops := true, apart := false, narrowed := true }
def FnExactDescendingFunUptoSaid : Prop := fnExactDescendingFunUptoRow.holds Tryz.pinned (OpenSpec.upto fnExactDescendingFunSpec)

/-- 'laws.FnExactExhaustive', WHERE WHAT IT READS IS OF BULK AT MOST 1048576: true; the input reads as it did. -/
def fnExactExhaustiveUptoRow : OpenClaim := { program := "ytdgknigklgnefaagreat", sum := "35db2f8b0fdc09bde24710919fb646f0c26f70b3559c60eaccb2b87cf58c29f0", func := "loop.example/matchcompiler/laws.FnExactExhaustive", spec := "fnExactExhaustive", unfollowed := true, recurses := true, loops := true, apart := false, narrowed := true }
def FnExactExhaustiveUptoSaid : Prop := fnExactExhaustiveUptoRow.holds Tryz.pinned (OpenSpec.upto fnExactExhaustiveSpec)

/-- 'laws.FnIndicesOf', WHERE WHAT IT READS IS OF BULK AT MOST 1048576: true; the input reads as it did. -/
def fnIndicesOfUptoRow : OpenClaim := { program := "ytdgknigklgnefaagreat", sum := "35db2f8b0fdc09bde24710919fb646f0c26f70b3559c60eaccb2b87cf58c29f0", func := "loop.example/matchcompiler/laws.FnIndicesOf", spec := "fnIndicesOf", unfollowed := true, recurses := true, apart := false, narrowed := true }
def FnIndicesOfUptoSaid : Prop := fnIndicesOfUptoRow.holds Tryz.pinned (OpenSpec.upto fnIndicesOfSpec)

/-- 'laws.FnNarrowType', WHERE WHAT IT READS IS OF BULK AT MOST 1048576: true; the input reads as it did. -/
def fnNarrowTypeUptoRow : OpenClaim := { program := "ytdgknigklgnefaagreat", sum := "35db2f8b0fdc09bde24710919fb646f0c26f70b3559c60eaccb2b87cf58c29f0", func := "loop.example/matchcompiler/laws.FnNarrowType", spec := "fnNarrowType", unfollowed := true, recurses := true, apart := false, narrowed := true }
def FnNarrowTypeUptoSaid : Prop := fnNarrowTypeUptoRow.holds Tryz.pinned (OpenSpec.upto fnNarrowTypeSpec)

/-- 'laws.FnExactMissingPatterns', WHERE WHAT IT READS IS OF BULK AT MOST 1048576: true; the input reads as it did. -/
def fnExactMissingPatternsUptoRow : OpenClaim := { program := "ytdgknigklgnefaagreat", sum := "35db2f8b0fdc09bde24710919fb646f0c26f70b3559c60eaccb2b87cf58c29f0", func := "loop.example/matchcompiler/laws.FnExactMissingPatterns", spec := "fnExactMissingPatterns", unfollowed := true, recurses := true, loops := true, apart := false, narrowed := true }
def FnExactMissingPatternsUptoSaid : Prop := fnExactMissingPatternsUptoRow.holds Tryz.pinned (OpenSpec.upto fnExactMissingPatternsSpec)

/-- 'laws.FnExactCoveredClauses', WHERE WHAT IT READS IS OF BULK AT MOST 1048576: true; the input reads as it did. -/
def fnExactCoveredClausesUptoRow : OpenClaim := { program := "ytdgknigklgnefaagreat", sum := "35db2f8b0fdc09bde24710919fb646f0c26f70b3559c60eaccb2b87cf58c29f0", func := "loop.example/matchcompiler/laws.FnExactCoveredClauses", spec := "fnExactCoveredClauses", unfollowed := true, recurses := true, loops := true, apart := false, narrowed := true }
def FnExactCoveredClausesUptoSaid : Prop := fnExactCoveredClausesUptoRow.holds Tryz.pinned (OpenSpec.upto fnExactCoveredClausesSpec)

/-- 'laws.FnExactClosedClauses', WHERE WHAT IT READS IS OF BULK AT MOST 1048576: true; the input reads as it did. -/
def fnExactClosedClausesUptoRow : OpenClaim := { program := "ytdgknigklgnefaagreat", sum := "35db2f8b0fdc09bde24710919fb646f0c26f70b3559c60eaccb2b87cf58c29f0", func := "loop.example/matchcompiler/laws.FnExactClosedClauses", spec := "fnExactClosedClauses", unfollowed := true, recurses := true, loops := true, apart := false, narrowed := true }
def FnExactClosedClausesUptoSaid : Prop := fnExactClosedClausesUptoRow.holds Tryz.pinned (OpenSpec.upto fnExactClosedClausesSpec)

/-- 'laws.FnExactRunClauses', WHERE WHAT IT READS IS OF BULK AT MOST 1048576: true; the input reads as it did. -/
def fnExactRunClausesUptoRow : OpenClaim := { program := "ytdgknigklgnefaagreat", sum := "35db2f8b0fdc09bde24710919fb646f0c26f70b3559c60eaccb2b87cf58c29f0", func := "loop.example/matchcompiler/laws.FnExactRunClauses", spec := "fnExactRunClauses", unfollowed := true, recurses := true, loops := true, apart := false, narrowed := true }
def FnExactRunClausesUptoSaid : Prop := fnExactRunClausesUptoRow.holds Tryz.pinned (OpenSpec.upto fnExactRunClausesSpec)

end Rows
end Go.Proofs.YtdgknigklgnefaaGreat
