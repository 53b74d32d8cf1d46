/-
  No cell of these rows narrows 'for every input' (looked for: loops, veiled, ifaces, maps, wideKeys, modest, calm, conditions, laid).
  DERIVED. THE GIVEN ROWS OF THIS SEAT. 4 by the template 'for every input the law returns true; each argument reads behind the call as it read before'; 0 by the template 'total and deterministic' (their statements: YtflgpdjbgfkhoaaGreatTotals.lean).
  GIVEN WITH THE SEED: the statements are not yours to turn. If you find one false, say at which input.
  Laid BY PROGRAM, IN A SANDBOX (cutbox-rows.mjs): the forced cells as the released guide's own fill.sh prints them over the translation 812e628ebec87b62… (all of the seat's roots in one cut). By AI agents, Wed Nov 11 2026. No macro, syntax, notation, axiom, sorry.
-/
import Derived.Test.YtflgpdjbgfkhoaaGreatChecked
import GoSem.Claim
import GoSem.ClaimJoined
import GoSem.ClaimMapViews
import Derived.JoinedTies
import Derived.KernelRfl
namespace Go.Proofs.YtflgpdjbgfkhoaaGreat
/- THE CELL 'sum', in the pinned program and in every row, IS THE sha256 OF THE DUMP (.gsa) THAT YtflgpdjbgfkhoaaGreatProg.lean LOADS. Nothing in Lean hashes anything: it is a label: what it is worth is what the hold of that sum in a sandbox is worth. -/
noncomputable def Tryz.pinned : Pinned := { name := "ytflgpdjbgfkhoaagreat", sum := "812e628ebec87b622a52775c5c182e652259f3d92819293f17261c0829c4b072", checked := Tryz.checked }
namespace Rows
def none {H : Type} : Left H := { results := [], args := [] }

/-- 'laws.FnRunAny': WHATEVER THE INPUT: true; the input reads as it did. -/
def fnRunAnySpec : ChangeSpec := { name := "fnRunAny", fn := fun _ => fun
  | [d] => { results := [.lit (.bool true)], args := [d] }
  | _ => none }
def fnRunAnyRow : OpenClaim := { program := "ytflgpdjbgfkhoaagreat", sum := "812e628ebec87b622a52775c5c182e652259f3d92819293f17261c0829c4b072", func := "loop.example/matchcompiler/laws.FnRunAny", spec := "fnRunAny", unfollowed := true, recurses := true, apart := false }
def FnRunAnySaid : Prop := fnRunAnyRow.holds Tryz.pinned (OpenSpec.ofChange fnRunAnySpec)

/-- ITS FALSE NEIGHBOUR: 'it returns false'. Refute it at one input. -/
def fnRunAnyWrong : ChangeSpec := { name := "fnRunAny", fn := fun _ => fun
  | [d] => { results := [.lit (.bool false)], args := [d] }
  | _ => none }
def FnRunAnyWrongFalsely : Prop := fnRunAnyRow.holds Tryz.pinned (OpenSpec.ofChange fnRunAnyWrong)

/-- 'laws.FnRunFront': WHATEVER THE INPUT: true; the input reads as it did. -/
def fnRunFrontSpec : ChangeSpec := { name := "fnRunFront", fn := fun _ => fun
  | [d1, d2] => { results := [.lit (.bool true)], args := [d1, d2] }
  | _ => none }
def fnRunFrontRow : OpenClaim := { program := "ytflgpdjbgfkhoaagreat", sum := "812e628ebec87b622a52775c5c182e652259f3d92819293f17261c0829c4b072", func := "loop.example/matchcompiler/laws.FnRunFront", spec := "fnRunFront", unfollowed := true, recurses := true, apart := false }
def FnRunFrontSaid : Prop := fnRunFrontRow.holds Tryz.pinned (OpenSpec.ofChange fnRunFrontSpec)

/-- ITS FALSE NEIGHBOUR: 'it returns false'. Refute it at one input. -/
def fnRunFrontWrong : ChangeSpec := { name := "fnRunFront", fn := fun _ => fun
  | [d1, d2] => { results := [.lit (.bool false)], args := [d1, d2] }
  | _ => none }
def FnRunFrontWrongFalsely : Prop := fnRunFrontRow.holds Tryz.pinned (OpenSpec.ofChange fnRunFrontWrong)

/-- 'laws.FnRunPrefix': WHATEVER THE INPUT: true; the input reads as it did. -/
def fnRunPrefixSpec : ChangeSpec := { name := "fnRunPrefix", fn := fun _ => fun
  | [d1, d2] => { results := [.lit (.bool true)], args := [d1, d2] }
  | _ => none }
def fnRunPrefixRow : OpenClaim := { program := "ytflgpdjbgfkhoaagreat", sum := "812e628ebec87b622a52775c5c182e652259f3d92819293f17261c0829c4b072", func := "loop.example/matchcompiler/laws.FnRunPrefix", spec := "fnRunPrefix", unfollowed := true, recurses := true, apart := false }
def FnRunPrefixSaid : Prop := fnRunPrefixRow.holds Tryz.pinned (OpenSpec.ofChange fnRunPrefixSpec)

/-- ITS FALSE NEIGHBOUR: 'it returns false'. Refute it at one input. -/
def fnRunPrefixWrong : ChangeSpec := { name := "fnRunPrefix", fn := fun _ => fun
  | [d1, d2] => { results := [.lit (.bool false)], args := [d1, d2] }
  | _ => none }
def FnRunPrefixWrongFalsely : Prop := fnRunPrefixRow.holds Tryz.pinned (OpenSpec.ofChange fnRunPrefixWrong)

/-- 'laws.FnRunClauses': WHATEVER THE INPUT: true; the input reads as it did. -/
def fnRunClausesSpec : ChangeSpec := { name := "fnRunClauses", fn := fun _ => fun
  | [d] => { results := [.lit (.bool true)], args := [d] }
  | _ => none }
def fnRunClausesRow : OpenClaim := { program := "ytflgpdjbgfkhoaagreat", sum := "812e628ebec87b622a52775c5c182e652259f3d92819293f17261c0829c4b072", func := "loop.example/matchcompiler/laws.FnRunClauses", spec := "fnRunClauses", unfollowed := true, recurses := true, apart := false }
def FnRunClausesSaid : Prop := fnRunClausesRow.holds Tryz.pinned (OpenSpec.ofChange fnRunClausesSpec)

/-- ITS FALSE NEIGHBOUR: 'it returns false'. Refute it at one input. -/
def fnRunClausesWrong : ChangeSpec := { name := "fnRunClauses", fn := fun _ => fun
  | [d] => { results := [.lit (.bool false)], args := [d] }
  | _ => none }
def FnRunClausesWrongFalsely : Prop := fnRunClausesRow.holds Tryz.pinned (OpenSpec.ofChange fnRunClausesWrong)

/- THE SECOND FORM. 'bulk': how many values and letters a reading holds, each counted each time it is reached (what is shared counts as often as it is met; a slice's spare places count too). A statement '..UptoSaid' is the law's where the arguments, and the package variables that the reading takes, are together of bulk at most 1048576: NARROWER than '..Said'. Prove '..Said' where nothing that the law and all that it calls make is longer than what came in: it says more and counts as full. Else prove '..UptoSaid'. A law counts once. -/
mutual
def uptoBulk {H : Type} : DataW H → Nat
  | .lit (.string bytes) => bytes.length + 1
  | .lit _ => 1
  | .nil => 1
  | .ptr d => uptoBulk d + 1
  | .slice elems spare => uptoBulkAll elems + uptoBulkAll spare + 1
  | .agg parts => uptoBulkAll parts + 1
  | .iface _ d => uptoBulk d + 1
  | .map entries => uptoBulkEntries entries + 1
  | .held _ => 1
def uptoBulkAll {H : Type} : List (DataW H) → Nat
  | [] => 0
  | d :: r => uptoBulk d + uptoBulkAll r
def uptoBulkEntries {H : Type} : List (Lit × DataW H) → Nat
  | [] => 0
  | x :: r => uptoBulkEntry x + uptoBulkEntries r
def uptoBulkEntry {H : Type} : Lit × DataW H → Nat
  | (.string bytes, d) => bytes.length + uptoBulk d + 1
  | (_, d) => uptoBulk d + 1
 end
def uptoSmall : (H : Type) → List (DataW H) → Bool := fun _ ds => decide (uptoBulkAll ds ≤ 1048576)
def OpenSpec.upto (s : _root_.Go.ChangeSpec) : _root_.Go.OpenSpec := { _root_.Go.OpenSpec.ofChange s with cond := some uptoSmall }

/-- 'laws.FnRunAny', WHERE WHAT IT READS IS OF BULK AT MOST 1048576: true; the input reads as it did. -/
def fnRunAnyUptoRow : OpenClaim := { program := "ytflgpdjbgfkhoaagreat", sum := "812e628ebec87b622a52775c5c182e652259f3d92819293f17261c0829c4b072", func := "loop.example/matchcompiler/laws.FnRunAny", spec := "fnRunAny", unfollowed := true, recurses := true, apart := false, narrowed := true }
def FnRunAnyUptoSaid : Prop := fnRunAnyUptoRow.holds Tryz.pinned (OpenSpec.upto fnRunAnySpec)

/-- 'laws.FnRunFront', WHERE WHAT IT READS IS OF BULK AT MOST 1048576: true; the input reads as it did. -/
def fnRunFrontUptoRow : OpenClaim := { program := "ytflgpdjbgfkhoaagreat", sum := "812e628ebec87b622a52775c5c182e652259f3d92819293f17261c0829c4b072", func := "loop.example/matchcompiler/laws.FnRunFront", spec := "fnRunFront", unfollowed := true, recurses := true, apart := false, narrowed := true }
def FnRunFrontUptoSaid : Prop := fnRunFrontUptoRow.holds Tryz.pinned (OpenSpec.upto fnRunFrontSpec)

/-- 'laws.FnRunPrefix', WHERE WHAT IT READS IS OF BULK AT MOST 1048576: true; the input reads as it did. -/
def fnRunPrefixUptoRow : OpenClaim := { program := "ytflgpdjbgfkhoaagreat", sum := "812e628ebec87b622a52775c5c182e652259f3d92819293f17261c0829c4b072", func := "loop.example/matchcompiler/laws.FnRunPrefix", spec := "fnRunPrefix", unfollowed := true, recurses := true, apart := false, narrowed := true }
def FnRunPrefixUptoSaid : Prop := fnRunPrefixUptoRow.holds Tryz.pinned (OpenSpec.upto fnRunPrefixSpec)

/-- 'laws.FnRunClauses', WHERE WHAT IT READS IS OF BULK AT MOST 1048576: true; the input reads as it did. -/
def fnRunClausesUptoRow : OpenClaim := { program := "ytflgpdjbgfkhoaagreat", sum := "812e628ebec87b622a52775c5c182e652259f3d92819293f17261c0829c4b072", func := "loop.example/matchcompiler/laws.FnRunClauses", spec := "fnRunClauses", unfollowed := true, recurses := true, apart := false, narrowed := true }
def FnRunClausesUptoSaid : Prop := fnRunClausesUptoRow.holds Tryz.pinned (OpenSpec.upto fnRunClausesSpec)

end Rows
end Go.Proofs.YtflgpdjbgfkhoaaGreat
