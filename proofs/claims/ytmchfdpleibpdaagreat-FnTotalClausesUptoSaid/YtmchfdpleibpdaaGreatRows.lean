/-
  NARROWER THAN 'FOR EVERY INPUT', by the rows' own cells (each row's printed sentence says how): FnExactStepsCost: loops.
  DERIVED. THE GIVEN ROWS OF THIS SEAT. 3 by the template 'for every input the law returns true; each argument reads behind the call as it read before'; 0 by the template 'total and deterministic' (their statements: YtmchfdpleibpdaaGreatTotals.lean).
  GIVEN WITH THE SEED: the statements are not yours to turn. If you find one false, say at which input.
  Laid BY PROGRAM, IN A SANDBOX (cutbox-rows.mjs): the forced cells as the released guide's own fill.sh prints them over the translation c0d79ddd3d439cbe… (all of the seat's roots in one cut). By AI agents, Wed Nov 11 2026. No macro, syntax, notation, axiom, sorry.
-/
import Derived.Test.YtmchfdpleibpdaaGreatChecked
import GoSem.Claim
import GoSem.ClaimJoined
import GoSem.ClaimMapViews
import Derived.JoinedTies
import Derived.KernelRfl
namespace Go.Proofs.YtmchfdpleibpdaaGreat
/- THE CELL 'sum', in the pinned program and in every row, IS THE sha256 OF THE DUMP (.gsa) THAT YtmchfdpleibpdaaGreatProg.lean LOADS. Nothing in Lean hashes anything: it is a label: what it is worth is what the hold of that sum in a sandbox is worth. -/
noncomputable def Tryz.pinned : Pinned := { name := "ytmchfdpleibpdaagreat", sum := "c0d79ddd3d439cbe027d34b70a37aef73862fff61f801540753958482e9a0426", checked := Tryz.checked }
namespace Rows
def none {H : Type} : Left H := { results := [], args := [] }

/-- 'laws.FnFunsPrefix': WHATEVER THE INPUT: true; the input reads as it did. -/
def fnFunsPrefixSpec : ChangeSpec := { name := "fnFunsPrefix", fn := fun _ => fun
  | [d] => { results := [.lit (.bool true)], args := [d] }
  | _ => none }
def fnFunsPrefixRow : OpenClaim := { program := "ytmchfdpleibpdaagreat", sum := "c0d79ddd3d439cbe027d34b70a37aef73862fff61f801540753958482e9a0426", func := "loop.example/matchcompiler/laws.FnFunsPrefix", spec := "fnFunsPrefix", unfollowed := true, recurses := true, apart := false }
def FnFunsPrefixSaid : Prop := fnFunsPrefixRow.holds Tryz.pinned (OpenSpec.ofChange fnFunsPrefixSpec)

/-- ITS FALSE NEIGHBOUR: 'it returns false'. Refute it at one input. -/
def fnFunsPrefixWrong : ChangeSpec := { name := "fnFunsPrefix", fn := fun _ => fun
  | [d] => { results := [.lit (.bool false)], args := [d] }
  | _ => none }
def FnFunsPrefixWrongFalsely : Prop := fnFunsPrefixRow.holds Tryz.pinned (OpenSpec.ofChange fnFunsPrefixWrong)

/-- 'laws.FnExactStepsCost': WHATEVER THE INPUT: true; the input reads as it did. -/
def fnExactStepsCostSpec : ChangeSpec := { name := "fnExactStepsCost", fn := fun _ => fun
  | [d1, d2, d3, d4] => { results := [.lit (.bool true)], args := [d1, d2, d3, d4] }
  | _ => none }
def fnExactStepsCostRow : OpenClaim := { program := "ytmchfdpleibpdaagreat", sum := "c0d79ddd3d439cbe027d34b70a37aef73862fff61f801540753958482e9a0426", func := "loop.example/matchcompiler/laws.FnExactStepsCost", spec := "fnExactStepsCost", unfollowed := true, recurses := true, loops := true, apart := false }
def FnExactStepsCostSaid : Prop := fnExactStepsCostRow.holds Tryz.pinned (OpenSpec.ofChange fnExactStepsCostSpec)

/-- ITS FALSE NEIGHBOUR: 'it returns false'. Refute it at one input. -/
def fnExactStepsCostWrong : ChangeSpec := { name := "fnExactStepsCost", fn := fun _ => fun
  | [d1, d2, d3, d4] => { results := [.lit (.bool false)], args := [d1, d2, d3, d4] }
  | _ => none }
def FnExactStepsCostWrongFalsely : Prop := fnExactStepsCostRow.holds Tryz.pinned (OpenSpec.ofChange fnExactStepsCostWrong)

/-- 'laws.FnTotalClauses': WHATEVER THE INPUT: true; the input reads as it did. -/
def fnTotalClausesSpec : ChangeSpec := { name := "fnTotalClauses", fn := fun _ => fun
  | [d] => { results := [.lit (.bool true)], args := [d] }
  | _ => none }
def fnTotalClausesRow : OpenClaim := { program := "ytmchfdpleibpdaagreat", sum := "c0d79ddd3d439cbe027d34b70a37aef73862fff61f801540753958482e9a0426", func := "loop.example/matchcompiler/laws.FnTotalClauses", spec := "fnTotalClauses", unfollowed := true, recurses := true, apart := false }
def FnTotalClausesSaid : Prop := fnTotalClausesRow.holds Tryz.pinned (OpenSpec.ofChange fnTotalClausesSpec)

/-- ITS FALSE NEIGHBOUR: 'it returns false'. Refute it at one input. -/
def fnTotalClausesWrong : ChangeSpec := { name := "fnTotalClauses", fn := fun _ => fun
  | [d] => { results := [.lit (.bool false)], args := [d] }
  | _ => none }
def FnTotalClausesWrongFalsely : Prop := fnTotalClausesRow.holds Tryz.pinned (OpenSpec.ofChange fnTotalClausesWrong)

/- THE SECOND FORM. 'bulk': how many values and letters a reading holds, each counted each time it is reached (what is shared counts as often as it is met; a slice's spare places count too). A statement '..UptoSaid' is the law's where the arguments, and the package variables that the reading takes, are together of bulk at most 1048576: NARROWER than '..Said'. Prove '..Said' where nothing that the law and all that it calls make is longer than what came in: it says more and counts as full. Else prove '..UptoSaid'. A law counts once. -/
mutual
def uptoBulk {H : Type} : DataW H → Nat
  | .lit (.string bytes) => bytes.length + 1
  | .lit _ => 1
  | .nil => 1
  | .ptr d => uptoBulk d + 1
  | .slice elems spare => uptoBulkAll elems + uptoBulkAll spare + 1
  | .agg parts => uptoBulkAll parts + 1
  | .iface _ d => uptoBulk d + 1
  | .map entries => uptoBulkEntries entries + 1
  | .held _ => 1
def uptoBulkAll {H : Type} : List (DataW H) → Nat
  | [] => 0
  | d :: r => uptoBulk d + uptoBulkAll r
def uptoBulkEntries {H : Type} : List (Lit × DataW H) → Nat
  | [] => 0
  | x :: r => uptoBulkEntry x + uptoBulkEntries r
def uptoBulkEntry {H : Type} : Lit × DataW H → Nat
  | (.string bytes, d) => bytes.length + uptoBulk d + 1
  | (_, d) => uptoBulk d + 1
 end
def uptoSmall : (H : Type) → List (DataW H) → Bool := fun _ ds => decide (uptoBulkAll ds ≤ 1048576)
def OpenSpec.upto (s : _root_.Go.ChangeSpec) : _root_.Go.OpenSpec := { _root_.Go.OpenSpec.ofChange s with cond := some uptoSmall }

/-- 'laws.FnFunsPrefix', WHERE WHAT IT READS IS OF BULK AT MOST 1048576: true; the input reads as it did. -/
def fnFunsPrefixUptoRow : OpenClaim := { program := "ytmchfdpleibpdaagreat", sum := "c0d79ddd3d439cbe027d34b70a37aef73862fff61f801540753958482e9a0426", func := "loop.example/matchcompiler/laws.FnFunsPrefix", spec := "fnFunsPrefix", unfollowed := true, recurses := true, apart := false, narrowed := true }
def FnFunsPrefixUptoSaid : Prop := fnFunsPrefixUptoRow.holds Tryz.pinned (OpenSpec.upto fnFunsPrefixSpec)

/-- 'laws.FnExactStepsCost', WHERE WHAT IT READS IS OF BULK AT MOST 1048576: true; the input reads as it did. -/
def fnExactStepsCostUptoRow : OpenClaim := { program := "ytmchfdpleibpdaagreat", sum := "c0d79ddd3d439cbe027d34b70a37aef73862fff61f801540753958482e9a0426", func := "loop.example/matchcompiler/laws.FnExactStepsCost", spec := "fnExactStepsCost", unfollowed := true, recurses := true, loops := true, apart := false, narrowed := true }
def FnExactStepsCostUptoSaid : Prop := fnExactStepsCostUptoRow.holds Tryz.pinned (OpenSpec.upto fnExactStepsCostSpec)

/-- 'laws.FnTotalClauses', WHERE WHAT IT READS IS OF BULK AT MOST 1048576: true; the input reads as it did. -/
def fnTotalClausesUptoRow : OpenClaim := { program := "ytmchfdpleibpdaagreat", sum := "c0d79ddd3d439cbe027d34b70a37aef73862fff61f801540753958482e9a0426", func := "loop.example/matchcompiler/laws.FnTotalClauses", spec := "fnTotalClauses", unfollowed := true, recurses := true, apart := false, narrowed := true }
def FnTotalClausesUptoSaid : Prop := fnTotalClausesUptoRow.holds Tryz.pinned (OpenSpec.upto fnTotalClausesSpec)

end Rows
end Go.Proofs.YtmchfdpleibpdaaGreat
