/-
  NARROWER THAN 'FOR EVERY INPUT', by the rows' own cells (each row's printed sentence says how): FnExactMissingPatterns: loops · FnExactTotalFuns: loops.
  DERIVED. THE GIVEN ROWS OF THIS SEAT. 3 by the template 'for every input the law returns true; each argument reads behind the call as it read before'; 0 by the template 'total and deterministic' (their statements: YtfiihhedihkdoaaGreatTotals.lean).
  GIVEN WITH THE SEED: the statements are not yours to turn. If you find one false, say at which input.
  Laid BY PROGRAM, IN A SANDBOX (cutbox-rows.mjs): the forced cells as the released guide's own fill.sh prints them over the translation 0ca074366cce8e36… (all of the seat's roots in one cut). By AI agents, Wed Nov 11 2026. No macro, syntax, notation, axiom, sorry.
-/
import Derived.Test.YtfiihhedihkdoaaGreatChecked
import GoSem.Claim
import GoSem.ClaimJoined
import GoSem.ClaimMapViews
import Derived.JoinedTies
import Derived.KernelRfl
namespace Go.Proofs.YtfiihhedihkdoaaGreat
/- THE CELL 'sum', in the pinned program and in every row, IS THE sha256 OF THE DUMP (.gsa) THAT YtfiihhedihkdoaaGreatProg.lean LOADS. Nothing in Lean hashes anything: it is a label: what it is worth is what the hold of that sum in a sandbox is worth. -/
noncomputable def Tryz.pinned : Pinned := { name := "ytfiihhedihkdoaagreat", sum := "0ca074366cce8e3676b7e52666140a71f61ae607999c72aa6e2231a82087b003", checked := Tryz.checked }
namespace Rows
def none {H : Type} : Left H := { results := [], args := [] }

/-- 'laws.FnExactMissingPatterns': WHATEVER THE INPUT: true; the input reads as it did. -/
def fnExactMissingPatternsSpec : ChangeSpec := { name := "fnExactMissingPatterns", fn := fun _ => fun
  | [d1, d2, d3] => { results := [.lit (.bool true)], args := [d1, d2, d3] }
  | _ => none }
def fnExactMissingPatternsRow : OpenClaim := { program := "ytfiihhedihkdoaagreat", sum := "0ca074366cce8e3676b7e52666140a71f61ae607999c72aa6e2231a82087b003", func := "loop.example/matchcompiler/laws.FnExactMissingPatterns", spec := "fnExactMissingPatterns", unfollowed := true, recurses := true, loops := true, apart := false }
def FnExactMissingPatternsSaid : Prop := fnExactMissingPatternsRow.holds Tryz.pinned (OpenSpec.ofChange fnExactMissingPatternsSpec)

/-- ITS FALSE NEIGHBOUR: 'it returns false'. Refute it at one input. -/
def fnExactMissingPatternsWrong : ChangeSpec := { name := "fnExactMissingPatterns", fn := fun _ => fun
  | [d1, d2, d3] => { results := [.lit (.bool false)], args := [d1, d2, d3] }
  | _ => none }
def FnExactMissingPatternsWrongFalsely : Prop := fnExactMissingPatternsRow.holds Tryz.pinned (OpenSpec.ofChange fnExactMissingPatternsWrong)

/-- 'laws.FnExactTotalFuns': WHATEVER THE INPUT: true; the input reads as it did. -/
def fnExactTotalFunsSpec : ChangeSpec := { name := "fnExactTotalFuns", fn := fun _ => fun
  | [d1, d2] => { results := [.lit (.bool true)], args := [d1, d2] }
  | _ => none }
def fnExactTotalFunsRow : OpenClaim := { program := "ytfiihhedihkdoaagreat", sum := "0ca074366cce8e3676b7e52666140a71f61ae607999c72aa6e2231a82087b003", func := "loop.example/matchcompiler/laws.FnExactTotalFuns", spec := "fnExactTotalFuns", unfollowed := true, recurses := true, loops := true, apart := false }
def FnExactTotalFunsSaid : Prop := fnExactTotalFunsRow.holds Tryz.pinned (OpenSpec.ofChange fnExactTotalFunsSpec)

/-- ITS FALSE NEIGHBOUR: 'it returns false'. Refute it at one input. -/
def fnExactTotalFunsWrong : ChangeSpec := { name := "fnExactTotalFuns", fn := fun _ => fun
  | [d1, d2] => { results := [.lit (.bool false)], args := [d1, d2] }
  | _ => none }
def FnExactTotalFunsWrongFalsely : Prop := fnExactTotalFunsRow.holds Tryz.pinned (OpenSpec.ofChange fnExactTotalFunsWrong)

/-- 'laws.FnTotalClauses': WHATEVER THE INPUT: true; the input reads as it did. -/
def fnTotalClausesSpec : ChangeSpec := { name := "fnTotalClauses", fn := fun _ => fun
  | [d] => { results := [.lit (.bool true)], args := [d] }
  | _ => none }
def fnTotalClausesRow : OpenClaim := { program := "ytfiihhedihkdoaagreat", sum := "0ca074366cce8e3676b7e52666140a71f61ae607999c72aa6e2231a82087b003", func := "loop.example/matchcompiler/laws.FnTotalClauses", spec := "fnTotalClauses", unfollowed := true, recurses := true, apart := false }
def FnTotalClausesSaid : Prop := fnTotalClausesRow.holds Tryz.pinned (OpenSpec.ofChange fnTotalClausesSpec)

/-- ITS FALSE NEIGHBOUR: 'it returns false'. Refute it at one input. -/
def fnTotalClausesWrong : ChangeSpec := { name := "fnTotalClauses", fn := fun _ => fun
  | [d] => { results := [.lit (.bool false)], args := [d] }
  | _ => none }
def FnTotalClausesWrongFalsely : Prop := fnTotalClausesRow.holds Tryz.pinned (OpenSpec.ofChange fnTotalClausesWrong)

/- THE SECOND FORM. 'bulk': how many values and letters a reading holds, each counted each time it is reached (what is shared counts as often as it is met; a slice's spare places count too). A statement '..UptoSaid' is the law's where the arguments, and the package variables that the reading takes, are together of bulk at most 1048576: NARROWER than '..Said'. Prove '..Said' where nothing that the law and all that it calls make is longer than what came in: it says more and counts as full. Else prove '..UptoSaid'. A law counts once. -/
mutual
def uptoBulk {H : Type} : DataW H → Nat
  | .lit (.string bytes) => bytes.length + 1
  | .lit _ => 1
  | .nil => 1
  | .ptr d => uptoBulk d + 1
  | .slice elems spare => uptoBulkAll elems + uptoBulkAll spare + 1
  | .agg parts => uptoBulkAll parts + 1
  | .iface _ d => uptoBulk d + 1
  | .map entries => uptoBulkEntries entries + 1
  | .held _ => 1
def uptoBulkAll {H : Type} : List (DataW H) → Nat
  | [] => 0
  | d :: r => uptoBulk d + uptoBulkAll r
def uptoBulkEntries {H : Type} : List (Lit × DataW H) → Nat
  | [] => 0
  | x :: r => uptoBulkEntry x + uptoBulkEntries r
def uptoBulkEntry {H : Type} : Lit × DataW H → Nat
  | (.string bytes, d) => bytes.length + uptoBulk d + 1
  | (_, d) => uptoBulk d + 1
 end
def uptoSmall : (H : Type) → List (DataW H) → Bool := fun _ ds => decide (uptoBulkAll ds ≤ 1048576)
def OpenSpec.upto (s : _root_.Go.ChangeSpec) : _root_.Go.OpenSpec := { _root_.Go.OpenSpec.ofChange s with cond := some uptoSmall }

/-- 'laws.FnExactMissingPatterns', WHERE WHAT IT READS IS OF BULK AT MOST 1048576: true; the input reads as it did. -/
def fnExactMissingPatternsUptoRow : OpenClaim := { program := "ytfiihhedihkdoaagreat", sum := "0ca074366cce8e3676b7e52666140a71f61ae607999c72aa6e2231a82087b003", func := "loop.example/matchcompiler/laws.FnExactMissingPatterns", spec := "fnExactMissingPatterns", unfollowed := true, recurses := true, loops := true, apart := false, narrowed := true }
def FnExactMissingPatternsUptoSaid : Prop := fnExactMissingPatternsUptoRow.holds Tryz.pinned (OpenSpec.upto fnExactMissingPatternsSpec)

/-- 'laws.FnExactTotalFuns', WHERE WHAT IT READS IS OF BULK AT MOST 1048576: true; the input reads as it did. -/
def fnExactTotalFunsUptoRow : OpenClaim := { program := "ytfiihhedihkdoaagreat", sum := "0ca074366cce8e3676b7e52666140a71f61ae607999c72aa6e2231a82087b003", func := "loop.example/matchcompiler/laws.FnExactTotalFuns", spec := "fnExactTotalFuns", unfollowed := true, recurses := true, loops := true, apart := false, narrowed := true }
def FnExactTotalFunsUptoSaid : Prop := fnExactTotalFunsUptoRow.holds Tryz.pinned (OpenSpec.upto fnExactTotalFunsSpec)

/-- 'laws.FnTotalClauses', WHERE WHAT IT READS IS OF BULK AT MOST 1048576: true; the input reads as it did. -/
def fnTotalClausesUptoRow : OpenClaim := { program := "ytfiihhedihkdoaagreat", sum := "0ca074366cce8e3676b7e52666140a71f61ae607999c72aa6e2231a82087b003", func := "loop.example/matchcompiler/laws.FnTotalClauses", spec := "fnTotalClauses", unfollowed := true, recurses := true, apart := false, narrowed := true }
def FnTotalClausesUptoSaid : Prop := fnTotalClausesUptoRow.holds Tryz.pinned (OpenSpec.upto fnTotalClausesSpec)

end Rows
end Go.Proofs.YtfiihhedihkdoaaGreat
