/-
  NARROWER THAN 'FOR EVERY INPUT', by the rows' own cells (each row's printed sentence says how): FnExactTypesOfValue: loops · FnExactTypesOfPattern: loops.
  DERIVED. THE GIVEN ROWS OF THIS SEAT. 7 by the template 'for every input the law returns true; each argument reads behind the call as it read before'; 0 by the template 'total and deterministic' (their statements: YtadpcmcifbakoaaTotals.lean).
  GIVEN WITH THE SEED: the statements are not yours to turn. If you find one false, say at which input.
  Laid BY PROGRAM, IN A SANDBOX (cutbox-rows.mjs): the forced cells as the released guide's own fill.sh prints them over the translation 084dc9ab5e6f62ac… (all of the seat's roots in one cut). By AI agents, Wed Nov 11 2026. No macro, syntax, notation, axiom, sorry.
-/
import Derived.Test.YtadpcmcifbakoaaChecked
import GoSem.Claim
import GoSem.ClaimJoined
import GoSem.ClaimMapViews
import Derived.JoinedTies
import Derived.KernelRfl
namespace Go.Proofs.Ytadpcmcifbakoaa
/- THE CELL 'sum', in the pinned program and in every row, IS THE sha256 OF THE DUMP (.gsa) THAT YtadpcmcifbakoaaProg.lean LOADS. Nothing in Lean hashes anything: it is a label: what it is worth is what the hold of that sum in a sandbox is worth. -/
noncomputable def Try.pinned : Pinned := { name := "ytadpcmcifbakoaa", sum := "084dc9ab5e6f62ac11ad65349fabb8c90084b594b68534026e93c40994d8a5ad", checked := Try.checked }
namespace Rows
def none {H : Type} : Left H := { results := [], args := [] }

/-- 'laws.FnExactAllTypes': WHATEVER THE INPUT: true; the input reads as it did. -/
def fnExactAllTypesSpec : ChangeSpec := { name := "fnExactAllTypes", fn := fun _ => fun
  | [d] => { results := [.lit (.bool true)], args := [d] }
  | _ => none }
def fnExactAllTypesRow : OpenClaim := { program := "ytadpcmcifbakoaa", sum := "084dc9ab5e6f62ac11ad65349fabb8c90084b594b68534026e93c40994d8a5ad", func := "loop.example/matchcompiler/laws.FnExactAllTypes", spec := "fnExactAllTypes", unfollowed := true, recurses := true, apart := false }
def FnExactAllTypesSaid : Prop := fnExactAllTypesRow.holds Try.pinned (OpenSpec.ofChange fnExactAllTypesSpec)

/-- ITS FALSE NEIGHBOUR: 'it returns false'. Refute it at one input. -/
def fnExactAllTypesWrong : ChangeSpec := { name := "fnExactAllTypes", fn := fun _ => fun
  | [d] => { results := [.lit (.bool false)], args := [d] }
  | _ => none }
def FnExactAllTypesWrongFalsely : Prop := fnExactAllTypesRow.holds Try.pinned (OpenSpec.ofChange fnExactAllTypesWrong)

/-- 'laws.FnAllTypes': WHATEVER THE INPUT: true; the input reads as it did. -/
def fnAllTypesSpec : ChangeSpec := { name := "fnAllTypes", fn := fun _ => fun
  | [d] => { results := [.lit (.bool true)], args := [d] }
  | _ => none }
def fnAllTypesRow : OpenClaim := { program := "ytadpcmcifbakoaa", sum := "084dc9ab5e6f62ac11ad65349fabb8c90084b594b68534026e93c40994d8a5ad", func := "loop.example/matchcompiler/laws.FnAllTypes", spec := "fnAllTypes", unfollowed := true, recurses := true, apart := false }
def FnAllTypesSaid : Prop := fnAllTypesRow.holds Try.pinned (OpenSpec.ofChange fnAllTypesSpec)

/-- ITS FALSE NEIGHBOUR: 'it returns false'. Refute it at one input. -/
def fnAllTypesWrong : ChangeSpec := { name := "fnAllTypes", fn := fun _ => fun
  | [d] => { results := [.lit (.bool false)], args := [d] }
  | _ => none }
def FnAllTypesWrongFalsely : Prop := fnAllTypesRow.holds Try.pinned (OpenSpec.ofChange fnAllTypesWrong)

/-- 'laws.FnExactSameValues': WHATEVER THE INPUT: true; the input reads as it did. -/
def fnExactSameValuesSpec : ChangeSpec := { name := "fnExactSameValues", fn := fun _ => fun
  | [d1, d2, d3] => { results := [.lit (.bool true)], args := [d1, d2, d3] }
  | _ => none }
def fnExactSameValuesRow : OpenClaim := { program := "ytadpcmcifbakoaa", sum := "084dc9ab5e6f62ac11ad65349fabb8c90084b594b68534026e93c40994d8a5ad", func := "loop.example/matchcompiler/laws.FnExactSameValues", spec := "fnExactSameValues", unfollowed := true, recurses := true, apart := false }
def FnExactSameValuesSaid : Prop := fnExactSameValuesRow.holds Try.pinned (OpenSpec.ofChange fnExactSameValuesSpec)

/-- ITS FALSE NEIGHBOUR: 'it returns false'. Refute it at one input. -/
def fnExactSameValuesWrong : ChangeSpec := { name := "fnExactSameValues", fn := fun _ => fun
  | [d1, d2, d3] => { results := [.lit (.bool false)], args := [d1, d2, d3] }
  | _ => none }
def FnExactSameValuesWrongFalsely : Prop := fnExactSameValuesRow.holds Try.pinned (OpenSpec.ofChange fnExactSameValuesWrong)

/-- 'laws.FnSameValues': WHATEVER THE INPUT: true; the input reads as it did. -/
def fnSameValuesSpec : ChangeSpec := { name := "fnSameValues", fn := fun _ => fun
  | [d] => { results := [.lit (.bool true)], args := [d] }
  | _ => none }
def fnSameValuesRow : OpenClaim := { program := "ytadpcmcifbakoaa", sum := "084dc9ab5e6f62ac11ad65349fabb8c90084b594b68534026e93c40994d8a5ad", func := "loop.example/matchcompiler/laws.FnSameValues", spec := "fnSameValues", unfollowed := true, recurses := true, apart := false }
def FnSameValuesSaid : Prop := fnSameValuesRow.holds Try.pinned (OpenSpec.ofChange fnSameValuesSpec)

/-- ITS FALSE NEIGHBOUR: 'it returns false'. Refute it at one input. -/
def fnSameValuesWrong : ChangeSpec := { name := "fnSameValues", fn := fun _ => fun
  | [d] => { results := [.lit (.bool false)], args := [d] }
  | _ => none }
def FnSameValuesWrongFalsely : Prop := fnSameValuesRow.holds Try.pinned (OpenSpec.ofChange fnSameValuesWrong)

/-- 'laws.FnExactTypesOfValue': WHATEVER THE INPUT: true; the input reads as it did. -/
def fnExactTypesOfValueSpec : ChangeSpec := { name := "fnExactTypesOfValue", fn := fun _ => fun
  | [d1, d2] => { results := [.lit (.bool true)], args := [d1, d2] }
  | _ => none }
def fnExactTypesOfValueRow : OpenClaim := { program := "ytadpcmcifbakoaa", sum := "084dc9ab5e6f62ac11ad65349fabb8c90084b594b68534026e93c40994d8a5ad", func := "loop.example/matchcompiler/laws.FnExactTypesOfValue", spec := "fnExactTypesOfValue", unfollowed := true, recurses := true, loops := true, apart := false }
def FnExactTypesOfValueSaid : Prop := fnExactTypesOfValueRow.holds Try.pinned (OpenSpec.ofChange fnExactTypesOfValueSpec)

/-- ITS FALSE NEIGHBOUR: 'it returns false'. Refute it at one input. -/
def fnExactTypesOfValueWrong : ChangeSpec := { name := "fnExactTypesOfValue", fn := fun _ => fun
  | [d1, d2] => { results := [.lit (.bool false)], args := [d1, d2] }
  | _ => none }
def FnExactTypesOfValueWrongFalsely : Prop := fnExactTypesOfValueRow.holds Try.pinned (OpenSpec.ofChange fnExactTypesOfValueWrong)

/-- 'laws.FnTypesOfValue': WHATEVER THE INPUT: true; the input reads as it did. -/
def fnTypesOfValueSpec : ChangeSpec := { name := "fnTypesOfValue", fn := fun _ => fun
  | [d] => { results := [.lit (.bool true)], args := [d] }
  | _ => none }
def fnTypesOfValueRow : OpenClaim := { program := "ytadpcmcifbakoaa", sum := "084dc9ab5e6f62ac11ad65349fabb8c90084b594b68534026e93c40994d8a5ad", func := "loop.example/matchcompiler/laws.FnTypesOfValue", spec := "fnTypesOfValue", unfollowed := true, recurses := true, apart := false }
def FnTypesOfValueSaid : Prop := fnTypesOfValueRow.holds Try.pinned (OpenSpec.ofChange fnTypesOfValueSpec)

/-- ITS FALSE NEIGHBOUR: 'it returns false'. Refute it at one input. -/
def fnTypesOfValueWrong : ChangeSpec := { name := "fnTypesOfValue", fn := fun _ => fun
  | [d] => { results := [.lit (.bool false)], args := [d] }
  | _ => none }
def FnTypesOfValueWrongFalsely : Prop := fnTypesOfValueRow.holds Try.pinned (OpenSpec.ofChange fnTypesOfValueWrong)

/-- 'laws.FnExactTypesOfPattern': WHATEVER THE INPUT: true; the input reads as it did. -/
def fnExactTypesOfPatternSpec : ChangeSpec := { name := "fnExactTypesOfPattern", fn := fun _ => fun
  | [d1, d2] => { results := [.lit (.bool true)], args := [d1, d2] }
  | _ => none }
def fnExactTypesOfPatternRow : OpenClaim := { program := "ytadpcmcifbakoaa", sum := "084dc9ab5e6f62ac11ad65349fabb8c90084b594b68534026e93c40994d8a5ad", func := "loop.example/matchcompiler/laws.FnExactTypesOfPattern", spec := "fnExactTypesOfPattern", unfollowed := true, recurses := true, loops := true, apart := false }
def FnExactTypesOfPatternSaid : Prop := fnExactTypesOfPatternRow.holds Try.pinned (OpenSpec.ofChange fnExactTypesOfPatternSpec)

/-- ITS FALSE NEIGHBOUR: 'it returns false'. Refute it at one input. -/
def fnExactTypesOfPatternWrong : ChangeSpec := { name := "fnExactTypesOfPattern", fn := fun _ => fun
  | [d1, d2] => { results := [.lit (.bool false)], args := [d1, d2] }
  | _ => none }
def FnExactTypesOfPatternWrongFalsely : Prop := fnExactTypesOfPatternRow.holds Try.pinned (OpenSpec.ofChange fnExactTypesOfPatternWrong)

/- THE SECOND FORM. 'bulk': how many values and letters a reading holds, each counted each time it is reached (what is shared counts as often as it is met; a slice's spare places count too). A statement '..UptoSaid' is the law's where the arguments, and the package variables that the reading takes, are together of bulk at most 1048576: NARROWER than '..Said'. Prove '..Said' where nothing that the law and all that it calls make is longer than what came in: it says more and counts as full. Else prove '..UptoSaid'. A law counts once. -/
mutual
def uptoBulk {H : Type} : DataW H → Nat
  | .lit (.string bytes) => bytes.length + 1
  | .lit _ => 1
  | .nil => 1
  | .ptr d => uptoBulk d + 1
  | .slice elems spare => uptoBulkAll elems + uptoBulkAll spare + 1
  | .agg parts => uptoBulkAll parts + 1
  | .iface _ d => uptoBulk d + 1
  | .map entries => uptoBulkEntries entries + 1
  | .held _ => 1
def uptoBulkAll {H : Type} : List (DataW H) → Nat
  | [] => 0
  | d :: r => uptoBulk d + uptoBulkAll r
def uptoBulkEntries {H : Type} : List (Lit × DataW H) → Nat
  | [] => 0
  | x :: r => uptoBulkEntry x + uptoBulkEntries r
def uptoBulkEntry {H : Type} : Lit × DataW H → Nat
  | (.string bytes, d) => bytes.length + uptoBulk d + 1
  | (_, d) => uptoBulk d + 1
 end
def uptoSmall : (H : Type) → List (DataW H) → Bool := fun _ ds => decide (uptoBulkAll ds ≤ 1048576)
def OpenSpec.upto (s : _root_.Go.ChangeSpec) : _root_.Go.OpenSpec := { _root_.Go.OpenSpec.ofChange s with cond := some uptoSmall }

/-- 'laws.FnExactAllTypes', WHERE WHAT IT READS IS OF BULK AT MOST 1048576: true; the input reads as it did. -/
def fnExactAllTypesUptoRow : OpenClaim := { program := "ytadpcmcifbakoaa", sum := "084dc9ab5e6f62ac11ad65349fabb8c90084b594b68534026e93c40994d8a5ad", func := "loop.example/matchcompiler/laws.FnExactAllTypes", spec := "fnExactAllTypes", unfollowed := true, recurses := true, apart := false, narrowed := true }
def FnExactAllTypesUptoSaid : Prop := fnExactAllTypesUptoRow.holds Try.pinned (OpenSpec.upto fnExactAllTypesSpec)

/-- 'laws.FnAllTypes', WHERE WHAT IT READS IS OF BULK AT MOST 1048576: true; the input reads as it did. -/
def fnAllTypesUptoRow : OpenClaim := { program := "ytadpcmcifbakoaa", sum := "084dc9ab5e6f62ac11ad65349fabb8c90084b594b68534026e93c40994d8a5ad", func := "loop.example/matchcompiler/laws.FnAllTypes", spec := "fnAllTypes", unfollowed := true, recurses := true, apart := false, narrowed := true }
def FnAllTypesUptoSaid : Prop := fnAllTypesUptoRow.holds Try.pinned (OpenSpec.upto fnAllTypesSpec)

/-- 'laws.FnExactSameValues', WHERE WHAT IT READS IS OF BULK AT MOST 1048576: true; the input reads as it did. -/
def fnExactSameValuesUptoRow : OpenClaim := { program := "ytadpcmcifbakoaa", sum := "084dc9ab5e6f62ac11ad65349fabb8c90084b594b68534026e93c40994d8a5ad", func := "loop.example/matchcompiler/laws.FnExactSameValues", spec := "fnExactSameValues", unfollowed := true, recurses := true, apart := false, narrowed := true }
def FnExactSameValuesUptoSaid : Prop := fnExactSameValuesUptoRow.holds Try.pinned (OpenSpec.upto fnExactSameValuesSpec)

/-- 'laws.FnSameValues', WHERE WHAT IT READS IS OF BULK AT MOST 1048576: true; the input reads as it did. -/
def fnSameValuesUptoRow : OpenClaim := { program := "ytadpcmcifbakoaa", sum := "084dc9ab5e6f62ac11ad65349fabb8c90084b594b68534026e93c40994d8a5ad", func := "loop.example/matchcompiler/laws.FnSameValues", spec := "fnSameValues", unfollowed := true, recurses := true, apart := false, narrowed := true }
def FnSameValuesUptoSaid : Prop := fnSameValuesUptoRow.holds Try.pinned (OpenSpec.upto fnSameValuesSpec)

/-- 'laws.FnExactTypesOfValue', WHERE WHAT IT READS IS OF BULK AT MOST 1048576: true; the input reads as it did. -/
def fnExactTypesOfValueUptoRow : OpenClaim := { program := "ytadpcmcifbakoaa", sum := "084dc9ab5e6f62ac11ad65349fabb8c90084b594b68534026e93c40994d8a5ad", func := "loop.example/matchcompiler/laws.FnExactTypesOfValue", spec := "fnExactTypesOfValue", unfollowed := true, recurses := true, loops := true, apart := false, narrowed := true }
def FnExactTypesOfValueUptoSaid : Prop := fnExactTypesOfValueUptoRow.holds Try.pinned (OpenSpec.upto fnExactTypesOfValueSpec)

/-- 'laws.FnTypesOfValue', WHERE WHAT IT READS IS OF BULK AT MOST 1048576: true; the input reads as it did. -/
def fnTypesOfValueUptoRow : OpenClaim := { program := "ytadpcmcifbakoaa", sum := "084dc9ab5e6f62ac11ad65349fabb8c90084b594b68534026e93c40994d8a5ad", func := "loop.example/matchcompiler/laws.FnTypesOfValue", spec := "fnTypesOfValue", unfollowed := true, recurses := true, apart := false, narrowed := true }
def FnTypesOfValueUptoSaid : Prop := fnTypesOfValueUptoRow.holds Try.pinned (OpenSpec.upto fnTypesOfValueSpec)

/-- 'laws.FnExactTypesOfPattern', WHERE WHAT IT READS IS OF BULK AT MOST 1048576: true; the input reads as it did. -/
def fnExactTypesOfPatternUptoRow : OpenClaim := { program := "ytadpcmcifbakoaa", sum := "084dc9ab5e6f62ac11ad65349fabb8c90084b594b68534026e93c40994d8a5ad", func := "loop.example/matchcompiler/laws.FnExactTypesOfPattern", spec := "fnExactTypesOfPattern", unfollowed := true, recurses := true, loops := true, apart := false, narrowed := true }
def FnExactTypesOfPatternUptoSaid : Prop := fnExactTypesOfPatternUptoRow.holds Try.pinned (OpenSpec.upto fnExactTypesOfPatternSpec)

end Rows
end Go.Proofs.Ytadpcmcifbakoaa
