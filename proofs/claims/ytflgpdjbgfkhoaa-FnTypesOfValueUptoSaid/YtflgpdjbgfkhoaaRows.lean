/-
  No cell of these rows narrows 'for every input' (looked for: loops, veiled, ifaces, maps, wideKeys, modest, calm, conditions, laid).
  DERIVED. THE GIVEN ROWS OF THIS SEAT. 3 by the template 'for every input the law returns true; each argument reads behind the call as it read before'; 0 by the template 'total and deterministic' (their statements: YtflgpdjbgfkhoaaTotals.lean).
  GIVEN WITH THE SEED: the statements are not yours to turn. If you find one false, say at which input.
  Laid BY PROGRAM, IN A SANDBOX (cutbox-rows.mjs): the forced cells as the released guide's own fill.sh prints them over the translation 72bb19991613a197… (all of the seat's roots in one cut). By AI agents, Wed Nov 11 2026. No macro, syntax, notation, axiom, sorry.
-/
import Derived.Test.YtflgpdjbgfkhoaaChecked
import GoSem.Claim
import GoSem.ClaimJoined
import GoSem.ClaimMapViews
import Derived.JoinedTies
import Derived.KernelRfl
namespace Go.Proofs.Ytflgpdjbgfkhoaa
/- THE CELL 'sum', in the pinned program and in every row, IS THE sha256 OF THE DUMP (.gsa) THAT YtflgpdjbgfkhoaaProg.lean LOADS. Nothing in Lean hashes anything: it is a label: what it is worth is what the hold of that sum in a sandbox is worth. -/
noncomputable def Try.pinned : Pinned := { name := "ytflgpdjbgfkhoaa", sum := "72bb19991613a197bc80c17984cc6a13e5c6def3bde88d8b90eb5cb37f208404", checked := Try.checked }
namespace Rows
def none {H : Type} : Left H := { results := [], args := [] }

/-- 'laws.FnAllTypes': WHATEVER THE INPUT: true; the input reads as it did. -/
def fnAllTypesSpec : ChangeSpec := { name := "fnAllTypes", fn := fun _ => fun
  | [d] => { results := [.lit (.bool true)], args := [d] }
  | _ => none }
def fnAllTypesRow : OpenClaim := { program := "ytflgpdjbgfkhoaa", sum := "72bb19991613a197bc80c17984cc6a13e5c6def3bde88d8b90eb5cb37f208404", func := "loop.example/matchcompiler/laws.FnAllTypes", spec := "fnAllTypes", unfollowed := true, recurses := true, apart := false }
def FnAllTypesSaid : Prop := fnAllTypesRow.holds Try.pinned (OpenSpec.ofChange fnAllTypesSpec)

/-- ITS FALSE NEIGHBOUR: 'it returns false'. Refute it at one input. -/
def fnAllTypesWrong : ChangeSpec := { name := "fnAllTypes", fn := fun _ => fun
  | [d] => { results := [.lit (.bool false)], args := [d] }
  | _ => none }
def FnAllTypesWrongFalsely : Prop := fnAllTypesRow.holds Try.pinned (OpenSpec.ofChange fnAllTypesWrong)

/-- 'laws.FnTypesOfValue': WHATEVER THE INPUT: true; the input reads as it did. -/
def fnTypesOfValueSpec : ChangeSpec := { name := "fnTypesOfValue", fn := fun _ => fun
  | [d] => { results := [.lit (.bool true)], args := [d] }
  | _ => none }
def fnTypesOfValueRow : OpenClaim := { program := "ytflgpdjbgfkhoaa", sum := "72bb19991613a197bc80c17984cc6a13e5c6def3bde88d8b90eb5cb37f208404", func := "loop.example/matchcompiler/laws.FnTypesOfValue", spec := "fnTypesOfValue", unfollowed := true, recurses := true, apart := false }
def FnTypesOfValueSaid : Prop := fnTypesOfValueRow.holds Try.pinned (OpenSpec.ofChange fnTypesOfValueSpec)

/-- ITS FALSE NEIGHBOUR: 'it returns false'. Refute it at one input. -/
def fnTypesOfValueWrong : ChangeSpec := { name := "fnTypesOfValue", fn := fun _ => fun
  | [d] => { results := [.lit (.bool false)], args := [d] }
  | _ => none }
def FnTypesOfValueWrongFalsely : Prop := fnTypesOfValueRow.holds Try.pinned (OpenSpec.ofChange fnTypesOfValueWrong)

/-- 'laws.FnTypesOfPattern': WHATEVER THE INPUT: true; the input reads as it did. -/
def fnTypesOfPatternSpec : ChangeSpec := { name := "fnTypesOfPattern", fn := fun _ => fun
  | [d] => { results := [.lit (.bool true)], args := [d] }
  | _ => none }
def fnTypesOfPatternRow : OpenClaim := { program := "ytflgpdjbgfkhoaa", sum := "72bb19991613a197bc80c17984cc6a13e5c6def3bde88d8b90eb5cb37f208404", func := "loop.example/matchcompiler/laws.FnTypesOfPattern", spec := "fnTypesOfPattern", unfollowed := true, recurses := true, apart := false }
def FnTypesOfPatternSaid : Prop := fnTypesOfPatternRow.holds Try.pinned (OpenSpec.ofChange fnTypesOfPatternSpec)

/-- ITS FALSE NEIGHBOUR: 'it returns false'. Refute it at one input. -/
def fnTypesOfPatternWrong : ChangeSpec := { name := "fnTypesOfPattern", fn := fun _ => fun
  | [d] => { results := [.lit (.bool false)], args := [d] }
  | _ => none }
def FnTypesOfPatternWrongFalsely : Prop := fnTypesOfPatternRow.holds Try.pinned (OpenSpec.ofChange fnTypesOfPatternWrong)

/- THE SECOND FORM. 'bulk': how many values and letters a reading holds, each counted each time it is reached (what is shared counts as often as it is met; a slice's spare places count too). A statement '..UptoSaid' is the law's where the arguments, and the package variables that the reading takes, are together of bulk at most 1048576: NARROWER than '..Said'. Prove '..Said' where nothing that the law and all that it calls make is longer than what came in: it says more and counts as full. Else prove '..UptoSaid'. A law counts once. -/
mutual
def uptoBulk {H : Type} : DataW H → Nat
  | .lit (.string bytes) => bytes.length + 1
  | .lit _ => 1
  | .nil => 1
  | .ptr d => uptoBulk d + 1
  | .slice elems spare => uptoBulkAll elems + uptoBulkAll spare + 1
  | .agg parts => uptoBulkAll parts + 1
  | .iface _ d => uptoBulk d + 1
  | .map entries => uptoBulkEntries entries + 1
  | .held _ => 1
def uptoBulkAll {H : Type} : List (DataW H) → Nat
  | [] => 0
  | d :: r => uptoBulk d + uptoBulkAll r
def uptoBulkEntries {H : Type} : List (Lit × DataW H) → Nat
  | [] => 0
  | x :: r => uptoBulkEntry x + uptoBulkEntries r
def uptoBulkEntry {H : Type} : Lit × DataW H → Nat
  | (.string bytes, d) => bytes.length + uptoBulk d + 1
  | (_, d) => uptoBulk d + 1
 end
def uptoSmall : (H : Type) → List (DataW H) → Bool := fun _ ds => decide (uptoBulkAll ds ≤ 1048576)
def OpenSpec.upto (s : _root_.Go.ChangeSpec) : _root_.Go.OpenSpec := { _root_.Go.OpenSpec.ofChange s with cond := some uptoSmall }

/-- 'laws.FnAllTypes', WHERE WHAT IT READS IS OF BULK AT MOST 1048576: true; the input reads as it did. -/
def fnAllTypesUptoRow : OpenClaim := { program := "ytflgpdjbgfkhoaa", sum := "72bb19991613a197bc80c17984cc6a13e5c6def3bde88d8b90eb5cb37f208404", func := "loop.example/matchcompiler/laws.FnAllTypes", spec := "fnAllTypes", unfollowed := true, recurses := true, apart := false, narrowed := true }
def FnAllTypesUptoSaid : Prop := fnAllTypesUptoRow.holds Try.pinned (OpenSpec.upto fnAllTypesSpec)

/-- 'laws.FnTypesOfValue', WHERE WHAT IT READS IS OF BULK AT MOST 1048576: true; the input reads as it did. -/
def fnTypesOfValueUptoRow : OpenClaim := { program := "ytflgpdjbgfkhoaa", sum := "72bb19991613a197bc80c17984cc6a13e5c6def3bde88d8b90eb5cb37f208404", func := "loop.example/matchcompiler/laws.FnTypesOfValue", spec := "fnTypesOfValue", unfollowed := true, recurses := true, apart := false, narrowed := true }
def FnTypesOfValueUptoSaid : Prop := fnTypesOfValueUptoRow.holds Try.pinned (OpenSpec.upto fnTypesOfValueSpec)

/-- 'laws.FnTypesOfPattern', WHERE WHAT IT READS IS OF BULK AT MOST 1048576: true; the input reads as it did. -/
def fnTypesOfPatternUptoRow : OpenClaim := { program := "ytflgpdjbgfkhoaa", sum := "72bb19991613a197bc80c17984cc6a13e5c6def3bde88d8b90eb5cb37f208404", func := "loop.example/matchcompiler/laws.FnTypesOfPattern", spec := "fnTypesOfPattern", unfollowed := true, recurses := true, apart := false, narrowed := true }
def FnTypesOfPatternUptoSaid : Prop := fnTypesOfPatternUptoRow.holds Try.pinned (OpenSpec.upto fnTypesOfPatternSpec)

end Rows
end Go.Proofs.Ytflgpdjbgfkhoaa
