/-
  No cell of these rows narrows 'for every input' (looked for: loops, veiled, ifaces, maps, wideKeys, modest, calm, conditions, laid).
  DERIVED. THE GIVEN ROWS OF THIS SEAT. 2 by the template 'for every input the law returns true; each argument reads behind the call as it read before'; 0 by the template 'total and deterministic' (their statements: YtggeboodoeemkaaGreatTotals.lean).
  GIVEN WITH THE SEED: the statements are not yours to turn. If you find one false, say at which input.
  Laid BY PROGRAM, IN A SANDBOX (cutbox-rows.mjs): the forced cells as the released guide's own fill.sh prints them over the translation 4fd4c16e31f45f87… (all of the seat's roots in one cut). By AI agents, Wed Nov 11 2026. No macro, syntax, notation, axiom, sorry.
-/
import Derived.Test.YtggeboodoeemkaaGreatChecked
import GoSem.Claim
import GoSem.ClaimJoined
import GoSem.ClaimMapViews
import Derived.JoinedTies
import Derived.KernelRfl
namespace Go.Proofs.YtggeboodoeemkaaGreat
/- THE CELL 'sum', in the pinned program and in every row, IS THE sha256 OF THE DUMP (.gsa) THAT YtggeboodoeemkaaGreatProg.lean LOADS. Nothing in Lean hashes anything: it is a label: what it is worth is what the hold of that sum in a sandbox is worth. -/
noncomputable def Tryz.pinned : Pinned := { name := "ytggeboodoeemkaagreat", sum := "4fd4c16e31f45f8733bcc873bf7cb1a19ab7acbf7172b8d954287f657d44c8a4", checked := Tryz.checked }
namespace Rows
def none {H : Type} : Left H := { results := [], args := [] }

/-- 'laws.FnIndicesOf': WHATEVER THE INPUT: true; the input reads as it did. -/
def fnIndicesOfSpec : ChangeSpec := { name := "fnIndicesOf", fn := fun _ => fun
  | [d1, d2] => { results := [.lit (.bool true)], args := [d1, d2] }
  | _ => none }
def fnIndicesOfRow : OpenClaim := { program := "ytggeboodoeemkaagreat", sum := "4fd4c16e31f45f8733bcc873bf7cb1a19ab7acbf7172b8d954287f657d44c8a4", func := "loop.example/matchcompiler/laws.FnIndicesOf", spec := "fnIndicesOf", unfollowed := true, recurses := true, apart := false }
def FnIndicesOfSaid : Prop := fnIndicesOfRow.holds Tryz.pinned (OpenSpec.ofChange fnIndicesOfSpec)

/-- ITS FALSE NEIGHBOUR: 'it returns false'. Refute it at one input. -/
def fnIndicesOfWrong : ChangeSpec := { name := "fnIndicesOf", fn := fun _ => fun
  | [d1, d2] => { results := [.lit (.bool false)], args := [d1, d2] }
  | _ => none }
def FnIndicesOfWrongFalsely : Prop := fnIndicesOfRow.holds Tryz.pinned (OpenSpec.ofChange fnIndicesOfWrong)

/-- 'laws.FnNarrowType': WHATEVER THE INPUT: true; the input reads as it did. -/
def fnNarrowTypeSpec : ChangeSpec := { name := "fnNarrowType", fn := fun _ => fun
  | [d1, d2] => { results := [.lit (.bool true)], args := [d1, d2] }
  | _ => none }
def fnNarrowTypeRow : OpenClaim := { program := "ytggeboodoeemkaagreat", sum := "4fd4c16e31f45f8733bcc873bf7cb1a19ab7acbf7172b8d954287f657d44c8a4", func := "loop.example/matchcompiler/laws.FnNarrowType", spec := "fnNarrowType", unfollowed := true, recurses := true, apart := false }
def FnNarrowTypeSaid : Prop := fnNarrowTypeRow.holds Tryz.pinned (OpenSpec.ofChange fnNarrowTypeSpec)

/-- ITS FALSE NEIGHBOUR: 'it returns false'. Refute it at one input. -/
def fnNarrowTypeWrong : ChangeSpec := { name := "fnNarrowType", fn := fun _ => fun
  | [d1, d2] => { results := [.lit (.bool false)], args := [d1, d2] }
  | _ => none }
def FnNarrowTypeWrongFalsely : Prop := fnNarrowTypeRow.holds Tryz.pinned (OpenSpec.ofChange fnNarrowTypeWrong)

/- THE SECOND FORM. 'bulk': how many values and letters a reading holds, each counted each time it is reached (what is shared counts as often as it is met; a slice's spare places count too). A statement '..UptoSaid' is the law's where the arguments, and the package variables that the reading takes, are together of bulk at most 1048576: NARROWER than '..Said'. Prove '..Said' where nothing that the law and all that it calls make is longer than what came in: it says more and counts as full. Else prove '..UptoSaid'. A law counts once. -/
mutual
def uptoBulk {H : Type} : DataW H → Nat
  | .lit (.string bytes) => bytes.length + 1
  | .lit _ => 1
  | .nil => 1
  | .ptr d => uptoBulk d + 1
  | .slice elems spare => uptoBulkAll elems + uptoBulkAll spare + 1
  | .agg parts => uptoBulkAll parts + 1
  | .iface _ d => uptoBulk d + 1
  | .map entries => uptoBulkEntries entries + 1
  | .held _ => 1
def uptoBulkAll {H : Type} : List (DataW H) → Nat
  | [] => 0
  | d :: r => uptoBulk d + uptoBulkAll r
def uptoBulkEntries {H : Type} : List (Lit × DataW H) → Nat
  | [] => 0
  | x :: r => uptoBulkEntry x + uptoBulkEntries r
def uptoBulkEntry {H : Type} : Lit × DataW H → Nat
  | (.string bytes, d) => bytes.length + uptoBulk d + 1
  | (_, d) => uptoBulk d + 1
 end
def uptoSmall : (H : Type) → List (DataW H) → Bool := fun _ ds => decide (uptoBulkAll ds ≤ 1048576)
def OpenSpec.upto (s : _root_.Go.ChangeSpec) : _root_.Go.OpenSpec := { _root_.Go.OpenSpec.ofChange s with cond := some uptoSmall }

/-- 'laws.FnIndicesOf', WHERE WHAT IT READS IS OF BULK AT MOST 1048576: true; the input reads as it did. -/
def fnIndicesOfUptoRow : OpenClaim := { program := "ytggeboodoeemkaagreat", sum := "4fd4c16e31f45f8733bcc873bf7cb1a19ab7acbf7172b8d954287f657d44c8a4", func := "loop.example/matchcompiler/laws.FnIndicesOf", spec := "fnIndicesOf", unfollowed := true, recurses := true, apart := false, narrowed := true }
def FnIndicesOfUptoSaid : Prop := fnIndicesOfUptoRow.holds Tryz.pinned (OpenSpec.upto fnIndicesOfSpec)

/-- 'laws.FnNarrowType', WHERE WHAT IT READS IS OF BULK AT MOST 1048576: true; the input reads as it did. -/
def fnNarrowTypeUptoRow : OpenClaim := { program := "ytggeboodoeemkaagreat", sum := "4fd4c16e31f45f8733bcc873bf7cb1a19ab7acbf7172b8d954287f657d44c8a4", func := "loop.example/matchcompiler/laws.FnNarrowType", spec := "fnNarrowType", unfollowed := true, recurses := true, apart := false, narrowed := true }
def FnNarrowTypeUptoSaid : Prop := fnNarrowTypeUptoRow.holds Tryz.pinned (OpenSpec.upto fnNarrowTypeSpec)

end Rows
end Go.Proofs.YtggeboodoeemkaaGreat
