/-
  No cell of these rows narrows 'for every input' (looked for: loops, veiled, ifaces, maps, wideKeys, modest, calm, conditions, laid).
  DERIVED. THE GIVEN ROWS OF THIS SEAT. 12 by the template 'for every input the law returns true; each argument reads behind the call as it read before'; 0 by the template 'total and deterministic' (their statements: YtpgdedpljcedpaaGreatTotals.lean).
  GIVEN WITH THE SEED: the statements are not yours to turn. If you find one false, say at which input.
  Laid BY PROGRAM, IN A SANDBOX (cutbox-rows.mjs): the forced cells as the released guide's own fill.sh prints them over the translation 082223ac19ab6b99… (all of the seat's roots in one cut). By AI agents, Wed Nov 11 2026. No macro, syntax, notation, axiom, sorry.
-/
import Derived.Test.YtpgdedpljcedpaaGreatChecked
import GoSem.Claim
import GoSem.ClaimJoined
import GoSem.ClaimMapViews
import Derived.JoinedTies
import Derived.KernelRfl
namespace Go.Proofs.YtpgdedpljcedpaaGreat
/- THE CELL 'sum', in the pinned program and in every row, IS THE sha256 OF THE DUMP (.gsa) THAT YtpgdedpljcedpaaGreatProg.lean LOADS. Nothing in Lean hashes anything: it is a label: what it is worth is what the hold of that sum in a sandbox is worth. -/
noncomputable def Tryz.pinned : Pinned := { name := "ytpgdedpljcedpaagreat", sum := "082223ac19ab6b99b0609e0c45aa9ef418eb983ffeebf8f164c5dc6619aa94da", checked := Tryz.checked }
namespace Rows
def none {H : Type} : Left H := { results := [], args := [] }

/-- 'laws.FnMinusSelf': WHATEVER THE INPUT: true; the input reads as it did. -/
def fnMinusSelfSpec : ChangeSpec := { name := "fnMinusSelf", fn := fun _ => fun
  | [d] => { results := [.lit (.bool true)], args := [d] }
  | _ => none }
def fnMinusSelfRow : OpenClaim := { program := "ytpgdedpljcedpaagreat", sum := "082223ac19ab6b99b0609e0c45aa9ef418eb983ffeebf8f164c5dc6619aa94da", func := "loop.example/matchcompiler/laws.FnMinusSelf", spec := "fnMinusSelf", unfollowed := true, recurses := true, apart := false }
def FnMinusSelfSaid : Prop := fnMinusSelfRow.holds Tryz.pinned (OpenSpec.ofChange fnMinusSelfSpec)

/-- ITS FALSE NEIGHBOUR: 'it returns false'. Refute it at one input. -/
def fnMinusSelfWrong : ChangeSpec := { name := "fnMinusSelf", fn := fun _ => fun
  | [d] => { results := [.lit (.bool false)], args := [d] }
  | _ => none }
def FnMinusSelfWrongFalsely : Prop := fnMinusSelfRow.holds Tryz.pinned (OpenSpec.ofChange fnMinusSelfWrong)

/-- 'laws.FnWithinAny': WHATEVER THE INPUT: true; the input reads as it did. -/
def fnWithinAnySpec : ChangeSpec := { name := "fnWithinAny", fn := fun _ => fun
  | [d] => { results := [.lit (.bool true)], args := [d] }
  | _ => none }
def fnWithinAnyRow : OpenClaim := { program := "ytpgdedpljcedpaagreat", sum := "082223ac19ab6b99b0609e0c45aa9ef418eb983ffeebf8f164c5dc6619aa94da", func := "loop.example/matchcompiler/laws.FnWithinAny", spec := "fnWithinAny", unfollowed := true, recurses := true, apart := false }
def FnWithinAnySaid : Prop := fnWithinAnyRow.holds Tryz.pinned (OpenSpec.ofChange fnWithinAnySpec)

/-- ITS FALSE NEIGHBOUR: 'it returns false'. Refute it at one input. -/
def fnWithinAnyWrong : ChangeSpec := { name := "fnWithinAny", fn := fun _ => fun
  | [d] => { results := [.lit (.bool false)], args := [d] }
  | _ => none }
def FnWithinAnyWrongFalsely : Prop := fnWithinAnyRow.holds Tryz.pinned (OpenSpec.ofChange fnWithinAnyWrong)

/-- 'laws.FnMinusPatterns': WHATEVER THE INPUT: true; the input reads as it did. -/
def fnMinusPatternsSpec : ChangeSpec := { name := "fnMinusPatterns", fn := fun _ => fun
  | [d1, d2] => { results := [.lit (.bool true)], args := [d1, d2] }
  | _ => none }
def fnMinusPatternsRow : OpenClaim := { program := "ytpgdedpljcedpaagreat", sum := "082223ac19ab6b99b0609e0c45aa9ef418eb983ffeebf8f164c5dc6619aa94da", func := "loop.example/matchcompiler/laws.FnMinusPatterns", spec := "fnMinusPatterns", unfollowed := true, recurses := true, apart := false }
def FnMinusPatternsSaid : Prop := fnMinusPatternsRow.holds Tryz.pinned (OpenSpec.ofChange fnMinusPatternsSpec)

/-- ITS FALSE NEIGHBOUR: 'it returns false'. Refute it at one input. -/
def fnMinusPatternsWrong : ChangeSpec := { name := "fnMinusPatterns", fn := fun _ => fun
  | [d1, d2] => { results := [.lit (.bool false)], args := [d1, d2] }
  | _ => none }
def FnMinusPatternsWrongFalsely : Prop := fnMinusPatternsRow.holds Tryz.pinned (OpenSpec.ofChange fnMinusPatternsWrong)

/-- 'laws.FnSplitSpace': WHATEVER THE INPUT: true; the input reads as it did. -/
def fnSplitSpaceSpec : ChangeSpec := { name := "fnSplitSpace", fn := fun _ => fun
  | [d] => { results := [.lit (.bool true)], args := [d] }
  | _ => none }
def fnSplitSpaceRow : OpenClaim := { program := "ytpgdedpljcedpaagreat", sum := "082223ac19ab6b99b0609e0c45aa9ef418eb983ffeebf8f164c5dc6619aa94da", func := "loop.example/matchcompiler/laws.FnSplitSpace", spec := "fnSplitSpace", unfollowed := true, recurses := true, apart := false }
def FnSplitSpaceSaid : Prop := fnSplitSpaceRow.holds Tryz.pinned (OpenSpec.ofChange fnSplitSpaceSpec)

/-- ITS FALSE NEIGHBOUR: 'it returns false'. Refute it at one input. -/
def fnSplitSpaceWrong : ChangeSpec := { name := "fnSplitSpace", fn := fun _ => fun
  | [d] => { results := [.lit (.bool false)], args := [d] }
  | _ => none }
def FnSplitSpaceWrongFalsely : Prop := fnSplitSpaceRow.holds Tryz.pinned (OpenSpec.ofChange fnSplitSpaceWrong)

/-- 'laws.FnMeetPatterns': WHATEVER THE INPUT: true; the input reads as it did. -/
def fnMeetPatternsSpec : ChangeSpec := { name := "fnMeetPatterns", fn := fun _ => fun
  | [d1, d2] => { results := [.lit (.bool true)], args := [d1, d2] }
  | _ => none }
def fnMeetPatternsRow : OpenClaim := { program := "ytpgdedpljcedpaagreat", sum := "082223ac19ab6b99b0609e0c45aa9ef418eb983ffeebf8f164c5dc6619aa94da", func := "loop.example/matchcompiler/laws.FnMeetPatterns", spec := "fnMeetPatterns", unfollowed := true, recurses := true, apart := false }
def FnMeetPatternsSaid : Prop := fnMeetPatternsRow.holds Tryz.pinned (OpenSpec.ofChange fnMeetPatternsSpec)

/-- ITS FALSE NEIGHBOUR: 'it returns false'. Refute it at one input. -/
def fnMeetPatternsWrong : ChangeSpec := { name := "fnMeetPatterns", fn := fun _ => fun
  | [d1, d2] => { results := [.lit (.bool false)], args := [d1, d2] }
  | _ => none }
def FnMeetPatternsWrongFalsely : Prop := fnMeetPatternsRow.holds Tryz.pinned (OpenSpec.ofChange fnMeetPatternsWrong)

/-- 'laws.FnMeetBoth': WHATEVER THE INPUT: true; the input reads as it did. -/
def fnMeetBothSpec : ChangeSpec := { name := "fnMeetBoth", fn := fun _ => fun
  | [d] => { results := [.lit (.bool true)], args := [d] }
  | _ => none }
def fnMeetBothRow : OpenClaim := { program := "ytpgdedpljcedpaagreat", sum := "082223ac19ab6b99b0609e0c45aa9ef418eb983ffeebf8f164c5dc6619aa94da", func := "loop.example/matchcompiler/laws.FnMeetBoth", spec := "fnMeetBoth", unfollowed := true, recurses := true, apart := false }
def FnMeetBothSaid : Prop := fnMeetBothRow.holds Tryz.pinned (OpenSpec.ofChange fnMeetBothSpec)

/-- ITS FALSE NEIGHBOUR: 'it returns false'. Refute it at one input. -/
def fnMeetBothWrong : ChangeSpec := { name := "fnMeetBoth", fn := fun _ => fun
  | [d] => { results := [.lit (.bool false)], args := [d] }
  | _ => none }
def FnMeetBothWrongFalsely : Prop := fnMeetBothRow.holds Tryz.pinned (OpenSpec.ofChange fnMeetBothWrong)

/-- 'laws.FnMeetClauses': WHATEVER THE INPUT: true; the input reads as it did. -/
def fnMeetClausesSpec : ChangeSpec := { name := "fnMeetClauses", fn := fun _ => fun
  | [d] => { results := [.lit (.bool true)], args := [d] }
  | _ => none }
def fnMeetClausesRow : OpenClaim := { program := "ytpgdedpljcedpaagreat", sum := "082223ac19ab6b99b0609e0c45aa9ef418eb983ffeebf8f164c5dc6619aa94da", func := "loop.example/matchcompiler/laws.FnMeetClauses", spec := "fnMeetClauses", unfollowed := true, recurses := true, apart := false }
def FnMeetClausesSaid : Prop := fnMeetClausesRow.holds Tryz.pinned (OpenSpec.ofChange fnMeetClausesSpec)

/-- ITS FALSE NEIGHBOUR: 'it returns false'. Refute it at one input. -/
def fnMeetClausesWrong : ChangeSpec := { name := "fnMeetClauses", fn := fun _ => fun
  | [d] => { results := [.lit (.bool false)], args := [d] }
  | _ => none }
def FnMeetClausesWrongFalsely : Prop := fnMeetClausesRow.holds Tryz.pinned (OpenSpec.ofChange fnMeetClausesWrong)

/-- 'laws.FnEmptyPattern': WHATEVER THE INPUT: true; the input reads as it did. -/
def fnEmptyPatternSpec : ChangeSpec := { name := "fnEmptyPattern", fn := fun _ => fun
  | [d] => { results := [.lit (.bool true)], args := [d] }
  | _ => none }
def fnEmptyPatternRow : OpenClaim := { program := "ytpgdedpljcedpaagreat", sum := "082223ac19ab6b99b0609e0c45aa9ef418eb983ffeebf8f164c5dc6619aa94da", func := "loop.example/matchcompiler/laws.FnEmptyPattern", spec := "fnEmptyPattern", unfollowed := true, recurses := true, apart := false }
def FnEmptyPatternSaid : Prop := fnEmptyPatternRow.holds Tryz.pinned (OpenSpec.ofChange fnEmptyPatternSpec)

/-- ITS FALSE NEIGHBOUR: 'it returns false'. Refute it at one input. -/
def fnEmptyPatternWrong : ChangeSpec := { name := "fnEmptyPattern", fn := fun _ => fun
  | [d] => { results := [.lit (.bool false)], args := [d] }
  | _ => none }
def FnEmptyPatternWrongFalsely : Prop := fnEmptyPatternRow.holds Tryz.pinned (OpenSpec.ofChange fnEmptyPatternWrong)

/-- 'laws.FnWithinPattern': WHATEVER THE INPUT: true; the input reads as it did. -/
def fnWithinPatternSpec : ChangeSpec := { name := "fnWithinPattern", fn := fun _ => fun
  | [d] => { results := [.lit (.bool true)], args := [d] }
  | _ => none }
def fnWithinPatternRow : OpenClaim := { program := "ytpgdedpljcedpaagreat", sum := "082223ac19ab6b99b0609e0c45aa9ef418eb983ffeebf8f164c5dc6619aa94da", func := "loop.example/matchcompiler/laws.FnWithinPattern", spec := "fnWithinPattern", unfollowed := true, recurses := true, apart := false }
def FnWithinPatternSaid : Prop := fnWithinPatternRow.holds Tryz.pinned (OpenSpec.ofChange fnWithinPatternSpec)

/-- ITS FALSE NEIGHBOUR: 'it returns false'. Refute it at one input. -/
def fnWithinPatternWrong : ChangeSpec := { name := "fnWithinPattern", fn := fun _ => fun
  | [d] => { results := [.lit (.bool false)], args := [d] }
  | _ => none }
def FnWithinPatternWrongFalsely : Prop := fnWithinPatternRow.holds Tryz.pinned (OpenSpec.ofChange fnWithinPatternWrong)

/-- 'laws.FnTwice': WHATEVER THE INPUT: true; the input reads as it did. -/
def fnTwiceSpec : ChangeSpec := { name := "fnTwice", fn := fun _ => fun
  | [d] => { results := [.lit (.bool true)], args := [d] }
  | _ => none }
def fnTwiceRow : OpenClaim := { program := "ytpgdedpljcedpaagreat", sum := "082223ac19ab6b99b0609e0c45aa9ef418eb983ffeebf8f164c5dc6619aa94da", func := "loop.example/matchcompiler/laws.FnTwice", spec := "fnTwice", unfollowed := true, recurses := true, apart := false }
def FnTwiceSaid : Prop := fnTwiceRow.holds Tryz.pinned (OpenSpec.ofChange fnTwiceSpec)

/-- ITS FALSE NEIGHBOUR: 'it returns false'. Refute it at one input. -/
def fnTwiceWrong : ChangeSpec := { name := "fnTwice", fn := fun _ => fun
  | [d] => { results := [.lit (.bool false)], args := [d] }
  | _ => none }
def FnTwiceWrongFalsely : Prop := fnTwiceRow.holds Tryz.pinned (OpenSpec.ofChange fnTwiceWrong)

/-- 'laws.FnReachedOnce': WHATEVER THE INPUT: true; the input reads as it did. -/
def fnReachedOnceSpec : ChangeSpec := { name := "fnReachedOnce", fn := fun _ => fun
  | [d] => { results := [.lit (.bool true)], args := [d] }
  | _ => none }
def fnReachedOnceRow : OpenClaim := { program := "ytpgdedpljcedpaagreat", sum := "082223ac19ab6b99b0609e0c45aa9ef418eb983ffeebf8f164c5dc6619aa94da", func := "loop.example/matchcompiler/laws.FnReachedOnce", spec := "fnReachedOnce", unfollowed := true, recurses := true, apart := false }
def FnReachedOnceSaid : Prop := fnReachedOnceRow.holds Tryz.pinned (OpenSpec.ofChange fnReachedOnceSpec)

/-- ITS FALSE NEIGHBOUR: 'it returns false'. Refute it at one input. -/
def fnReachedOnceWrong : ChangeSpec := { name := "fnReachedOnce", fn := fun _ => fun
  | [d] => { results := [.lit (.bool false)], args := [d] }
  | _ => none }
def FnReachedOnceWrongFalsely : Prop := fnReachedOnceRow.holds Tryz.pinned (OpenSpec.ofChange fnReachedOnceWrong)

/-- 'laws.FnReachedPatterns': WHATEVER THE INPUT: true; the input reads as it did. -/
def fnReachedPatternsSpec : ChangeSpec := { name := "fnReachedPatterns", fn := fun _ => fun
  | [d1, d2] => { results := [.lit (.bool true)], args := [d1, d2] }
  | _ => none }
def fnReachedPatternsRow : OpenClaim := { program := "ytpgdedpljcedpaagreat", sum := "082223ac19ab6b99b0609e0c45aa9ef418eb983ffeebf8f164c5dc6619aa94da", func := "loop.example/matchcompiler/laws.FnReachedPatterns", spec := "fnReachedPatterns", unfollowed := true, recurses := true, apart := false }
def FnReachedPatternsSaid : Prop := fnReachedPatternsRow.holds Tryz.pinned (OpenSpec.ofChange fnReachedPatternsSpec)

/-- ITS FALSE NEIGHBOUR: 'it returns false'. Refute it at one input. -/
def fnReachedPatternsWrong : ChangeSpec := { name := "fnReachedPatterns", fn := fun _ => fun
  | [d1, d2] => { results := [.lit (.bool false)], args := [d1, d2] }
  | _ => none }
def FnReachedPatternsWrongFalsely : Prop := fnReachedPatternsRow.holds Tryz.pinned (OpenSpec.ofChange fnReachedPatternsWrong)

/- THE SECOND FORM. 'bulk': how many values and letters a reading holds, each counted each time it is reached (what is shared counts as often as it is met; a slice's spare places count too). A statement '..UptoSaid' is the law's where the arguments, and the package variables that the reading takes, are together of bulk at most 1048576: NARROWER than '..Said'. Prove '..Said' where nothing that the law and all that it calls make is longer than what came in: it says more and counts as full. Else prove '..UptoSaid'. A law counts once. -/
mutual
def uptoBulk {H : Type} : DataW H → Nat
  | .lit (.string bytes) => bytes.length + 1
  | .lit _ => 1
  | .nil => 1
  | .ptr d => uptoBulk d + 1
  | .slice elems spare => uptoBulkAll elems + uptoBulkAll spare + 1
  | .agg parts => uptoBulkAll parts + 1
  | .iface _ d => uptoBulk d + 1
  | .map entries => uptoBulkEntries entries + 1
  | .held _ => 1
def uptoBulkAll {H : Type} : List (DataW H) → Nat
  | [] => 0
  | d :: r => uptoBulk d + uptoBulkAll r
def uptoBulkEntries {H : Type} : List (Lit × DataW H) → Nat
  | [] => 0
  | x :: r => uptoBulkEntry x + uptoBulkEntries r
def uptoBulkEntry {H : Type} : Lit × DataW H → Nat
  | (.string bytes, d) => bytes.length + uptoBulk d + 1
  | (_, d) => uptoBulk d + 1
 end
def uptoSmall : (H : Type) → List (DataW H) → Bool := fun _ ds => decide (uptoBulkAll ds ≤ 1048576)
def OpenSpec.upto (s : _root_.Go.ChangeSpec) : _root_.Go.OpenSpec := { _root_.Go.OpenSpec.ofChange s with cond := some uptoSmall }

/-- 'laws.FnMinusSelf', WHERE WHAT IT READS IS OF BULK AT MOST 1048576: true; the input reads as it did. -/
def fnMinusSelfUptoRow : OpenClaim := { program := "ytpgdedpljcedpaagreat", sum := "082223ac19ab6b99b0609e0c45aa9ef418eb983ffeebf8f164c5dc6619aa94da", func := "loop.example/matchcompiler/laws.FnMinusSelf", spec := "fnMinusSelf", unfollowed := true, recurses := true, apart := false, narrowed := true }
def FnMinusSelfUptoSaid : Prop := fnMinusSelfUptoRow.holds Tryz.pinned (OpenSpec.upto fnMinusSelfSpec)

/-- 'laws.FnWithinAny', WHERE WHAT IT READS IS OF BULK AT MOST 1048576: true; the input reads as it did. -/
def fnWithinAnyUptoRow : OpenClaim := { program := "ytpgdedpljcedpaagreat", sum := "082223ac19ab6b99b0609e0c45aa9ef418eb983ffeebf8f164c5dc6619aa94da", func := "loop.example/matchcompiler/laws.FnWithinAny", spec := "fnWithinAny", unfollowed := true, recurses := true, apart := false, narrowed := true }
def FnWithinAnyUptoSaid : Prop := fnWithinAnyUptoRow.holds Tryz.pinned (OpenSpec.upto fnWithinAnySpec)

/-- 'laws.FnMinusPatterns', WHERE WHAT IT READS IS OF BULK AT MOST 1048576: true; the input reads as it did. -/
def fnMinusPatternsUptoRow : OpenClaim := { program := "ytpgdedpljcedpaagreat", sum := "082223ac19ab6b99b0609e0c45aa9ef418eb983ffeebf8f164c5dc6619aa94da", func := "loop.example/matchcompiler/laws.FnMinusPatterns", spec := "fnMinusPatterns", unfollowed := true, recurses := true, apart := false, narrowed := true }
def FnMinusPatternsUptoSaid : Prop := fnMinusPatternsUptoRow.holds Tryz.pinned (OpenSpec.upto fnMinusPatternsSpec)

/-- 'laws.FnSplitSpace', WHERE WHAT IT READS IS OF BULK AT MOST 1048576: true; the input reads as it did. -/
def fnSplitSpaceUptoRow : OpenClaim := { program := "ytpgdedpljcedpaagreat", sum := "082223ac19ab6b99b0609e0c45aa9ef418eb983ffeebf8f164c5dc6619aa94da", func := "loop.example/matchcompiler/laws.FnSplitSpace", spec := "fnSplitSpace", unfollowed := true, recurses := true, apart := false, narrowed := true }
def FnSplitSpaceUptoSaid : Prop := fnSplitSpaceUptoRow.holds Tryz.pinned (OpenSpec.upto fnSplitSpaceSpec)

/-- 'laws.FnMeetPatterns', WHERE WHAT IT READS IS OF BULK AT MOST 1048576: true; the input reads as it did. -/
def fnMeetPatternsUptoRow : OpenClaim := { program := "ytpgdedpljcedpaagreat", sum := "082223ac19ab6b99b0609e0c45aa9ef418eb983ffeebf8f164c5dc6619aa94da", func := "loop.example/matchcompiler/laws.FnMeetPatterns", spec := "fnMeetPatterns", unfollowed := true, recurses := true, apart := false, narrowed := true }
def FnMeetPatternsUptoSaid : Prop := fnMeetPatternsUptoRow.holds Tryz.pinned (OpenSpec.upto fnMeetPatternsSpec)

/-- 'laws.FnMeetBoth', WHERE WHAT IT READS IS OF BULK AT MOST 1048576: true; the input reads as it did. -/
def fnMeetBothUptoRow : OpenClaim := { program := "ytpgdedpljcedpaagreat", sum := "082223ac19ab6b99b0609e0c45aa9ef418eb983ffeebf8f164c5dc6619aa94da", func := "loop.example/matchcompiler/laws.FnMeetBoth", spec := "fnMeetBoth", unfollowed := true, recurses := true, apart := false, narrowed := true }
def FnMeetBothUptoSaid : Prop := fnMeetBothUptoRow.holds Tryz.pinned (OpenSpec.upto fnMeetBothSpec)

/-- 'laws.FnMeetClauses', WHERE WHAT IT READS IS OF BULK AT MOST 1048576: true; the input reads as it did. -/
def fnMeetClausesUptoRow : OpenClaim := { program := "ytpgdedpljcedpaagreat", sum := "082223ac19ab6b99b0609e0c45aa9ef418eb983ffeebf8f164c5dc6619aa94da", func := "loop.example/matchcompiler/laws.FnMeetClauses", spec := "fnMeetClauses", unfollowed := true, recurses := true, apart := false, narrowed := true }
def FnMeetClausesUptoSaid : Prop := fnMeetClausesUptoRow.holds Tryz.pinned (OpenSpec.upto fnMeetClausesSpec)

/-- 'laws.FnEmptyPattern', WHERE WHAT IT READS IS OF BULK AT MOST 1048576: true; the input reads as it did. -/
def fnEmptyPatternUptoRow : OpenClaim := { program := "ytpgdedpljcedpaagreat", sum := "082223ac19ab6b99b0609e0c45aa9ef418eb983ffeebf8f164c5dc6619aa94da", func := "loop.example/matchcompiler/laws.FnEmptyPattern", spec := "fnEmptyPattern", unfollowed := true, recurses := true, apart := false, narrowed := true }
def FnEmptyPatternUptoSaid : Prop := fnEmptyPatternUptoRow.holds Tryz.pinned (OpenSpec.upto fnEmptyPatternSpec)

/-- 'laws.FnWithinPattern', WHERE WHAT IT READS IS OF BULK AT MOST 1048576: true; the input reads as it did. -/
def fnWithinPatternUptoRow : OpenClaim := { program := "ytpgdedpljcedpaagreat", sum := "082223ac19ab6b99b0609e0c45aa9ef418eb983ffeebf8f164c5dc6619aa94da", func := "loop.example/matchcompiler/laws.FnWithinPattern", spec := "fnWithinPattern", unfollowed := true, recurses := true, apart := false, narrowed := true }
def FnWithinPatternUptoSaid : Prop := fnWithinPatternUptoRow.holds Tryz.pinned (OpenSpec.upto fnWithinPatternSpec)

/-- 'laws.FnTwice', WHERE WHAT IT READS IS OF BULK AT MOST 1048576: true; the input reads as it did. -/
def fnTwiceUptoRow : OpenClaim := { program := "ytpgdedpljcedpaagreat", sum := "082223ac19ab6b99b0609e0c45aa9ef418eb983ffeebf8f164c5dc6619aa94da", func := "loop.example/matchcompiler/laws.FnTwice", spec := "fnTwice", unfollowed := true, recurses := true, apart := false, narrowed := true }
def FnTwiceUptoSaid : Prop := fnTwiceUptoRow.holds Tryz.pinned (OpenSpec.upto fnTwiceSpec)

/-- 'laws.FnReachedOnce', WHERE WHAT IT READS IS OF BULK AT MOST 1048576: true; the input reads as it did. -/
def fnReachedOnceUptoRow : OpenClaim := { program := "ytpgdedpljcedpaagreat", sum := "082223ac19ab6b99b0609e0c45aa9ef418eb983ffeebf8f164c5dc6619aa94da", func := "loop.example/matchcompiler/laws.FnReachedOnce", spec := "fnReachedOnce", unfollowed := true, recurses := true, apart := false, narrowed := true }
def FnReachedOnceUptoSaid : Prop := fnReachedOnceUptoRow.holds Tryz.pinned (OpenSpec.upto fnReachedOnceSpec)

/-- 'laws.FnReachedPatterns', WHERE WHAT IT READS IS OF BULK AT MOST 1048576: true; the input reads as it did. -/
def fnReachedPatternsUptoRow : OpenClaim := { program := "ytpgdedpljcedpaagreat", sum := "082223ac19ab6b99b0609e0c45aa9ef418eb983ffeebf8f164c5dc6619aa94da", func := "loop.example/matchcompiler/laws.FnReachedPatterns", spec := "fnReachedPatterns", unfollowed := true, recurses := true, apart := false, narrowed := true }
def FnReachedPatternsUptoSaid : Prop := fnReachedPatternsUptoRow.holds Tryz.pinned (OpenSpec.upto fnReachedPatternsSpec)

end Rows
end Go.Proofs.YtpgdedpljcedpaaGreat
