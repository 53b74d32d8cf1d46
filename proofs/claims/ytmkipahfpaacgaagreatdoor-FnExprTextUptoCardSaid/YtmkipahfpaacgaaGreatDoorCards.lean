/-
  DERIVED. GIVEN WITH THE SEED: THE CARDS: each row of YtmkipahfpaacgaaGreatDoorRows.lean that lists a variable, with what it lists TIED to the program's text (the seventh form; the later family's looks); each row that meets fmt, with fmt's text TOLD by the authors' own Lean function (tested against real Go, not proved from fmt's source: count such statements apart). THE CARD IS WHAT COUNTS. Prove the row's statement (the work); the ties are given (YtmkipahfpaacgaaGreatDoorTie.lean); close each card by the builder's one call (the guide's Derived/Test/ToyasCard.lean, 'card_holds'). Laid BY PROGRAM, IN A SANDBOX (cutbox-door.mjs). By AI agents, Wed Nov 11 2026. No macro, syntax, notation, axiom, sorry.
-/
import Derived.Test.YtmkipahfpaacgaaGreatDoorRows
import GoSem.ClaimSeven
namespace Go.Proofs.YtmkipahfpaacgaaGreatDoor
namespace Rows

/-- THE TIED CARD OF 'laws.FnFunsText'. -/
def fnFunsTextCard : Claim7 := { stood := { row := fnFunsTextRow, standIns := [], harness := (true, "c46b85e80f2fd3dac1701a97af0a1cf1924a06cb24f64590aa5a60241c9933a5"), looks := false }, kinds := [], alts := [], laidByText := true, laidKinds := [.data, .data, .data, .data, .pinned], laidTests := true, laidLooks := .later }
def FnFunsTextCardSaid : Prop := Claim7.holds Tryz.pinned (.plain (OpenSpec.ofChange fnFunsTextSpec)) fnFunsTextCard

/-- THE TIED CARD OF 'laws.FnExprText'. -/
def fnExprTextCard : Claim7 := { stood := { row := fnExprTextRow, standIns := [], harness := (true, "c46b85e80f2fd3dac1701a97af0a1cf1924a06cb24f64590aa5a60241c9933a5"), looks := false }, kinds := [], alts := [], laidByText := true, laidKinds := [.data, .data, .data], laidTests := true, laidLooks := .later }
def FnExprTextCardSaid : Prop := Claim7.holds Tryz.pinned (.plain (OpenSpec.ofChange fnExprTextSpec)) fnExprTextCard

/-- THE TIED CARD OF 'laws.FnExactParseFuns'. -/
def fnExactParseFunsCard : Claim7 := { stood := { row := fnExactParseFunsRow, standIns := [], harness := (true, "c46b85e80f2fd3dac1701a97af0a1cf1924a06cb24f64590aa5a60241c9933a5"), looks := false }, kinds := [], alts := [], laidByText := true, laidKinds := [.data, .data, .data, .data, .pinned], laidTests := true, laidLooks := .later }
def FnExactParseFunsCardSaid : Prop := Claim7.holds Tryz.pinned (.plain (OpenSpec.ofChange fnExactParseFunsSpec)) fnExactParseFunsCard

/-- THE TIED CARD OF 'laws.FnPatternText'. -/
def fnPatternTextCard : Claim7 := { stood := { row := fnPatternTextRow, standIns := [], harness := (true, "c46b85e80f2fd3dac1701a97af0a1cf1924a06cb24f64590aa5a60241c9933a5"), looks := false }, kinds := [], alts := [], laidByText := true, laidKinds := [.data, .data, .data], laidTests := true, laidLooks := .later }
def FnPatternTextCardSaid : Prop := Claim7.holds Tryz.pinned (.plain (OpenSpec.ofChange fnPatternTextSpec)) fnPatternTextCard

/-- THE TIED CARD OF 'laws.FnExactFormatFuns'. -/
def fnExactFormatFunsCard : Claim7 := { stood := { row := fnExactFormatFunsRow, standIns := [], harness := (true, "c46b85e80f2fd3dac1701a97af0a1cf1924a06cb24f64590aa5a60241c9933a5"), looks := false }, kinds := [], alts := [], laidByText := true, laidKinds := [.data, .data, .data], laidTests := true, laidLooks := .later }
def FnExactFormatFunsCardSaid : Prop := Claim7.holds Tryz.pinned (.plain (OpenSpec.ofChange fnExactFormatFunsSpec)) fnExactFormatFunsCard

/-- THE TIED CARD OF 'laws.FnClausesText'. -/
def fnClausesTextCard : Claim7 := { stood := { row := fnClausesTextRow, standIns := [], harness := (true, "c46b85e80f2fd3dac1701a97af0a1cf1924a06cb24f64590aa5a60241c9933a5"), looks := false }, kinds := [], alts := [], laidByText := true, laidKinds := [.data, .data, .data, .data, .pinned], laidTests := true, laidLooks := .later }
def FnClausesTextCardSaid : Prop := Claim7.holds Tryz.pinned (.plain (OpenSpec.ofChange fnClausesTextSpec)) fnClausesTextCard

/-- THE SECOND FORM's CARD OF 'laws.FnFunsText'. -/
def fnFunsTextUptoCard : Claim7 := { stood := { row := fnFunsTextUptoRow, standIns := [], harness := (true, "c46b85e80f2fd3dac1701a97af0a1cf1924a06cb24f64590aa5a60241c9933a5"), looks := false }, kinds := [], alts := [], laidByText := true, laidKinds := [.data, .data, .data, .data, .pinned], laidTests := true, laidLooks := .later }
def FnFunsTextUptoCardSaid : Prop := Claim7.holds Tryz.pinned (.plain (OpenSpec.upto fnFunsTextSpec)) fnFunsTextUptoCard

/-- THE SECOND FORM's CARD OF 'laws.FnExprText'. -/
def fnExprTextUptoCard : Claim7 := { stood := { row := fnExprTextUptoRow, standIns := [], harness := (true, "c46b85e80f2fd3dac1701a97af0a1cf1924a06cb24f64590aa5a60241c9933a5"), looks := false }, kinds := [], alts := [], laidByText := true, laidKinds := [.data, .data, .data], laidTests := true, laidLooks := .later }
def FnExprTextUptoCardSaid : Prop := Claim7.holds Tryz.pinned (.plain (OpenSpec.upto fnExprTextSpec)) fnExprTextUptoCard

/-- THE SECOND FORM's CARD OF 'laws.FnExactParseFuns'. -/
def fnExactParseFunsUptoCard : Claim7 := { stood := { row := fnExactParseFunsUptoRow, standIns := [], harness := (true, "c46b85e80f2fd3dac1701a97af0a1cf1924a06cb24f64590aa5a60241c9933a5"), looks := false }, kinds := [], alts := [], laidByText := true, laidKinds := [.data, .data, .data, .data, .pinned], laidTests := true, laidLooks := .later }
def FnExactParseFunsUptoCardSaid : Prop := Claim7.holds Tryz.pinned (.plain (OpenSpec.upto fnExactParseFunsSpec)) fnExactParseFunsUptoCard

/-- THE SECOND FORM's CARD OF 'laws.FnPatternText'. -/
def fnPatternTextUptoCard : Claim7 := { stood := { row := fnPatternTextUptoRow, standIns := [], harness := (true, "c46b85e80f2fd3dac1701a97af0a1cf1924a06cb24f64590aa5a60241c9933a5"), looks := false }, kinds := [], alts := [], laidByText := true, laidKinds := [.data, .data, .data], laidTests := true, laidLooks := .later }
def FnPatternTextUptoCardSaid : Prop := Claim7.holds Tryz.pinned (.plain (OpenSpec.upto fnPatternTextSpec)) fnPatternTextUptoCard

/-- THE SECOND FORM's CARD OF 'laws.FnExactFormatFuns'. -/
def fnExactFormatFunsUptoCard : Claim7 := { stood := { row := fnExactFormatFunsUptoRow, standIns := [], harness := (true, "c46b85e80f2fd3dac1701a97af0a1cf1924a06cb24f64590aa5a60241c9933a5"), looks := false }, kinds := [], alts := [], laidByText := true, laidKinds := [.data, .data, .data], laidTests := true, laidLooks := .later }
def FnExactFormatFunsUptoCardSaid : Prop := Claim7.holds Tryz.pinned (.plain (OpenSpec.upto fnExactFormatFunsSpec)) fnExactFormatFunsUptoCard

/-- THE SECOND FORM's CARD OF 'laws.FnClausesText'. -/
def fnClausesTextUptoCard : Claim7 := { stood := { row := fnClausesTextUptoRow, standIns := [], harness := (true, "c46b85e80f2fd3dac1701a97af0a1cf1924a06cb24f64590aa5a60241c9933a5"), looks := false }, kinds := [], alts := [], laidByText := true, laidKinds := [.data, .data, .data, .data, .pinned], laidTests := true, laidLooks := .later }
def FnClausesTextUptoCardSaid : Prop := Claim7.holds Tryz.pinned (.plain (OpenSpec.upto fnClausesTextSpec)) fnClausesTextUptoCard
end Rows
end Go.Proofs.YtmkipahfpaacgaaGreatDoor
