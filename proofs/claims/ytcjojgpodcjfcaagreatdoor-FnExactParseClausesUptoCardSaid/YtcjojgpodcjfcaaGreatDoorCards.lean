/-
  DERIVED. GIVEN WITH THE SEED: THE CARDS: each row of YtcjojgpodcjfcaaGreatDoorRows.lean that lists a variable, with what it lists TIED to the program's text (the seventh form; the later family's looks); each row that meets fmt, with fmt's text TOLD by the authors' own Lean function (tested against real Go, not proved from fmt's source: count such statements apart). THE CARD IS WHAT COUNTS. Prove the row's statement (the work); the ties are given (YtcjojgpodcjfcaaGreatDoorTie.lean); close each card by the builder's one call (the guide's Derived/Test/ToyasCard.lean, 'card_holds'). Laid BY PROGRAM, IN A SANDBOX (cutbox-door.mjs). By AI agents, Wed Nov 11 2026. No macro, syntax, notation, axiom, sorry.
-/
import Derived.Test.YtcjojgpodcjfcaaGreatDoorRows
import GoSem.ClaimSeven
namespace Go.Proofs.YtcjojgpodcjfcaaGreatDoor
namespace Rows

/-- THE TIED CARD OF 'laws.FnExactParseClauses'. -/
def fnExactParseClausesCard : Claim7 := { stood := { row := fnExactParseClausesRow, standIns := [], harness := (true, "c0cf18747fa1863c9e64065c2835b6ebc5a0e9d911d4e2e443151adfd3f585d4"), looks := false }, kinds := [], alts := [], laidByText := true, laidKinds := [.data, .pinned], laidTests := true, laidLooks := .later }
def FnExactParseClausesCardSaid : Prop := Claim7.holds Tryz.pinned (.plain (OpenSpec.ofChange fnExactParseClausesSpec)) fnExactParseClausesCard

/-- THE SECOND FORM's CARD OF 'laws.FnExactParseClauses'. -/
def fnExactParseClausesUptoCard : Claim7 := { stood := { row := fnExactParseClausesUptoRow, standIns := [], harness := (true, "c0cf18747fa1863c9e64065c2835b6ebc5a0e9d911d4e2e443151adfd3f585d4"), looks := false }, kinds := [], alts := [], laidByText := true, laidKinds := [.data, .pinned], laidTests := true, laidLooks := .later }
def FnExactParseClausesUptoCardSaid : Prop := Claim7.holds Tryz.pinned (.plain (OpenSpec.upto fnExactParseClausesSpec)) fnExactParseClausesUptoCard
end Rows
end Go.Proofs.YtcjojgpodcjfcaaGreatDoor
