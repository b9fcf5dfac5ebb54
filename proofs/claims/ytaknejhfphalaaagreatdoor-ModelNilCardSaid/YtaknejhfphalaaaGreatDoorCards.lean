/-
  DERIVED. GIVEN WITH THE SEED: THE CARDS: each row of YtaknejhfphalaaaGreatDoorRows.lean that lists a variable, with what it lists TIED to the program's text (the seventh form; the later family's looks); each row that meets fmt, with fmt's text TOLD by the authors' own Lean function (tested against real Go, not proved from fmt's source: count such statements apart). THE CARD IS WHAT COUNTS. Prove the row's statement (the work); the ties are given (YtaknejhfphalaaaGreatDoorTie.lean); close each card by the builder's one call (the guide's Derived/Test/ToyasCard.lean, 'card_holds'). Laid BY PROGRAM, IN A SANDBOX (cutbox-door.mjs). By AI agents, Wed Nov 11 2026. No macro, syntax, notation, axiom, sorry.
-/
import Derived.Test.YtaknejhfphalaaaGreatDoorRows
import GoSem.ClaimSeven
namespace Go.Proofs.YtaknejhfphalaaaGreatDoor
namespace Rows

/-- THE TIED CARD OF 'tidelinelaw30.ModelNil'. -/
def modelNilCard : Claim7 := { stood := { row := modelNilRow, standIns := [], harness := (true, "bd95e833dce0928955d7e1a0454cc6fd8e615ebe57c9e34b5d45ac1136537650"), looks := true }, kinds := [], alts := [], laidByText := true, laidKinds := [.pinned, .data, .pinned, .sentinel, .sentinel, .data, .data, .data, .data, .listed, .data], laidTests := true, laidLooks := .later }
def ModelNilCardSaid : Prop := Claim7.holds Tryz.pinned (.plain (OpenSpec.ofChange modelNilSpec)) modelNilCard

/-- THE SECOND FORM's CARD OF 'tidelinelaw30.ModelNil'. -/
def modelNilUptoCard : Claim7 := { stood := { row := modelNilUptoRow, standIns := [], harness := (true, "bd95e833dce0928955d7e1a0454cc6fd8e615ebe57c9e34b5d45ac1136537650"), looks := true }, kinds := [], alts := [], laidByText := true, laidKinds := [.pinned, .data, .pinned, .sentinel, .sentinel, .data, .data, .data, .data, .listed, .data], laidTests := true, laidLooks := .later }
def ModelNilUptoCardSaid : Prop := Claim7.holds Tryz.pinned (.plain (OpenSpec.upto modelNilSpec)) modelNilUptoCard
end Rows
end Go.Proofs.YtaknejhfphalaaaGreatDoor
