/-
  DERIVED. GIVEN WITH THE SEED: THE CARDS: each row of YtofffmieimggmaaGreatDoorRows.lean that lists a variable, with what it lists TIED to the program's text (the seventh form; the later family's looks); each row that meets fmt, with fmt's text TOLD by the authors' own Lean function (tested against real Go, not proved from fmt's source: count such statements apart). THE CARD IS WHAT COUNTS. Prove the row's statement (the work); the ties are given (YtofffmieimggmaaGreatDoorTie.lean); close each card by the builder's one call (the guide's Derived/Test/ToyasCard.lean, 'card_holds'). Laid BY PROGRAM, IN A SANDBOX (cutbox-door.mjs). By AI agents, Wed Nov 11 2026. No macro, syntax, notation, axiom, sorry.
-/
import Derived.Test.YtofffmieimggmaaGreatDoorRows
import GoSem.ClaimSeven
namespace Go.Proofs.YtofffmieimggmaaGreatDoor
namespace Rows

/-- THE TIED CARD OF 'tidelinelaw23.CatalogNil'. -/
def catalogNilCard : Claim7 := { stood := { row := catalogNilRow, standIns := [], harness := (true, "773bcd05b55c78ba0b0451be8945e994afb5e2e9090df99b233d5519b8f941ac"), looks := true }, kinds := [], alts := [], laidByText := true, laidKinds := [.data, .data, .data, .data, .sentinel, .sentinel, .listed, .data, .pinned, .pinned], laidTests := true, laidLooks := .later }
def CatalogNilCardSaid : Prop := Claim7.holds Tryz.pinned (.plain (OpenSpec.ofChange catalogNilSpec)) catalogNilCard

/-- THE SECOND FORM's CARD OF 'tidelinelaw23.CatalogNil'. -/
def catalogNilUptoCard : Claim7 := { stood := { row := catalogNilUptoRow, standIns := [], harness := (true, "773bcd05b55c78ba0b0451be8945e994afb5e2e9090df99b233d5519b8f941ac"), looks := true }, kinds := [], alts := [], laidByText := true, laidKinds := [.data, .data, .data, .data, .sentinel, .sentinel, .listed, .data, .pinned, .pinned], laidTests := true, laidLooks := .later }
def CatalogNilUptoCardSaid : Prop := Claim7.holds Tryz.pinned (.plain (OpenSpec.upto catalogNilSpec)) catalogNilUptoCard
end Rows
end Go.Proofs.YtofffmieimggmaaGreatDoor
