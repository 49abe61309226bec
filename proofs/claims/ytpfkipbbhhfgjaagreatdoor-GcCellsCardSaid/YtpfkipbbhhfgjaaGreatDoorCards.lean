/-
  DERIVED. GIVEN WITH THE SEED: THE CARDS: each row of YtpfkipbbhhfgjaaGreatDoorRows.lean that lists a variable, with what it lists TIED to the program's text (the seventh form; the later family's looks); each row that meets fmt, with fmt's text TOLD by the authors' own Lean function (tested against real Go, not proved from fmt's source: count such statements apart). THE CARD IS WHAT COUNTS. Prove the row's statement (the work); the ties are given (YtpfkipbbhhfgjaaGreatDoorTie.lean); close each card by the builder's one call (the guide's Derived/Test/ToyasCard.lean, 'card_holds'). Laid BY PROGRAM, IN A SANDBOX (cutbox-door.mjs). By AI agents, Wed Nov 11 2026. No macro, syntax, notation, axiom, sorry.
-/
import Derived.Test.YtpfkipbbhhfgjaaGreatDoorRows
import GoSem.ClaimSeven
namespace Go.Proofs.YtpfkipbbhhfgjaaGreatDoor
namespace Rows

/-- THE TIED CARD OF 'leatworklaw10.GcCells'. -/
def gcCellsCard : Claim7 := { stood := { row := gcCellsRow, standIns := [], harness := (true, "009774154fb4ef58a5bfc90caf627875b26836be46f06674cfe69a3aafeadc53"), looks := true }, kinds := [], alts := [], laidByText := true, laidKinds := [.data, .data, .data, .listed, .data, .data], laidTests := true, laidLooks := .later }
def GcCellsCardSaid : Prop := Claim7.holds Tryz.pinned (.plain (OpenSpec.ofChange gcCellsSpec)) gcCellsCard

/-- THE SECOND FORM's CARD OF 'leatworklaw10.GcCells'. -/
def gcCellsUptoCard : Claim7 := { stood := { row := gcCellsUptoRow, standIns := [], harness := (true, "009774154fb4ef58a5bfc90caf627875b26836be46f06674cfe69a3aafeadc53"), looks := true }, kinds := [], alts := [], laidByText := true, laidKinds := [.data, .data, .data, .listed, .data, .data], laidTests := true, laidLooks := .later }
def GcCellsUptoCardSaid : Prop := Claim7.holds Tryz.pinned (.plain (OpenSpec.upto gcCellsSpec)) gcCellsUptoCard
end Rows
end Go.Proofs.YtpfkipbbhhfgjaaGreatDoor
