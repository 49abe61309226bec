/-
  DERIVED. GIVEN WITH THE SEED: THE CARDS: each row of YtfhilpdbmfbbdaaGreatDoorRows.lean that lists a variable, with what it lists TIED to the program's text (the seventh form; the later family's looks); each row that meets fmt, with fmt's text TOLD by the authors' own Lean function (tested against real Go, not proved from fmt's source: count such statements apart). THE CARD IS WHAT COUNTS. Prove the row's statement (the work); the ties are given (YtfhilpdbmfbbdaaGreatDoorTie.lean); close each card by the builder's one call (the guide's Derived/Test/ToyasCard.lean, 'card_holds'). Laid BY PROGRAM, IN A SANDBOX (cutbox-door.mjs). By AI agents, Wed Nov 11 2026. No macro, syntax, notation, axiom, sorry.
-/
import Derived.Test.YtfhilpdbmfbbdaaGreatDoorRows
import GoSem.ClaimSeven
namespace Go.Proofs.YtfhilpdbmfbbdaaGreatDoor
namespace Rows

/-- THE TIED CARD OF 'leatworklaw10.GcRoom'. -/
def gcRoomCard : Claim7 := { stood := { row := gcRoomRow, standIns := [], harness := (true, "e39a51e91c4a6a9c4464736894e7854e810829ebe19bf04cda9b619c78c9e4a9"), looks := true }, kinds := [], alts := [], laidByText := true, laidKinds := [.data, .data, .data, .listed, .data, .data], laidTests := true, laidLooks := .later }
def GcRoomCardSaid : Prop := Claim7.holds Tryz.pinned (.plain (OpenSpec.ofChange gcRoomSpec)) gcRoomCard

/-- THE SECOND FORM's CARD OF 'leatworklaw10.GcRoom'. -/
def gcRoomUptoCard : Claim7 := { stood := { row := gcRoomUptoRow, standIns := [], harness := (true, "e39a51e91c4a6a9c4464736894e7854e810829ebe19bf04cda9b619c78c9e4a9"), looks := true }, kinds := [], alts := [], laidByText := true, laidKinds := [.data, .data, .data, .listed, .data, .data], laidTests := true, laidLooks := .later }
def GcRoomUptoCardSaid : Prop := Claim7.holds Tryz.pinned (.plain (OpenSpec.upto gcRoomSpec)) gcRoomUptoCard
end Rows
end Go.Proofs.YtfhilpdbmfbbdaaGreatDoor
