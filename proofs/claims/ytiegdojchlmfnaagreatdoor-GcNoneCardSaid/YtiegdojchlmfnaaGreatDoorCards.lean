/-
  DERIVED. GIVEN WITH THE SEED: THE CARDS: each row of YtiegdojchlmfnaaGreatDoorRows.lean that lists a variable, with what it lists TIED to the program's text (the seventh form; the later family's looks); each row that meets fmt, with fmt's text TOLD by the authors' own Lean function (tested against real Go, not proved from fmt's source: count such statements apart). THE CARD IS WHAT COUNTS. Prove the row's statement (the work); the ties are given (YtiegdojchlmfnaaGreatDoorTie.lean); close each card by the builder's one call (the guide's Derived/Test/ToyasCard.lean, 'card_holds'). Laid BY PROGRAM, IN A SANDBOX (cutbox-door.mjs). By AI agents, Wed Nov 11 2026. No macro, syntax, notation, axiom, sorry.
-/
import Derived.Test.YtiegdojchlmfnaaGreatDoorRows
import GoSem.ClaimSeven
namespace Go.Proofs.YtiegdojchlmfnaaGreatDoor
namespace Rows

/-- THE TIED CARD OF 'leatworklaw10.GcNone'. -/
def gcNoneCard : Claim7 := { stood := { row := gcNoneRow, standIns := [], harness := (true, "ff83dc74dc53c9034e087d4d361eebc73ec1c4e19bd89424a716fc27ad4154f5"), looks := true }, kinds := [], alts := [], laidByText := true, laidKinds := [.data, .data, .data, .listed, .data, .data], laidTests := true, laidLooks := .later }
def GcNoneCardSaid : Prop := Claim7.holds Tryz.pinned (.plain (OpenSpec.ofChange gcNoneSpec)) gcNoneCard

/-- THE SECOND FORM's CARD OF 'leatworklaw10.GcNone'. -/
def gcNoneUptoCard : Claim7 := { stood := { row := gcNoneUptoRow, standIns := [], harness := (true, "ff83dc74dc53c9034e087d4d361eebc73ec1c4e19bd89424a716fc27ad4154f5"), looks := true }, kinds := [], alts := [], laidByText := true, laidKinds := [.data, .data, .data, .listed, .data, .data], laidTests := true, laidLooks := .later }
def GcNoneUptoCardSaid : Prop := Claim7.holds Tryz.pinned (.plain (OpenSpec.upto gcNoneSpec)) gcNoneUptoCard
end Rows
end Go.Proofs.YtiegdojchlmfnaaGreatDoor
