/-
  DERIVED. GIVEN WITH THE SEED: THE CARDS: each row of YtcmahgfncipfiaaGreatDoorRows.lean that lists a variable, with what it lists TIED to the program's text (the seventh form; the later family's looks); each row that meets fmt, with fmt's text TOLD by the authors' own Lean function (tested against real Go, not proved from fmt's source: count such statements apart). THE CARD IS WHAT COUNTS. Prove the row's statement (the work); the ties are given (YtcmahgfncipfiaaGreatDoorTie.lean); close each card by the builder's one call (the guide's Derived/Test/ToyasCard.lean, 'card_holds'). Laid BY PROGRAM, IN A SANDBOX (cutbox-door.mjs). By AI agents, Wed Nov 11 2026. No macro, syntax, notation, axiom, sorry.
-/
import Derived.Test.YtcmahgfncipfiaaGreatDoorRows
import GoSem.ClaimSeven
namespace Go.Proofs.YtcmahgfncipfiaaGreatDoor
namespace Rows

/-- THE TIED CARD OF 'leatworklaw18.NetNone'. -/
def netNoneCard : Claim7 := { stood := { row := netNoneRow, standIns := [], harness := (true, "a5f95c3ac3d8ece297802ff39dd6fe32ac8b6cb2f5da2e8dc222ff3a9f6937b8"), looks := true }, kinds := [], alts := [], laidByText := true, laidKinds := [.data, .data, .data, .listed, .data, .data], laidTests := true, laidLooks := .later }
def NetNoneCardSaid : Prop := Claim7.holds Tryz.pinned (.plain (OpenSpec.ofChange netNoneSpec)) netNoneCard

/-- THE SECOND FORM's CARD OF 'leatworklaw18.NetNone'. -/
def netNoneUptoCard : Claim7 := { stood := { row := netNoneUptoRow, standIns := [], harness := (true, "a5f95c3ac3d8ece297802ff39dd6fe32ac8b6cb2f5da2e8dc222ff3a9f6937b8"), looks := true }, kinds := [], alts := [], laidByText := true, laidKinds := [.data, .data, .data, .listed, .data, .data], laidTests := true, laidLooks := .later }
def NetNoneUptoCardSaid : Prop := Claim7.holds Tryz.pinned (.plain (OpenSpec.upto netNoneSpec)) netNoneUptoCard
end Rows
end Go.Proofs.YtcmahgfncipfiaaGreatDoor
