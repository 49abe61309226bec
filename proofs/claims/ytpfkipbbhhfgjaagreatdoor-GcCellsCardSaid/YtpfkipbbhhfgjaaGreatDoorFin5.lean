/- GcCells (chapter 10) returns true for every number and either switch, and its arguments read as before: the card of the seat, tied to the program's text. No further condition. -/
import Derived.Test.YtpfkipbbhhfgjaaGreatDoorFin4
import Derived.Test.YtpfkipbbhhfgjaaGreatDoorTG
import Derived.Test.YtpfkipbbhhfgjaaGreatDoorTG2
namespace Go.Proofs.YtpfkipbbhhfgjaaGreatDoor
open Go
theorem gcCells_card : Rows.GcCellsCardSaid :=
  Claim7.holds_tied_plain_at .later [] [.data, .data, .data, .listed, .data, .data] true (true, "009774154fb4ef58a5bfc90caf627875b26836be46f06674cfe69a3aafeadc53") true
    gcCells_holds (fun _ h => by cases h) wfText (fun _ h => by cases h) gcCells_row_tie rfl ⟨rfl, rfl⟩ isMain rfl
    (fun f fn hf hfn => by
      obtain rfl : f = 3 := Option.some.inj (fnm.symm.trans hf) |>.symm
      obtain rfl : fn = Tryz.f3 := (Option.some.inj (Tryz.func3.symm.trans hfn)).symm
      exact ⟨lks, fun j t ht => by
        rw [Tryz.params3] at ht
        match j, ht with
        | 0, ht =>
          obtain rfl : t = 5 := by simpa using ht.symm
          exact wsi5
        | 1, ht =>
          obtain rfl : t = 4 := by simpa using ht.symm
          exact wsi4
        | j + 2, ht => simp at ht⟩)
    (goesBy_of rfl fnm nogo)
#print axioms gcCells_card
end Go.Proofs.YtpfkipbbhhfgjaaGreatDoor
