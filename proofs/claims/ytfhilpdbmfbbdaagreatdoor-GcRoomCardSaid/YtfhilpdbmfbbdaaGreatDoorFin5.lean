/- GcRoom (chapter 10, room for ever) returns true whatever the two numbers are, and its arguments read as before: the card of the seat, tied to the program's text. No further condition. -/
import Derived.Test.YtfhilpdbmfbbdaaGreatDoorFin4
import Derived.Test.YtfhilpdbmfbbdaaGreatDoorTG
import Derived.Test.YtfhilpdbmfbbdaaGreatDoorTG2
namespace Go.Proofs.YtfhilpdbmfbbdaaGreatDoor
open Go
theorem gcRoom_card : Rows.GcRoomCardSaid :=
  Claim7.holds_tied_plain_at .later [] [.data, .data, .data, .listed, .data, .data] true (true, "e39a51e91c4a6a9c4464736894e7854e810829ebe19bf04cda9b619c78c9e4a9") true
    gcRoom_holds (fun _ h => by cases h) wfText (fun _ h => by cases h) gcRoom_row_tie rfl ⟨rfl, rfl⟩ isMain rfl
    (fun f fn hf hfn => by
      obtain rfl : f = 3 := Option.some.inj (fnm.symm.trans hf) |>.symm
      obtain rfl : fn = Tryz.f3 := (Option.some.inj (Tryz.func3.symm.trans hfn)).symm
      exact ⟨lks, fun j t ht => by
        rw [Tryz.params3] at ht
        match j, ht with
        | 0, ht =>
          obtain rfl : t = 5 := by simpa using ht.symm
          exact wsi5
        | 1, ht =>
          obtain rfl : t = 5 := by simpa using ht.symm
          exact wsi5
        | j + 2, ht => simp at ht⟩)
    (goesBy_of rfl fnm nogo)
#print axioms gcRoom_card
end Go.Proofs.YtfhilpdbmfbbdaaGreatDoor
