/- NetNone returns true: whatever the number, the schedule and the switch, from memory that holds what the package's variables hold. -/
import Derived.Test.YtcmahgfncipfiaaGreatDoorFin4
import Derived.Test.YtcmahgfncipfiaaGreatDoorTG
import Derived.Test.YtcmahgfncipfiaaGreatDoorTG2
namespace Go.Proofs.YtcmahgfncipfiaaGreatDoor
open Go
theorem netNone_card : Rows.NetNoneCardSaid :=
  Claim7.holds_tied_plain_at .later [] [.data, .data, .data, .listed, .data, .data] true (true, "a5f95c3ac3d8ece297802ff39dd6fe32ac8b6cb2f5da2e8dc222ff3a9f6937b8") true
    netNone_holds (fun _ h => by cases h) wfText (fun _ h => by cases h) netNone_row_tie rfl ⟨rfl, rfl⟩ isMain rfl
    (fun f fn hf hfn => by
      obtain rfl : f = 3 := Option.some.inj (fnm.symm.trans hf) |>.symm
      obtain rfl : fn = Tryz.f3 := (Option.some.inj (Tryz.func3.symm.trans hfn)).symm
      exact ⟨lks, fun j t ht => by
        rw [Tryz.params3] at ht
        match j, ht with
        | 0, ht =>
          obtain rfl : t = 3 := by simpa using ht.symm
          exact wsi3
        | 1, ht =>
          obtain rfl : t = 22 := by simpa using ht.symm
          exact wsi22
        | 2, ht =>
          obtain rfl : t = 4 := by simpa using ht.symm
          exact wsi4
        | j + 3, ht => simp at ht⟩)
    (goesBy_of rfl fnm nogo)
#print axioms netNone_card
end Go.Proofs.YtcmahgfncipfiaaGreatDoor
