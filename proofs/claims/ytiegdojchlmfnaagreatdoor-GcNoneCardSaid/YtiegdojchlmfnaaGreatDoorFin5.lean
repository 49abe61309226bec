/- GcNone (chapter 10) returns true for every number, and its argument reads as before: the card of the seat, tied to the program's text. No further condition. -/
import Derived.Test.YtiegdojchlmfnaaGreatDoorFin4
import Derived.Test.YtiegdojchlmfnaaGreatDoorTG
import Derived.Test.YtiegdojchlmfnaaGreatDoorTG2
namespace Go.Proofs.YtiegdojchlmfnaaGreatDoor
open Go
theorem gcNone_card : Rows.GcNoneCardSaid :=
  Claim7.holds_tied_plain_at .later [] [.data, .data, .data, .listed, .data, .data] true (true, "ff83dc74dc53c9034e087d4d361eebc73ec1c4e19bd89424a716fc27ad4154f5") true
    gcNone_holds (fun _ h => by cases h) wfText (fun _ h => by cases h) gcNone_row_tie rfl ⟨rfl, rfl⟩ isMain rfl
    (fun f fn hf hfn => by
      obtain rfl : f = 3 := Option.some.inj (fnm.symm.trans hf) |>.symm
      obtain rfl : fn = Tryz.f3 := (Option.some.inj (Tryz.func3.symm.trans hfn)).symm
      exact ⟨lks, fun j t ht => by
        rw [Tryz.params3] at ht
        have h3 : t = 3 := by
          rcases j with _ | j
          · simpa using ht.symm
          · simp at ht
        subst h3
        exact wsi⟩)
    (goesBy_of rfl fnm nogo)
#print axioms gcNone_card
end Go.Proofs.YtiegdojchlmfnaaGreatDoor
