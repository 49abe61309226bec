/- A part of the proof that GcRoom returns true: text LpB. -/
import Derived.Test.YtfhilpdbmfbbdaaGreatDoorCol1
import Derived.Test.YtfhilpdbmfbbdaaGreatDoorCol2
import Derived.Test.YtfhilpdbmfbbdaaGreatDoorCol3
import Derived.Test.YtfhilpdbmfbbdaaGreatDoorCol4
import Derived.Test.YtfhilpdbmfbbdaaGreatDoorCol5
import Derived.Test.YtfhilpdbmfbbdaaGreatDoorCol6
import Derived.Test.YtfhilpdbmfbbdaaGreatDoorColZ1
import Derived.Test.YtfhilpdbmfbbdaaGreatDoorColZ2
import Derived.Test.YtfhilpdbmfbbdaaGreatDoorColZ3
import Derived.Test.YtfhilpdbmfbbdaaGreatDoorColZ4
import Derived.Test.YtfhilpdbmfbbdaaGreatDoorSeg
import Derived.Test.YtfhilpdbmfbbdaaGreatDoorLpP
import Derived.Test.YtfhilpdbmfbbdaaGreatDoorPr1
import Derived.Test.YtfhilpdbmfbbdaaGreatDoorPr2
import Derived.Test.YtfhilpdbmfbbdaaGreatDoorPr3
import Derived.Test.YtfhilpdbmfbbdaaGreatDoorPr4
namespace Ev
open Go Go.Proofs
def tabF : Nat → List (List Nat)
  | 0 => [[]]
  | 1 => [[]]
  | 2 => [[]]
  | 3 => [[]]
  | 4 => [[]]
  | 5 => [[]]
  | 6 => [[]]
  | 7 => [[]]
  | 8 => [[]]
  | 9 => [[]]
  | 10 => [[]]
  | 11 => [[]]
  | 12 => [[]]
  | 13 => [[]]
  | _ => []
theorem tabF_0 : ∀ κ ∈ tabF 0, colOK false 0 κ = true := List.forall_mem_cons.2 ⟨col1_0, fun _ h => nomatch h⟩
theorem tabF_1 : ∀ κ ∈ tabF 1, colOK false 1 κ = true := List.forall_mem_cons.2 ⟨col1_1, fun _ h => nomatch h⟩
theorem tabF_2 : ∀ κ ∈ tabF 2, colOK false 2 κ = true := List.forall_mem_cons.2 ⟨col1_2, fun _ h => nomatch h⟩
theorem tabF_3 : ∀ κ ∈ tabF 3, colOK false 3 κ = true := List.forall_mem_cons.2 ⟨col1_3, fun _ h => nomatch h⟩
theorem tabF_4 : ∀ κ ∈ tabF 4, colOK false 4 κ = true := List.forall_mem_cons.2 ⟨col1_4, fun _ h => nomatch h⟩
theorem tabF_5 : ∀ κ ∈ tabF 5, colOK false 5 κ = true := List.forall_mem_cons.2 ⟨col1_5, fun _ h => nomatch h⟩
theorem tabF_6 : ∀ κ ∈ tabF 6, colOK false 6 κ = true := List.forall_mem_cons.2 ⟨col1_6, fun _ h => nomatch h⟩
theorem tabF_7 : ∀ κ ∈ tabF 7, colOK false 7 κ = true := List.forall_mem_cons.2 ⟨col1_7, fun _ h => nomatch h⟩
theorem tabF_8 : ∀ κ ∈ tabF 8, colOK false 8 κ = true := List.forall_mem_cons.2 ⟨col1_8, fun _ h => nomatch h⟩
theorem tabF_9 : ∀ κ ∈ tabF 9, colOK false 9 κ = true := List.forall_mem_cons.2 ⟨col1_9, fun _ h => nomatch h⟩
theorem tabF_10 : ∀ κ ∈ tabF 10, colOK false 10 κ = true := List.forall_mem_cons.2 ⟨col1_10, fun _ h => nomatch h⟩
theorem tabF_11 : ∀ κ ∈ tabF 11, colOK false 11 κ = true := List.forall_mem_cons.2 ⟨col1_11, fun _ h => nomatch h⟩
theorem tabF_12 : ∀ κ ∈ tabF 12, colOK false 12 κ = true := List.forall_mem_cons.2 ⟨col1_12, fun _ h => nomatch h⟩
theorem tabF_13 : ∀ κ ∈ tabF 13, colOK false 13 κ = true := List.forall_mem_cons.2 ⟨col1_13, fun _ h => nomatch h⟩
def tabT : Nat → List (List Nat)
  | 0 => [[8, 5, 4], [12, 1, 0], [12, 1, 2], [8, 7, 5, 4], [12, 1, 0, 2, 3], [12, 2, 8, 7, 1], [12, 3, 8, 5, 4], [8, 12, 1, 5, 4, 2, 7], [9, 8, 7, 6, 5, 4, 14], [8, 5, 4, 13, 12, 1, 7, 2, 10], [8, 7, 5, 4, 13, 12, 2, 1, 10], [8, 12, 1, 5, 4, 2, 7, 13, 10], [12, 1, 2, 13, 8, 5, 4, 7, 10], [12, 2, 8, 7, 1, 13, 5, 4, 10], [13, 8, 7, 12, 2, 5, 4, 1, 10], [8, 5, 12, 2, 9, 1, 0, 7, 14, 6], [8, 6, 12, 3, 1, 9, 5, 4, 14, 2, 7], [8, 5, 12, 2, 9, 1, 0, 7, 14, 6, 13, 4, 3, 10], [8, 6, 12, 3, 1, 9, 5, 4, 14, 2, 7, 13, 0, 10], [9, 8, 7, 6, 5, 4, 14, 13, 12, 3, 2, 1, 0, 10], [12, 1, 0, 2, 3, 13, 14, 8, 5, 4, 6, 7, 9, 10], [12, 1, 0, 13, 8, 5, 7, 2, 14, 4, 9, 3, 6, 10], [12, 3, 8, 5, 4, 13, 6, 1, 14, 7, 0, 9, 2, 10]]
  | 1 => [[8, 6], [12, 1, 0, 2], [9, 8, 7, 6, 5, 4, 14, 13], [12, 1, 0, 13, 8, 5, 7, 2, 14, 4, 9], [8, 5, 12, 2, 9, 1, 0, 7, 14, 6, 13, 4], [8, 5, 12, 2, 9, 1, 0, 7, 14, 6, 13, 4, 3, 10], [8, 6, 12, 3, 1, 9, 5, 4, 14, 2, 7, 13, 0, 10], [9, 8, 7, 6, 5, 4, 14, 13, 12, 3, 2, 1, 0, 10], [12, 1, 0, 2, 3, 13, 14, 8, 5, 4, 6, 7, 9, 10], [12, 1, 0, 13, 8, 5, 7, 2, 14, 4, 9, 3, 6, 10], [12, 3, 8, 5, 4, 13, 6, 1, 14, 7, 0, 9, 2, 10]]
  | 2 => [[8, 5], [12, 1], [12, 1, 0], [13, 8, 7], [8, 7, 5, 4, 13], [8, 12, 1, 5, 4], [8, 5, 4, 13, 12, 1, 7], [12, 1, 0, 13, 8, 5, 7], [8, 5, 4, 13, 12, 1, 7, 2, 10], [8, 6, 12, 3, 1, 9, 5, 4, 14], [8, 7, 5, 4, 13, 12, 2, 1, 10], [8, 12, 1, 5, 4, 2, 7, 13, 10], [12, 1, 2, 13, 8, 5, 4, 7, 10], [12, 2, 8, 7, 1, 13, 5, 4, 10], [13, 8, 7, 12, 2, 5, 4, 1, 10], [9, 8, 7, 6, 5, 4, 14, 13, 12, 3], [12, 3, 8, 5, 4, 13, 6, 1, 14, 7, 0, 9], [8, 5, 12, 2, 9, 1, 0, 7, 14, 6, 13, 4, 3, 10], [8, 6, 12, 3, 1, 9, 5, 4, 14, 2, 7, 13, 0, 10], [9, 8, 7, 6, 5, 4, 14, 13, 12, 3, 2, 1, 0, 10], [12, 1, 0, 2, 3, 13, 14, 8, 5, 4, 6, 7, 9, 10], [12, 1, 0, 13, 8, 5, 7, 2, 14, 4, 9, 3, 6, 10], [12, 3, 8, 5, 4, 13, 6, 1, 14, 7, 0, 9, 2, 10]]
  | 3 => [[12, 1], [8, 5, 12, 2, 9], [12, 3, 8, 5, 4, 13, 6, 1, 14, 7], [9, 8, 7, 6, 5, 4, 14, 13, 12, 3, 2], [8, 6, 12, 3, 1, 9, 5, 4, 14, 2, 7, 13], [8, 5, 12, 2, 9, 1, 0, 7, 14, 6, 13, 4, 3, 10], [8, 6, 12, 3, 1, 9, 5, 4, 14, 2, 7, 13, 0, 10], [9, 8, 7, 6, 5, 4, 14, 13, 12, 3, 2, 1, 0, 10], [12, 1, 0, 2, 3, 13, 14, 8, 5, 4, 6, 7, 9, 10], [12, 1, 0, 13, 8, 5, 7, 2, 14, 4, 9, 3, 6, 10], [12, 3, 8, 5, 4, 13, 6, 1, 14, 7, 0, 9, 2, 10]]
  | 4 => [[8], [12], [8, 5, 4, 13], [8, 6, 12, 3], [12, 2, 8, 7], [8, 7, 5, 4, 13, 12, 2], [12, 3, 8, 5, 4, 13, 6], [13, 8, 7, 12, 2, 5, 4], [8, 5, 4, 13, 12, 1, 7, 2, 10], [8, 5, 12, 2, 9, 1, 0, 7, 14], [8, 7, 5, 4, 13, 12, 2, 1, 10], [8, 12, 1, 5, 4, 2, 7, 13, 10], [12, 1, 2, 13, 8, 5, 4, 7, 10], [12, 2, 8, 7, 1, 13, 5, 4, 10], [13, 8, 7, 12, 2, 5, 4, 1, 10], [12, 1, 0, 13, 8, 5, 7, 2, 14, 4, 9], [9, 8, 7, 6, 5, 4, 14, 13, 12, 3, 2, 1, 0], [8, 5, 12, 2, 9, 1, 0, 7, 14, 6, 13, 4, 3, 10], [8, 6, 12, 3, 1, 9, 5, 4, 14, 2, 7, 13, 0, 10], [9, 8, 7, 6, 5, 4, 14, 13, 12, 3, 2, 1, 0, 10], [12, 1, 0, 2, 3, 13, 14, 8, 5, 4, 6, 7, 9, 10], [12, 1, 0, 13, 8, 5, 7, 2, 14, 4, 9, 3, 6, 10], [12, 3, 8, 5, 4, 13, 6, 1, 14, 7, 0, 9, 2, 10]]
  | 5 => [[12, 3, 8, 5, 4], [12, 1, 0, 13, 8, 5, 7], [8, 6, 12, 3, 1, 9, 5, 4, 14, 2], [8, 5, 12, 2, 9, 1, 0, 7, 14, 6, 13], [9, 8, 7, 6, 5, 4, 14, 13, 12, 3, 2, 1, 0], [8, 5, 12, 2, 9, 1, 0, 7, 14, 6, 13, 4, 3, 10], [8, 6, 12, 3, 1, 9, 5, 4, 14, 2, 7, 13, 0, 10], [9, 8, 7, 6, 5, 4, 14, 13, 12, 3, 2, 1, 0, 10], [12, 1, 0, 2, 3, 13, 14, 8, 5, 4, 6, 7, 9, 10], [12, 1, 0, 13, 8, 5, 7, 2, 14, 4, 9, 3, 6, 10], [12, 3, 8, 5, 4, 13, 6, 1, 14, 7, 0, 9, 2, 10]]
  | 6 => [[10], [14], [14, 10], [8, 5, 4, 13, 12, 1, 7, 2], [8, 7, 5, 4, 13, 12, 2, 1], [8, 12, 1, 5, 4, 2, 7, 13], [12, 1, 2, 13, 8, 5, 4, 7], [12, 2, 8, 7, 1, 13, 5, 4], [13, 8, 7, 12, 2, 5, 4, 1], [8, 5, 4, 13, 12, 1, 7, 2, 10], [8, 7, 5, 4, 13, 12, 2, 1, 10], [8, 12, 1, 5, 4, 2, 7, 13, 10], [12, 1, 2, 13, 8, 5, 4, 7, 10], [12, 2, 8, 7, 1, 13, 5, 4, 10], [13, 8, 7, 12, 2, 5, 4, 1, 10], [8, 5, 12, 2, 9, 1, 0, 7, 14, 6, 13, 4, 3], [8, 6, 12, 3, 1, 9, 5, 4, 14, 2, 7, 13, 0], [9, 8, 7, 6, 5, 4, 14, 13, 12, 3, 2, 1, 0], [12, 1, 0, 2, 3, 13, 14, 8, 5, 4, 6, 7, 9], [12, 1, 0, 13, 8, 5, 7, 2, 14, 4, 9, 3, 6], [12, 3, 8, 5, 4, 13, 6, 1, 14, 7, 0, 9, 2], [8, 5, 12, 2, 9, 1, 0, 7, 14, 6, 13, 4, 3, 10], [8, 6, 12, 3, 1, 9, 5, 4, 14, 2, 7, 13, 0, 10], [9, 8, 7, 6, 5, 4, 14, 13, 12, 3, 2, 1, 0, 10], [12, 1, 0, 2, 3, 13, 14, 8, 5, 4, 6, 7, 9, 10], [12, 1, 0, 13, 8, 5, 7, 2, 14, 4, 9, 3, 6, 10], [12, 3, 8, 5, 4, 13, 6, 1, 14, 7, 0, 9, 2, 10]]
  | 7 => [[8, 5, 12, 2], [8, 6, 12, 3, 1], [12, 1, 0, 13, 8, 5, 7, 2, 14, 4], [12, 3, 8, 5, 4, 13, 6, 1, 14, 7, 0], [12, 1, 0, 2, 3, 13, 14, 8, 5, 4, 6, 7], [8, 5, 12, 2, 9, 1, 0, 7, 14, 6, 13, 4, 3, 10], [8, 6, 12, 3, 1, 9, 5, 4, 14, 2, 7, 13, 0, 10], [9, 8, 7, 6, 5, 4, 14, 13, 12, 3, 2, 1, 0, 10], [12, 1, 0, 2, 3, 13, 14, 8, 5, 4, 6, 7, 9, 10], [12, 1, 0, 13, 8, 5, 7, 2, 14, 4, 9, 3, 6, 10], [12, 3, 8, 5, 4, 13, 6, 1, 14, 7, 0, 9, 2, 10]]
  | 8 => [[9], [13], [12, 2, 8], [8, 5, 4, 13, 12, 1], [8, 12, 1, 5, 4, 2], [12, 1, 0, 13, 8, 5], [8, 5, 12, 2, 9, 1, 0], [12, 1, 2, 13, 8, 5, 4], [8, 5, 4, 13, 12, 1, 7, 2, 10], [8, 7, 5, 4, 13, 12, 2, 1, 10], [8, 12, 1, 5, 4, 2, 7, 13, 10], [12, 1, 2, 13, 8, 5, 4, 7, 10], [12, 2, 8, 7, 1, 13, 5, 4, 10], [12, 3, 8, 5, 4, 13, 6, 1, 14], [13, 8, 7, 12, 2, 5, 4, 1, 10], [8, 6, 12, 3, 1, 9, 5, 4, 14, 2], [12, 1, 0, 2, 3, 13, 14, 8, 5, 4, 6], [8, 5, 12, 2, 9, 1, 0, 7, 14, 6, 13, 4, 3, 10], [8, 6, 12, 3, 1, 9, 5, 4, 14, 2, 7, 13, 0, 10], [9, 8, 7, 6, 5, 4, 14, 13, 12, 3, 2, 1, 0, 10], [12, 1, 0, 2, 3, 13, 14, 8, 5, 4, 6, 7, 9, 10], [12, 1, 0, 13, 8, 5, 7, 2, 14, 4, 9, 3, 6, 10], [12, 3, 8, 5, 4, 13, 6, 1, 14, 7, 0, 9, 2, 10]]
  | 9 => [[9, 8, 7], [12, 3, 8, 5, 4, 13], [8, 5, 12, 2, 9, 1, 0, 7, 14], [12, 1, 0, 2, 3, 13, 14, 8, 5, 4], [12, 1, 0, 13, 8, 5, 7, 2, 14, 4, 9, 3], [8, 5, 12, 2, 9, 1, 0, 7, 14, 6, 13, 4, 3, 10], [8, 6, 12, 3, 1, 9, 5, 4, 14, 2, 7, 13, 0, 10], [9, 8, 7, 6, 5, 4, 14, 13, 12, 3, 2, 1, 0, 10], [12, 1, 0, 2, 3, 13, 14, 8, 5, 4, 6, 7, 9, 10], [12, 1, 0, 13, 8, 5, 7, 2, 14, 4, 9, 3, 6, 10], [12, 3, 8, 5, 4, 13, 6, 1, 14, 7, 0, 9, 2, 10]]
  | 10 => [[8, 7], [12, 3], [8, 12, 1], [9, 8, 7, 6], [12, 1, 2, 13, 8], [13, 8, 7, 12, 2], [8, 6, 12, 3, 1, 9], [12, 2, 8, 7, 1, 13], [8, 5, 4, 13, 12, 1, 7, 2, 10], [8, 7, 5, 4, 13, 12, 2, 1, 10], [8, 12, 1, 5, 4, 2, 7, 13, 10], [12, 1, 0, 2, 3, 13, 14, 8, 5], [12, 1, 0, 13, 8, 5, 7, 2, 14], [12, 1, 2, 13, 8, 5, 4, 7, 10], [12, 2, 8, 7, 1, 13, 5, 4, 10], [13, 8, 7, 12, 2, 5, 4, 1, 10], [8, 5, 12, 2, 9, 1, 0, 7, 14, 6, 13], [8, 5, 12, 2, 9, 1, 0, 7, 14, 6, 13, 4, 3, 10], [8, 6, 12, 3, 1, 9, 5, 4, 14, 2, 7, 13, 0, 10], [9, 8, 7, 6, 5, 4, 14, 13, 12, 3, 2, 1, 0, 10], [12, 1, 0, 2, 3, 13, 14, 8, 5, 4, 6, 7, 9, 10], [12, 1, 0, 13, 8, 5, 7, 2, 14, 4, 9, 3, 6, 10], [12, 3, 8, 5, 4, 13, 6, 1, 14, 7, 0, 9, 2, 10]]
  | 11 => [[12, 1, 0, 13], [9, 8, 7, 6, 5, 4], [12, 1, 0, 2, 3, 13, 14, 8], [8, 6, 12, 3, 1, 9, 5, 4, 14, 2, 7], [12, 3, 8, 5, 4, 13, 6, 1, 14, 7, 0, 9, 2], [8, 5, 12, 2, 9, 1, 0, 7, 14, 6, 13, 4, 3, 10], [8, 6, 12, 3, 1, 9, 5, 4, 14, 2, 7, 13, 0, 10], [9, 8, 7, 6, 5, 4, 14, 13, 12, 3, 2, 1, 0, 10], [12, 1, 0, 2, 3, 13, 14, 8, 5, 4, 6, 7, 9, 10], [12, 1, 0, 13, 8, 5, 7, 2, 14, 4, 9, 3, 6, 10], [12, 3, 8, 5, 4, 13, 6, 1, 14, 7, 0, 9, 2, 10]]
  | 12 => [[8, 6], [12, 2], [8, 7, 5, 4], [12, 1, 2, 13], [8, 5, 12, 2, 9], [9, 8, 7, 6, 5, 4], [8, 5, 4, 13, 12, 1, 7], [12, 1, 0, 2, 3, 13, 14], [13, 8, 7, 12, 2, 5, 4, 1], [8, 5, 4, 13, 12, 1, 7, 2, 10], [8, 7, 5, 4, 13, 12, 2, 1, 10], [8, 12, 1, 5, 4, 2, 7, 13, 10], [12, 1, 2, 13, 8, 5, 4, 7, 10], [12, 2, 8, 7, 1, 13, 5, 4, 10], [13, 8, 7, 12, 2, 5, 4, 1, 10], [12, 3, 8, 5, 4, 13, 6, 1, 14, 7, 0], [12, 1, 0, 13, 8, 5, 7, 2, 14, 4, 9, 3], [8, 5, 12, 2, 9, 1, 0, 7, 14, 6, 13, 4, 3, 10], [8, 6, 12, 3, 1, 9, 5, 4, 14, 2, 7, 13, 0, 10], [9, 8, 7, 6, 5, 4, 14, 13, 12, 3, 2, 1, 0, 10], [12, 1, 0, 2, 3, 13, 14, 8, 5, 4, 6, 7, 9, 10], [12, 1, 0, 13, 8, 5, 7, 2, 14, 4, 9, 3, 6, 10], [12, 3, 8, 5, 4, 13, 6, 1, 14, 7, 0, 9, 2, 10]]
  | 13 => [[14, 10], [9, 8, 7, 6, 5, 4], [12, 1, 0, 2, 3, 13], [8, 5, 12, 2, 9, 1, 0, 7], [8, 6, 12, 3, 1, 9, 5, 4], [12, 1, 0, 13, 8, 5, 7, 2], [12, 3, 8, 5, 4, 13, 6, 1], [8, 5, 12, 2, 9, 1, 0, 7, 14, 6, 13, 4, 3, 10], [8, 6, 12, 3, 1, 9, 5, 4, 14, 2, 7, 13, 0, 10], [9, 8, 7, 6, 5, 4, 14, 13, 12, 3, 2, 1, 0, 10], [12, 1, 0, 2, 3, 13, 14, 8, 5, 4, 6, 7, 9, 10], [12, 1, 0, 13, 8, 5, 7, 2, 14, 4, 9, 3, 6, 10], [12, 3, 8, 5, 4, 13, 6, 1, 14, 7, 0, 9, 2, 10]]
  | _ => []
theorem tabT_0 : ∀ κ ∈ tabT 0, colOK true 0 κ = true := List.forall_mem_cons.2 ⟨col1_30, List.forall_mem_cons.2 ⟨col1_31, List.forall_mem_cons.2 ⟨col1_32, List.forall_mem_cons.2 ⟨col1_38, List.forall_mem_cons.2 ⟨col2_5, List.forall_mem_cons.2 ⟨col2_6, List.forall_mem_cons.2 ⟨col2_7, List.forall_mem_cons.2 ⟨col2_26, List.forall_mem_cons.2 ⟨col2_27, List.forall_mem_cons.2 ⟨col3_8, List.forall_mem_cons.2 ⟨col3_9, List.forall_mem_cons.2 ⟨col3_10, List.forall_mem_cons.2 ⟨col3_11, List.forall_mem_cons.2 ⟨col3_12, List.forall_mem_cons.2 ⟨col3_13, List.forall_mem_cons.2 ⟨col4_13, List.forall_mem_cons.2 ⟨col4_20, List.forall_mem_cons.2 ⟨col5_2, List.forall_mem_cons.2 ⟨col5_3, List.forall_mem_cons.2 ⟨col5_4, List.forall_mem_cons.2 ⟨col5_5, List.forall_mem_cons.2 ⟨col5_6, List.forall_mem_cons.2 ⟨col5_7, fun _ h => nomatch h⟩⟩⟩⟩⟩⟩⟩⟩⟩⟩⟩⟩⟩⟩⟩⟩⟩⟩⟩⟩⟩⟩⟩
theorem tabT_1 : ∀ κ ∈ tabT 1, colOK true 1 κ = true := List.forall_mem_cons.2 ⟨col1_20, List.forall_mem_cons.2 ⟨col1_39, List.forall_mem_cons.2 ⟨col2_38, List.forall_mem_cons.2 ⟨col4_21, List.forall_mem_cons.2 ⟨col4_30, List.forall_mem_cons.2 ⟨col5_8, List.forall_mem_cons.2 ⟨col5_9, List.forall_mem_cons.2 ⟨col5_10, List.forall_mem_cons.2 ⟨col5_11, List.forall_mem_cons.2 ⟨col5_12, List.forall_mem_cons.2 ⟨col5_13, fun _ h => nomatch h⟩⟩⟩⟩⟩⟩⟩⟩⟩⟩⟩
theorem tabT_2 : ∀ κ ∈ tabT 2, colOK true 2 κ = true := List.forall_mem_cons.2 ⟨col1_21, List.forall_mem_cons.2 ⟨col1_22, List.forall_mem_cons.2 ⟨col1_33, List.forall_mem_cons.2 ⟨col1_34, List.forall_mem_cons.2 ⟨col2_8, List.forall_mem_cons.2 ⟨col2_9, List.forall_mem_cons.2 ⟨col2_28, List.forall_mem_cons.2 ⟨col2_29, List.forall_mem_cons.2 ⟨col3_14, List.forall_mem_cons.2 ⟨col3_15, List.forall_mem_cons.2 ⟨col3_16, List.forall_mem_cons.2 ⟨col3_17, List.forall_mem_cons.2 ⟨col3_18, List.forall_mem_cons.2 ⟨col3_19, List.forall_mem_cons.2 ⟨col3_20, List.forall_mem_cons.2 ⟨col4_14, List.forall_mem_cons.2 ⟨col4_31, List.forall_mem_cons.2 ⟨col5_14, List.forall_mem_cons.2 ⟨col5_15, List.forall_mem_cons.2 ⟨col5_16, List.forall_mem_cons.2 ⟨col5_17, List.forall_mem_cons.2 ⟨col5_18, List.forall_mem_cons.2 ⟨col5_19, fun _ h => nomatch h⟩⟩⟩⟩⟩⟩⟩⟩⟩⟩⟩⟩⟩⟩⟩⟩⟩⟩⟩⟩⟩⟩⟩
theorem tabT_3 : ∀ κ ∈ tabT 3, colOK true 3 κ = true := List.forall_mem_cons.2 ⟨col1_23, List.forall_mem_cons.2 ⟨col2_10, List.forall_mem_cons.2 ⟨col4_15, List.forall_mem_cons.2 ⟨col4_22, List.forall_mem_cons.2 ⟨col4_32, List.forall_mem_cons.2 ⟨col5_20, List.forall_mem_cons.2 ⟨col5_21, List.forall_mem_cons.2 ⟨col5_22, List.forall_mem_cons.2 ⟨col5_23, List.forall_mem_cons.2 ⟨col5_24, List.forall_mem_cons.2 ⟨col5_25, fun _ h => nomatch h⟩⟩⟩⟩⟩⟩⟩⟩⟩⟩⟩
theorem tabT_4 : ∀ κ ∈ tabT 4, colOK true 4 κ = true := List.forall_mem_cons.2 ⟨col1_14, List.forall_mem_cons.2 ⟨col1_15, List.forall_mem_cons.2 ⟨col1_40, List.forall_mem_cons.2 ⟨col1_41, List.forall_mem_cons.2 ⟨col1_42, List.forall_mem_cons.2 ⟨col2_30, List.forall_mem_cons.2 ⟨col2_31, List.forall_mem_cons.2 ⟨col2_32, List.forall_mem_cons.2 ⟨col3_21, List.forall_mem_cons.2 ⟨col3_22, List.forall_mem_cons.2 ⟨col3_23, List.forall_mem_cons.2 ⟨col3_24, List.forall_mem_cons.2 ⟨col3_25, List.forall_mem_cons.2 ⟨col3_26, List.forall_mem_cons.2 ⟨col3_27, List.forall_mem_cons.2 ⟨col4_23, List.forall_mem_cons.2 ⟨col4_36, List.forall_mem_cons.2 ⟨col5_26, List.forall_mem_cons.2 ⟨col5_27, List.forall_mem_cons.2 ⟨col5_28, List.forall_mem_cons.2 ⟨col5_29, List.forall_mem_cons.2 ⟨col5_30, List.forall_mem_cons.2 ⟨col5_31, fun _ h => nomatch h⟩⟩⟩⟩⟩⟩⟩⟩⟩⟩⟩⟩⟩⟩⟩⟩⟩⟩⟩⟩⟩⟩⟩
theorem tabT_5 : ∀ κ ∈ tabT 5, colOK true 5 κ = true := List.forall_mem_cons.2 ⟨col2_11, List.forall_mem_cons.2 ⟨col2_33, List.forall_mem_cons.2 ⟨col4_16, List.forall_mem_cons.2 ⟨col4_24, List.forall_mem_cons.2 ⟨col4_37, List.forall_mem_cons.2 ⟨col5_32, List.forall_mem_cons.2 ⟨col5_33, List.forall_mem_cons.2 ⟨col5_34, List.forall_mem_cons.2 ⟨col5_35, List.forall_mem_cons.2 ⟨col5_36, List.forall_mem_cons.2 ⟨col5_37, fun _ h => nomatch h⟩⟩⟩⟩⟩⟩⟩⟩⟩⟩⟩
theorem tabT_6 : ∀ κ ∈ tabT 6, colOK true 6 κ = true := List.forall_mem_cons.2 ⟨col1_16, List.forall_mem_cons.2 ⟨col1_17, List.forall_mem_cons.2 ⟨col1_24, List.forall_mem_cons.2 ⟨col2_39, List.forall_mem_cons.2 ⟨col2_40, List.forall_mem_cons.2 ⟨col2_41, List.forall_mem_cons.2 ⟨col2_42, List.forall_mem_cons.2 ⟨col3_0, List.forall_mem_cons.2 ⟨col3_1, List.forall_mem_cons.2 ⟨col3_28, List.forall_mem_cons.2 ⟨col3_29, List.forall_mem_cons.2 ⟨col3_30, List.forall_mem_cons.2 ⟨col3_31, List.forall_mem_cons.2 ⟨col3_32, List.forall_mem_cons.2 ⟨col3_33, List.forall_mem_cons.2 ⟨col4_38, List.forall_mem_cons.2 ⟨col4_39, List.forall_mem_cons.2 ⟨col4_40, List.forall_mem_cons.2 ⟨col4_41, List.forall_mem_cons.2 ⟨col4_42, List.forall_mem_cons.2 ⟨col5_0, List.forall_mem_cons.2 ⟨col5_38, List.forall_mem_cons.2 ⟨col5_39, List.forall_mem_cons.2 ⟨col5_40, List.forall_mem_cons.2 ⟨col5_41, List.forall_mem_cons.2 ⟨col5_42, List.forall_mem_cons.2 ⟨col6_0, fun _ h => nomatch h⟩⟩⟩⟩⟩⟩⟩⟩⟩⟩⟩⟩⟩⟩⟩⟩⟩⟩⟩⟩⟩⟩⟩⟩⟩⟩⟩
theorem tabT_7 : ∀ κ ∈ tabT 7, colOK true 7 κ = true := List.forall_mem_cons.2 ⟨col2_0, List.forall_mem_cons.2 ⟨col2_12, List.forall_mem_cons.2 ⟨col4_17, List.forall_mem_cons.2 ⟨col4_25, List.forall_mem_cons.2 ⟨col4_33, List.forall_mem_cons.2 ⟨col6_1, List.forall_mem_cons.2 ⟨col6_2, List.forall_mem_cons.2 ⟨col6_3, List.forall_mem_cons.2 ⟨col6_4, List.forall_mem_cons.2 ⟨col6_5, List.forall_mem_cons.2 ⟨col6_6, fun _ h => nomatch h⟩⟩⟩⟩⟩⟩⟩⟩⟩⟩⟩
theorem tabT_8 : ∀ κ ∈ tabT 8, colOK true 8 κ = true := List.forall_mem_cons.2 ⟨col1_18, List.forall_mem_cons.2 ⟨col1_19, List.forall_mem_cons.2 ⟨col1_35, List.forall_mem_cons.2 ⟨col2_16, List.forall_mem_cons.2 ⟨col2_17, List.forall_mem_cons.2 ⟨col2_18, List.forall_mem_cons.2 ⟨col2_34, List.forall_mem_cons.2 ⟨col2_35, List.forall_mem_cons.2 ⟨col3_34, List.forall_mem_cons.2 ⟨col3_35, List.forall_mem_cons.2 ⟨col3_36, List.forall_mem_cons.2 ⟨col3_37, List.forall_mem_cons.2 ⟨col3_38, List.forall_mem_cons.2 ⟨col3_39, List.forall_mem_cons.2 ⟨col3_40, List.forall_mem_cons.2 ⟨col4_18, List.forall_mem_cons.2 ⟨col4_26, List.forall_mem_cons.2 ⟨col6_7, List.forall_mem_cons.2 ⟨col6_8, List.forall_mem_cons.2 ⟨col6_9, List.forall_mem_cons.2 ⟨col6_10, List.forall_mem_cons.2 ⟨col6_11, List.forall_mem_cons.2 ⟨col6_12, fun _ h => nomatch h⟩⟩⟩⟩⟩⟩⟩⟩⟩⟩⟩⟩⟩⟩⟩⟩⟩⟩⟩⟩⟩⟩⟩
theorem tabT_9 : ∀ κ ∈ tabT 9, colOK true 9 κ = true := List.forall_mem_cons.2 ⟨col1_36, List.forall_mem_cons.2 ⟨col2_19, List.forall_mem_cons.2 ⟨col3_41, List.forall_mem_cons.2 ⟨col4_19, List.forall_mem_cons.2 ⟨col4_34, List.forall_mem_cons.2 ⟨col6_13, List.forall_mem_cons.2 ⟨col6_14, List.forall_mem_cons.2 ⟨col6_15, List.forall_mem_cons.2 ⟨col6_16, List.forall_mem_cons.2 ⟨col6_17, List.forall_mem_cons.2 ⟨col6_18, fun _ h => nomatch h⟩⟩⟩⟩⟩⟩⟩⟩⟩⟩⟩
theorem tabT_10 : ∀ κ ∈ tabT 10, colOK true 10 κ = true := List.forall_mem_cons.2 ⟨col1_25, List.forall_mem_cons.2 ⟨col1_26, List.forall_mem_cons.2 ⟨col1_37, List.forall_mem_cons.2 ⟨col2_1, List.forall_mem_cons.2 ⟨col2_13, List.forall_mem_cons.2 ⟨col2_14, List.forall_mem_cons.2 ⟨col2_20, List.forall_mem_cons.2 ⟨col2_21, List.forall_mem_cons.2 ⟨col3_42, List.forall_mem_cons.2 ⟨col4_0, List.forall_mem_cons.2 ⟨col4_1, List.forall_mem_cons.2 ⟨col4_2, List.forall_mem_cons.2 ⟨col4_3, List.forall_mem_cons.2 ⟨col4_4, List.forall_mem_cons.2 ⟨col4_5, List.forall_mem_cons.2 ⟨col4_6, List.forall_mem_cons.2 ⟨col4_27, List.forall_mem_cons.2 ⟨col6_19, List.forall_mem_cons.2 ⟨col6_20, List.forall_mem_cons.2 ⟨col6_21, List.forall_mem_cons.2 ⟨col6_22, List.forall_mem_cons.2 ⟨col6_23, List.forall_mem_cons.2 ⟨col6_24, fun _ h => nomatch h⟩⟩⟩⟩⟩⟩⟩⟩⟩⟩⟩⟩⟩⟩⟩⟩⟩⟩⟩⟩⟩⟩⟩
theorem tabT_11 : ∀ κ ∈ tabT 11, colOK true 11 κ = true := List.forall_mem_cons.2 ⟨col2_2, List.forall_mem_cons.2 ⟨col2_22, List.forall_mem_cons.2 ⟨col3_2, List.forall_mem_cons.2 ⟨col4_28, List.forall_mem_cons.2 ⟨col5_1, List.forall_mem_cons.2 ⟨col6_25, List.forall_mem_cons.2 ⟨col6_26, List.forall_mem_cons.2 ⟨col6_27, List.forall_mem_cons.2 ⟨col6_28, List.forall_mem_cons.2 ⟨col6_29, List.forall_mem_cons.2 ⟨col6_30, fun _ h => nomatch h⟩⟩⟩⟩⟩⟩⟩⟩⟩⟩⟩
theorem tabT_12 : ∀ κ ∈ tabT 12, colOK true 12 κ = true := List.forall_mem_cons.2 ⟨col1_27, List.forall_mem_cons.2 ⟨col1_28, List.forall_mem_cons.2 ⟨col2_3, List.forall_mem_cons.2 ⟨col2_4, List.forall_mem_cons.2 ⟨col2_15, List.forall_mem_cons.2 ⟨col2_23, List.forall_mem_cons.2 ⟨col2_36, List.forall_mem_cons.2 ⟨col2_37, List.forall_mem_cons.2 ⟨col3_3, List.forall_mem_cons.2 ⟨col4_7, List.forall_mem_cons.2 ⟨col4_8, List.forall_mem_cons.2 ⟨col4_9, List.forall_mem_cons.2 ⟨col4_10, List.forall_mem_cons.2 ⟨col4_11, List.forall_mem_cons.2 ⟨col4_12, List.forall_mem_cons.2 ⟨col4_29, List.forall_mem_cons.2 ⟨col4_35, List.forall_mem_cons.2 ⟨col6_31, List.forall_mem_cons.2 ⟨col6_32, List.forall_mem_cons.2 ⟨col6_33, List.forall_mem_cons.2 ⟨col6_34, List.forall_mem_cons.2 ⟨col6_35, List.forall_mem_cons.2 ⟨col6_36, fun _ h => nomatch h⟩⟩⟩⟩⟩⟩⟩⟩⟩⟩⟩⟩⟩⟩⟩⟩⟩⟩⟩⟩⟩⟩⟩
theorem tabT_13 : ∀ κ ∈ tabT 13, colOK true 13 κ = true := List.forall_mem_cons.2 ⟨col1_29, List.forall_mem_cons.2 ⟨col2_24, List.forall_mem_cons.2 ⟨col2_25, List.forall_mem_cons.2 ⟨col3_4, List.forall_mem_cons.2 ⟨col3_5, List.forall_mem_cons.2 ⟨col3_6, List.forall_mem_cons.2 ⟨col3_7, List.forall_mem_cons.2 ⟨col6_37, List.forall_mem_cons.2 ⟨col6_38, List.forall_mem_cons.2 ⟨col6_39, List.forall_mem_cons.2 ⟨col6_40, List.forall_mem_cons.2 ⟨col6_41, List.forall_mem_cons.2 ⟨col6_42, fun _ h => nomatch h⟩⟩⟩⟩⟩⟩⟩⟩⟩⟩⟩⟩⟩
def tabZF : Nat → List (List Nat)
  | 5 => [[]]
  | 6 => [[]]
  | 7 => [[]]
  | _ => []
theorem tabZF_5 : ∀ κ ∈ tabZF 5, lastZ false 5 κ = true := List.forall_mem_cons.2 ⟨colz_0, fun _ h => nomatch h⟩
theorem tabZF_6 : ∀ κ ∈ tabZF 6, lastZ false 6 κ = true := List.forall_mem_cons.2 ⟨colz_1, fun _ h => nomatch h⟩
theorem tabZF_7 : ∀ κ ∈ tabZF 7, lastZ false 7 κ = true := List.forall_mem_cons.2 ⟨colz_2, fun _ h => nomatch h⟩
def tabZT : Nat → List (List Nat)
  | 5 => [[12, 3, 8, 5, 4], [12, 1, 0, 13, 8, 5, 7], [8, 6, 12, 3, 1, 9, 5, 4, 14, 2], [8, 5, 12, 2, 9, 1, 0, 7, 14, 6, 13], [9, 8, 7, 6, 5, 4, 14, 13, 12, 3, 2, 1, 0], [8, 5, 12, 2, 9, 1, 0, 7, 14, 6, 13, 4, 3, 10], [8, 6, 12, 3, 1, 9, 5, 4, 14, 2, 7, 13, 0, 10], [9, 8, 7, 6, 5, 4, 14, 13, 12, 3, 2, 1, 0, 10], [12, 1, 0, 2, 3, 13, 14, 8, 5, 4, 6, 7, 9, 10], [12, 1, 0, 13, 8, 5, 7, 2, 14, 4, 9, 3, 6, 10], [12, 3, 8, 5, 4, 13, 6, 1, 14, 7, 0, 9, 2, 10]]
  | 6 => [[10], [14], [14, 10], [8, 5, 4, 13, 12, 1, 7, 2], [8, 7, 5, 4, 13, 12, 2, 1], [8, 12, 1, 5, 4, 2, 7, 13], [12, 1, 2, 13, 8, 5, 4, 7], [12, 2, 8, 7, 1, 13, 5, 4], [13, 8, 7, 12, 2, 5, 4, 1], [8, 5, 4, 13, 12, 1, 7, 2, 10], [8, 7, 5, 4, 13, 12, 2, 1, 10], [8, 12, 1, 5, 4, 2, 7, 13, 10], [12, 1, 2, 13, 8, 5, 4, 7, 10], [12, 2, 8, 7, 1, 13, 5, 4, 10], [13, 8, 7, 12, 2, 5, 4, 1, 10], [8, 5, 12, 2, 9, 1, 0, 7, 14, 6, 13, 4, 3], [8, 6, 12, 3, 1, 9, 5, 4, 14, 2, 7, 13, 0], [9, 8, 7, 6, 5, 4, 14, 13, 12, 3, 2, 1, 0], [12, 1, 0, 2, 3, 13, 14, 8, 5, 4, 6, 7, 9], [12, 1, 0, 13, 8, 5, 7, 2, 14, 4, 9, 3, 6], [12, 3, 8, 5, 4, 13, 6, 1, 14, 7, 0, 9, 2], [8, 5, 12, 2, 9, 1, 0, 7, 14, 6, 13, 4, 3, 10], [8, 6, 12, 3, 1, 9, 5, 4, 14, 2, 7, 13, 0, 10], [9, 8, 7, 6, 5, 4, 14, 13, 12, 3, 2, 1, 0, 10], [12, 1, 0, 2, 3, 13, 14, 8, 5, 4, 6, 7, 9, 10], [12, 1, 0, 13, 8, 5, 7, 2, 14, 4, 9, 3, 6, 10], [12, 3, 8, 5, 4, 13, 6, 1, 14, 7, 0, 9, 2, 10]]
  | 7 => [[8, 5, 12, 2], [8, 6, 12, 3, 1], [12, 1, 0, 13, 8, 5, 7, 2, 14, 4], [12, 3, 8, 5, 4, 13, 6, 1, 14, 7, 0], [12, 1, 0, 2, 3, 13, 14, 8, 5, 4, 6, 7], [8, 5, 12, 2, 9, 1, 0, 7, 14, 6, 13, 4, 3, 10], [8, 6, 12, 3, 1, 9, 5, 4, 14, 2, 7, 13, 0, 10], [9, 8, 7, 6, 5, 4, 14, 13, 12, 3, 2, 1, 0, 10], [12, 1, 0, 2, 3, 13, 14, 8, 5, 4, 6, 7, 9, 10], [12, 1, 0, 13, 8, 5, 7, 2, 14, 4, 9, 3, 6, 10], [12, 3, 8, 5, 4, 13, 6, 1, 14, 7, 0, 9, 2, 10]]
  | _ => []
theorem tabZT_5 : ∀ κ ∈ tabZT 5, lastZ true 5 κ = true := List.forall_mem_cons.2 ⟨colz_7, List.forall_mem_cons.2 ⟨colz_9, List.forall_mem_cons.2 ⟨colz_22, List.forall_mem_cons.2 ⟨colz_24, List.forall_mem_cons.2 ⟨colz_27, List.forall_mem_cons.2 ⟨colz_34, List.forall_mem_cons.2 ⟨colz_35, List.forall_mem_cons.2 ⟨colz_36, List.forall_mem_cons.2 ⟨colz_37, List.forall_mem_cons.2 ⟨colz_38, List.forall_mem_cons.2 ⟨colz_39, fun _ h => nomatch h⟩⟩⟩⟩⟩⟩⟩⟩⟩⟩⟩
theorem tabZT_6 : ∀ κ ∈ tabZT 6, lastZ true 6 κ = true := List.forall_mem_cons.2 ⟨colz_3, List.forall_mem_cons.2 ⟨colz_4, List.forall_mem_cons.2 ⟨colz_5, List.forall_mem_cons.2 ⟨colz_10, List.forall_mem_cons.2 ⟨colz_11, List.forall_mem_cons.2 ⟨colz_12, List.forall_mem_cons.2 ⟨colz_13, List.forall_mem_cons.2 ⟨colz_14, List.forall_mem_cons.2 ⟨colz_15, List.forall_mem_cons.2 ⟨colz_16, List.forall_mem_cons.2 ⟨colz_17, List.forall_mem_cons.2 ⟨colz_18, List.forall_mem_cons.2 ⟨colz_19, List.forall_mem_cons.2 ⟨colz_20, List.forall_mem_cons.2 ⟨colz_21, List.forall_mem_cons.2 ⟨colz_28, List.forall_mem_cons.2 ⟨colz_29, List.forall_mem_cons.2 ⟨colz_30, List.forall_mem_cons.2 ⟨colz_31, List.forall_mem_cons.2 ⟨colz_32, List.forall_mem_cons.2 ⟨colz_33, List.forall_mem_cons.2 ⟨colz_40, List.forall_mem_cons.2 ⟨colz_41, List.forall_mem_cons.2 ⟨colz_42, List.forall_mem_cons.2 ⟨colz_43, List.forall_mem_cons.2 ⟨colz_44, List.forall_mem_cons.2 ⟨colz_45, fun _ h => nomatch h⟩⟩⟩⟩⟩⟩⟩⟩⟩⟩⟩⟩⟩⟩⟩⟩⟩⟩⟩⟩⟩⟩⟩⟩⟩⟩⟩
theorem tabZT_7 : ∀ κ ∈ tabZT 7, lastZ true 7 κ = true := List.forall_mem_cons.2 ⟨colz_6, List.forall_mem_cons.2 ⟨colz_8, List.forall_mem_cons.2 ⟨colz_23, List.forall_mem_cons.2 ⟨colz_25, List.forall_mem_cons.2 ⟨colz_26, List.forall_mem_cons.2 ⟨colz_46, List.forall_mem_cons.2 ⟨colz_47, List.forall_mem_cons.2 ⟨colz_48, List.forall_mem_cons.2 ⟨colz_49, List.forall_mem_cons.2 ⟨colz_50, List.forall_mem_cons.2 ⟨colz_51, fun _ h => nomatch h⟩⟩⟩⟩⟩⟩⟩⟩⟩⟩⟩
theorem tab_ok {f : Bool} {j : Nat} {κ : List Nat} (hj : j < 14) (h : κ ∈ (bif f then tabT j else tabF j)) : colOK f j κ = true := by
  have : j = 0 ∨ j = 1 ∨ j = 2 ∨ j = 3 ∨ j = 4 ∨ j = 5 ∨ j = 6 ∨ j = 7 ∨ j = 8 ∨ j = 9 ∨ j = 10 ∨ j = 11 ∨ j = 12 ∨ j = 13 := by omega
  cases f
  · rcases this with rfl | rfl | rfl | rfl | rfl | rfl | rfl | rfl | rfl | rfl | rfl | rfl | rfl | rfl
    · exact tabF_0 κ h
    · exact tabF_1 κ h
    · exact tabF_2 κ h
    · exact tabF_3 κ h
    · exact tabF_4 κ h
    · exact tabF_5 κ h
    · exact tabF_6 κ h
    · exact tabF_7 κ h
    · exact tabF_8 κ h
    · exact tabF_9 κ h
    · exact tabF_10 κ h
    · exact tabF_11 κ h
    · exact tabF_12 κ h
    · exact tabF_13 κ h
  · rcases this with rfl | rfl | rfl | rfl | rfl | rfl | rfl | rfl | rfl | rfl | rfl | rfl | rfl | rfl
    · exact tabT_0 κ h
    · exact tabT_1 κ h
    · exact tabT_2 κ h
    · exact tabT_3 κ h
    · exact tabT_4 κ h
    · exact tabT_5 κ h
    · exact tabT_6 κ h
    · exact tabT_7 κ h
    · exact tabT_8 κ h
    · exact tabT_9 κ h
    · exact tabT_10 κ h
    · exact tabT_11 κ h
    · exact tabT_12 κ h
    · exact tabT_13 κ h
theorem tabZ_ok {f : Bool} {j : Nat} {κ : List Nat} (h5 : 5 ≤ j) (h7 : j ≤ 7) (h : κ ∈ (bif f then tabZT j else tabZF j)) : lastZ f j κ = true := by
  have : j = 5 ∨ j = 6 ∨ j = 7 := by omega
  cases f
  · rcases this with rfl | rfl | rfl
    · exact tabZF_5 κ h
    · exact tabZF_6 κ h
    · exact tabZF_7 κ h
  · rcases this with rfl | rfl | rfl
    · exact tabZT_5 κ h
    · exact tabZT_6 κ h
    · exact tabZT_7 κ h
def eqL : List Nat → List Nat → Bool
  | [], [] => true
  | x :: l, y :: m => bif Nat.beq x y then eqL l m else false
  | _, _ => false
theorem eqL_ok : ∀ {l m : List Nat}, eqL l m = true → l = m
  | [], [], _ => rfl
  | x :: l, y :: m, h => by
    rw [eqL] at h
    cases hb : Nat.beq x y with
    | true => rw [hb] at h; rw [Nat.eq_of_beq_eq_true hb, eqL_ok h]
    | false => rw [hb] at h; cases h
  | [], _ :: _, h => by cases h
  | _ :: _, [], h => by cases h
def inLL (κ : List Nat) : List (List Nat) → Bool
  | [] => false
  | m :: l => bif eqL κ m then true else inLL κ l
theorem inLL_ok {κ : List Nat} : ∀ {l : List (List Nat)}, inLL κ l = true → κ ∈ l
  | [], h => by cases h
  | m :: l, h => by
    rw [inLL] at h
    cases hb : eqL κ m with
    | true => rw [eqL_ok hb]; exact List.mem_cons_self
    | false => rw [hb] at h; exact List.mem_cons_of_mem _ (inLL_ok h)
/-- All collections from the one at i0 on are in the tables. -/
def path : Nat → Nat → Nat → List Nat → Bool → Bool
  | 0, _, _, _, _ => true
  | fu + 1, p, i0, κ, f => bif Nat.blt i0 22 then path fu p (i0 + p) (addN κ (stk ((i0 + 7) % 14))) true else
    bif inLL κ (bif f then tabT ((i0 + 6) % 14) else tabF ((i0 + 6) % 14)) then
      bif Nat.blt 4 ((i0 + 6) % 14) && Nat.blt ((i0 + 6) % 14) 8 && Nat.beq (bif inLL κ (bif f then tabZT ((i0 + 6) % 14) else tabZF ((i0 + 6) % 14)) then 1 else 0) 0 then false
      else bif Nat.ble (addN κ (stk ((i0 + 7) % 14))).length 15 then path fu p (i0 + p) (addN κ (stk ((i0 + 7) % 14))) true else false
    else false
def paths : Nat → Nat → Bool
  | 0, _ => true
  | n + 1, p => bif path (3620 / p + 1) p p [] false then paths n (p + 1) else false
theorem paths_ok : paths 60 20 = true := by decide +kernel
end Ev
namespace Ev
open Go Go.Proofs

noncomputable def rebK (o : Orig) (f lo hi : Nat) (ps ps' : List (Nat × Blk)) : Bool := layL H0 ps fun H => runK true 0 0 env0 H 264 fun env H _ => chkS true (sg o f 0 lo hi 0) [0, 2] H0 ps' env0 env H
theorem rebA0P : rebK (.num 0 0) 24 1 255 (stA false 0 255) (stA false 1 255) = true := by kernel_rfl
theorem rebA0Z : rebK (.num 0 0) 24 0 0 (stA false 0 255) (stA false 0 0) = true := by kernel_rfl
theorem rebA1P : rebK (.num 0 0) 23 1 255 (stA true 0 255) (stA true 1 255) = true := by kernel_rfl
theorem rebA1Z : rebK (.num 0 0) 23 0 0 (stA true 0 255) (stA true 0 0) = true := by kernel_rfl
theorem rebC0P : rebK (.same 0) 0 1 255 (stC 0 0 255) (stC 0 1 255) = true := by kernel_rfl
theorem rebC1P : rebK (.same 0) 0 1 255 (stC 1 0 255) (stC 1 1 255) = true := by kernel_rfl
theorem rebC2P : rebK (.same 0) 0 1 255 (stC 2 0 255) (stC 2 1 255) = true := by kernel_rfl
theorem rebC3P : rebK (.same 0) 0 1 255 (stC 3 0 255) (stC 3 1 255) = true := by kernel_rfl
theorem rebC4P : rebK (.same 0) 0 1 255 (stC 4 0 255) (stC 4 1 255) = true := by kernel_rfl
theorem rebC5P : rebK (.same 0) 0 1 255 (stC 5 0 255) (stC 5 1 255) = true := by kernel_rfl
theorem rebC0Z : rebK (.same 0) 0 0 0 (stC 0 0 255) (stC 0 0 0) = true := by kernel_rfl
theorem rebC1Z : rebK (.same 0) 0 0 0 (stC 1 0 255) (stC 1 0 0) = true := by kernel_rfl
theorem rebC2Z : rebK (.same 0) 0 0 0 (stC 2 0 255) (stC 2 0 0) = true := by kernel_rfl
theorem rebC3Z : rebK (.same 0) 0 0 0 (stC 3 0 255) (stC 3 0 0) = true := by kernel_rfl
theorem rebC4Z : rebK (.same 0) 0 0 0 (stC 4 0 255) (stC 4 0 0) = true := by kernel_rfl
theorem rebC5Z : rebK (.same 0) 0 0 0 (stC 5 0 255) (stC 5 0 0) = true := by kernel_rfl
theorem rebC12P : rebK (.same 0) 0 2 255 (stC 12 1 255) (stC 12 2 255) = true := by kernel_rfl
theorem rebC12Z : rebK (.same 0) 0 1 1 (stC 12 1 255) (stC 12 1 1) = true := by kernel_rfl
theorem rebC13P : rebK (.same 0) 0 2 255 (stC 13 1 255) (stC 13 2 255) = true := by kernel_rfl
theorem rebC13Z : rebK (.same 0) 0 1 1 (stC 13 1 255) (stC 13 1 1) = true := by kernel_rfl

noncomputable def idsB : List (Nat × Blk) → Bool
  | [] => true
  | (j, _) :: l => Bool.and (Bool.and (Nat.ble 8 j) (Nat.blt j 200)) (idsB l)
theorem idsB_ok : ∀ {l : List (Nat × Blk)}, idsB l = true → ∀ p ∈ l, 8 ≤ p.1 ∧ p.1 < 200
  | [], _, p, hp => by simp at hp
  | (j, b) :: l, h, p, hp => by
    simp only [idsB, Bool.and_eq_true, Nat.ble_eq, Nat.blt_eq] at h
    rcases List.mem_cons.1 hp with rfl | hp
    · exact h.1
    · exact idsB_ok h.2 p hp
theorem idsA (f : Bool) (lo hi : Nat) : ∀ p ∈ stA f lo hi, 8 ≤ p.1 ∧ p.1 < 200 := by
  cases f
  · exact idsB_ok (l := stA false lo hi) (by kernel_rfl)
  · exact idsB_ok (l := stA true lo hi) (by kernel_rfl)
theorem idsC {q : Nat} (hq : q < 14) (lo hi : Nat) : ∀ p ∈ stC q lo hi, 8 ≤ p.1 ∧ p.1 < 200 := by
  have : q = 0 ∨ q = 1 ∨ q = 2 ∨ q = 3 ∨ q = 4 ∨ q = 5 ∨ q = 6 ∨ q = 7 ∨ q = 8 ∨ q = 9 ∨ q = 10 ∨ q = 11 ∨ q = 12 ∨ q = 13 := by omega
  rcases this with rfl | rfl | rfl | rfl | rfl | rfl | rfl | rfl | rfl | rfl | rfl | rfl | rfl | rfl <;> exact idsB_ok (by kernel_rfl)

/-- From here the loop comes to its end, whatever lies before and after. -/
def Gs (w0 : World) (Fe : Fence) (md : Nat) (Q : Exit → Act → World → Prop) (e r : Nat) (ps : List (Nat × Blk)) (κ : List Nat) (X N i : Nat) : Prop :=
  ∃ j, ∀ a w, At w0 ps κ X N i e r a w → Chain Fe md Tryz.prog bodyC Q j a w

section
variable {w0 : World} {Fe : Fence} {md : Nat} {Q Qf : Exit → Act → World → Prop} {e r : Nat}
theorem g_run (hL : Fen true Fe) (he : e < 256) (hr : r ≤ 255) {ps ps' : List (Nat × Blk)} {m : Nat} {o : Orig} {f : Nat} {dN : Int} {lo hi : Nat} (hk : (layL H0 ps fun H => runK true m 0 env0 H 264 fun env H _ => chkS true (sg o f dN lo hi m) [0, 2] H0 ps' env0 env H) = true)
    (hps : ∀ p ∈ ps, 8 ≤ p.1 ∧ p.1 < 200) (hps' : ∀ p ∈ ps', 8 ≤ p.1 ∧ p.1 < 200) {κ : List Nat} (hκ : κ.length ≤ 15) {X N i X' N' : Nat} (hno : ∀ t, t < m → (i + t) % (e % 60 + 20) ≠ 0) (him : i + m ≤ 4000)
    (hX : XOK o f X X') (hN : (N' : Int) = N + dN) (hlo : lo ≤ N') (hhi : N' ≤ hi) (g : Gs w0 Fe md Q e r ps' κ X' N' (i + m)) : Gs w0 Fe md Q e r ps κ X N i := by
  obtain ⟨j, hj⟩ := g
  exact ⟨j + m, fun a w s => stage_run hps hps' hk hκ he hr hno him hX hN hlo hhi hL s hj⟩
theorem g_reb (hL : Fen true Fe) (he : e < 256) (hr : r ≤ 255) {ps ps' : List (Nat × Blk)} {o : Orig} {f lo hi : Nat} (hk : rebK o f lo hi ps ps' = true) (hps : ∀ p ∈ ps, 8 ≤ p.1 ∧ p.1 < 200) (hps' : ∀ p ∈ ps', 8 ≤ p.1 ∧ p.1 < 200) {κ : List Nat} (hκ : κ.length ≤ 15) {X N i : Nat} (him : i ≤ 4000)
    (hX : XOK o f X X) (hlo : lo ≤ N) (hhi : N ≤ hi) (g : Gs w0 Fe md Q e r ps' κ X N i) : Gs w0 Fe md Q e r ps κ X N i :=
  g_run hL he hr (m := 0) hk hps hps' hκ (fun t ht => by omega) (by omega) hX (by omega) hlo hhi g
theorem g_col (hL : Fen true Fe) (he : e < 256) (hr : r ≤ 255) {ps ps' : List (Nat × Blk)} {κ κ' : List Nat} {c : Nat} {o : Orig} {f : Nat} {dN : Int} {lo hi : Nat}
    (hk : (layL H0 (ps ++ cap κ) fun H => colK c env0 H 264 fun env H _ => chkS false (sg o f dN lo hi (c + 1)) [0, 2] H0 (ps' ++ cap κ') env0 env H) = true)
    (hps' : ∀ p ∈ ps', 8 ≤ p.1 ∧ p.1 < 200) (hκ' : κ'.length ≤ 15) {X N i X' N' : Nat} (hno : ∀ t, t < c → (i + t) % (e % 60 + 20) ≠ 0) (hyes : (i + c) % (e % 60 + 20) = 0) (him : i + (c + 1) ≤ 4000)
    (hX : XOK o f X X') (hN : (N' : Int) = N + dN) (hlo : lo ≤ N') (hhi : N' ≤ hi) (g : Gs w0 Fe md Q e r ps' κ' X' N' (i + (c + 1))) : Gs w0 Fe md Q e r ps κ X N i := by
  obtain ⟨j, hj⟩ := g
  exact ⟨j + (c + 1), fun a w s => stage_col hps' hk hκ' he hr hno hyes him hX hN hlo hhi hL s hj⟩
theorem g_end (hL : Fen true Fe) (hQ : ∀ a' w', (cAt pR).wpIn Fe md Tryz.prog Qf a' w' → Q (.exit 0) a' w') (hf : ∀ a' w', Fin3 w0 a' w' → Qf .ret a' w') (he : e < 256) {ps : List (Nat × Blk)} {m : Nat} (hk : (layL H0 ps fun H => runK true m 0 env0 H 264 (endD true)) = true) (hps : ∀ p ∈ ps, 8 ≤ p.1 ∧ p.1 < 200)
    {κ : List Nat} (hκ : κ.length ≤ 15) {X N i : Nat} (hno : ∀ t, t < m → (i + t) % (e % 60 + 20) ≠ 0) (him : i + m ≤ 4000) : Gs w0 Fe md Q e r ps κ X N i :=
  ⟨1 + m, fun _ _ s => stage_end hps hk hκ he hno him hL s hQ hf⟩
theorem g_colZ (hL : Fen true Fe) (hQ : ∀ a' w', (cAt pR).wpIn Fe md Tryz.prog Qf a' w' → Q (.exit 0) a' w') (hf : ∀ a' w', Fin3 w0 a' w' → Qf .ret a' w') (he : e < 256) {ps : List (Nat × Blk)} {κ : List Nat} {c m : Nat} (hk : (layL H0 (ps ++ cap κ) fun H => colK c env0 H 264 fun env H n => runK false m (c + 1) env H n (endD false)) = true)
    {X N i : Nat} (hno : ∀ t, t < c → (i + t) % (e % 60 + 20) ≠ 0) (hyes : (i + c) % (e % 60 + 20) = 0) (hno2 : ∀ t, t < m → (i + (c + 1 + t)) % (e % 60 + 20) ≠ 0) (him : i + (c + 1 + m) ≤ 4000) : Gs w0 Fe md Q e r ps κ X N i :=
  ⟨1 + m + 1 + c, fun _ _ s => stage_colZ hk he hno hyes hno2 him hL s hQ hf⟩
end

theorem nomult {p i0 x : Nat} (h : i0 % p = 0) (h1 : x < i0) (h2 : i0 < x + p) : x % p ≠ 0 := by
  intro h3
  obtain ⟨a, rfl⟩ := Nat.dvd_of_mod_eq_zero h
  obtain ⟨b, rfl⟩ := Nat.dvd_of_mod_eq_zero h3
  have : b < a := Nat.lt_of_mul_lt_mul_left h1
  have := Nat.mul_le_mul_left p (show b + 1 ≤ a from this)
  rw [Nat.mul_add] at this
  omega

theorem nomult2 {p i0 x : Nat} (h : i0 % p = 0) (h1 : i0 < x) (h2 : x < i0 + p) : x % p ≠ 0 :=
  nomult (p := p) (i0 := i0 + p) (by rw [Nat.add_mod_right]; exact h) h2 (by omega)

section
variable {w0 : World} {Fe : Fence} {md : Nat} {Q Qf : Exit → Act → World → Prop} {e r : Nat}

/-- On from a collection at i0. -/
def IhC (w0 : World) (Fe : Fence) (md : Nat) (Q : Exit → Act → World → Prop) (e r : Nat) (κ : List Nat) (N i0 : Nat) : Prop :=
  ∀ N' i' X, N' < N → (i' + 6) % 14 = 0 → i0 < i' → i' ≤ i0 + 17 → 23 ≤ X → X ≤ 31 → i' + 14 * N' ≤ 3600 → Gs w0 Fe md Q e r (stA true 0 255) κ X N' i'

theorem fromSeg (hL : Fen true Fe) (he : e < 256) (hr : r ≤ 255) {q m z k lo : Nat} (hk : segC q m z (-(k : Int)) lo = true) (hq : q < 14) (hz : 23 ≤ z ∧ z ≤ 31) {κ : List Nat} (hκ : κ.length ≤ 15) {X N i0 : Nat} (h0 : i0 % (e % 60 + 20) = 0) (hm : m ≤ 16) (hk1 : 1 ≤ k) (hN : k ≤ N) (hN2 : N ≤ 255)
    (hb : i0 + 1 + m + 14 * (N - k) ≤ 3600) (hc : (i0 + 1 + m + 6) % 14 = 0) (ih : IhC w0 Fe md Q e r κ N i0) : Gs w0 Fe md Q e r (stC q lo 255) κ X N (i0 + 1) :=
  g_run hL he hr (ps' := stA true 0 255) (X' := z) (N' := N - k) hk (idsC hq _ _) (idsA _ _ _) hκ (fun t ht => nomult2 h0 (by omega) (by omega)) (by omega) ⟨rfl, hz.1, by omega⟩ (by omega) (by omega) (by omega)
    (ih (N - k) (i0 + 1 + m) z (by omega) hc (by omega) (by omega) hz.1 hz.2 hb)

theorem fromLast (hL : Fen true Fe) (hQ : ∀ a' w', (cAt pR).wpIn Fe md Tryz.prog Qf a' w' → Q (.exit 0) a' w') (hf : ∀ a' w', Fin3 w0 a' w' → Qf .ret a' w') (he : e < 256) (_hr : r ≤ 255) {q m lo : Nat} (hk : lastQ q m lo = true) (hq : q < 14) {κ : List Nat} (hκ : κ.length ≤ 15) {X N i0 : Nat} (h0 : i0 % (e % 60 + 20) = 0) (hm : m ≤ 16) (hb : i0 ≤ 3700) : Gs w0 Fe md Q e r (stC q lo lo) κ X N (i0 + 1) :=
  g_end hL hQ hf he hk (idsC hq _ _) hκ (fun t ht => nomult2 h0 (by omega) (by omega)) (by omega)

/-- The states with N unknown altogether. -/
theorem fromC0 (hL : Fen true Fe) (hQ : ∀ a' w', (cAt pR).wpIn Fe md Tryz.prog Qf a' w' → Q (.exit 0) a' w') (hf : ∀ a' w', Fin3 w0 a' w' → Qf .ret a' w') (he : e < 256) (hr : r ≤ 255) {q z : Nat} (hq : q < 6) (hP : rebK (.same 0) 0 1 255 (stC q 0 255) (stC q 1 255) = true) (hZ : rebK (.same 0) 0 0 0 (stC q 0 255) (stC q 0 0) = true) (hs : segC q (14 - q) z (-1) 1 = true) (hl : lastQ q (8 - q) 0 = true) (hz : 23 ≤ z ∧ z ≤ 31)
    {κ : List Nat} (hκ : κ.length ≤ 15) {X N i0 : Nat} (h0 : i0 % (e % 60 + 20) = 0) (hN2 : N ≤ 255) (hb : i0 + 1 + 14 * N ≤ 3600 + q) (hc : (i0 + 1 + 6) % 14 = q) (ih : IhC w0 Fe md Q e r κ N i0) : Gs w0 Fe md Q e r (stC q 0 255) κ X N (i0 + 1) := by
  rcases Nat.eq_zero_or_pos N with rfl | hpos
  · exact g_reb hL he hr hZ (idsC (by omega) _ _) (idsC (by omega) _ _) hκ (by omega) ⟨rfl, rfl⟩ (by omega) (by omega) (fromLast hL hQ hf he hr hl (by omega) hκ h0 (by omega) (by omega))
  · exact g_reb hL he hr hP (idsC (by omega) _ _) (idsC (by omega) _ _) hκ (by omega) ⟨rfl, rfl⟩ (by omega) (by omega) (fromSeg hL he hr (k := 1) hs (by omega) hz hκ h0 (by omega) (by omega) (by omega) hN2 (by omega) (by omega) ih)

theorem fromC2 (hL : Fen true Fe) (hQ : ∀ a' w', (cAt pR).wpIn Fe md Tryz.prog Qf a' w' → Q (.exit 0) a' w') (hf : ∀ a' w', Fin3 w0 a' w' → Qf .ret a' w') (he : e < 256) (hr : r ≤ 255) {q m m' z : Nat} (hq : q < 14) (hP : rebK (.same 0) 0 2 255 (stC q 1 255) (stC q 2 255) = true) (hZ : rebK (.same 0) 0 1 1 (stC q 1 255) (stC q 1 1) = true) (hs : segC q m z (-2) 2 = true) (hz : 23 ≤ z ∧ z ≤ 31) (hl : lastQ q m' 1 = true) (hm' : m' ≤ 16) (hm : m + q = 28) (hm2 : m ≤ 16)
    {κ : List Nat} (hκ : κ.length ≤ 15) {X N i0 : Nat} (h0 : i0 % (e % 60 + 20) = 0) (hN : 1 ≤ N) (hN2 : N ≤ 255) (hb : i0 + 1 + 14 * N ≤ 3600 + q) (hc : (i0 + 1 + 6) % 14 = q) (ih : IhC w0 Fe md Q e r κ N i0) : Gs w0 Fe md Q e r (stC q 1 255) κ X N (i0 + 1) := by
  rcases Nat.lt_or_ge N 2 with h1 | h2
  · exact g_reb hL he hr hZ (idsC hq _ _) (idsC hq _ _) hκ (by omega) ⟨rfl, rfl⟩ (by omega) (by omega) (fromLast hL hQ hf he hr hl hq hκ h0 hm' (by omega))
  · exact g_reb hL he hr hP (idsC hq _ _) (idsC hq _ _) hκ (by omega) ⟨rfl, rfl⟩ (by omega) (by omega) (fromSeg hL he hr (k := 2) hs hq hz hκ h0 hm2 (by omega) h2 hN2 (by omega) (by omega) ih)

/-- From any collected state. -/
theorem fromC (hL : Fen true Fe) (hQ : ∀ a' w', (cAt pR).wpIn Fe md Tryz.prog Qf a' w' → Q (.exit 0) a' w') (hf : ∀ a' w', Fin3 w0 a' w' → Qf .ret a' w') (he : e < 256) (hr : r ≤ 255) {j : Nat} (hj : j < 14) {κ : List Nat} (hκ : κ.length ≤ 15) {X N i0 : Nat} (h0 : i0 % (e % 60 + 20) = 0) (hN : loT j ≤ N) (hN2 : N ≤ 255) (hb : i0 + 1 + 14 * N ≤ 3600 + qT j) (hc : (i0 + 1 + 6) % 14 = qT j) (ih : IhC w0 Fe md Q e r κ N i0) :
    Gs w0 Fe md Q e r (stC (qT j) (loT j) 255) κ X N (i0 + 1) := by
  have : j = 0 ∨ j = 1 ∨ j = 2 ∨ j = 3 ∨ j = 4 ∨ j = 5 ∨ j = 6 ∨ j = 7 ∨ j = 8 ∨ j = 9 ∨ j = 10 ∨ j = 11 ∨ j = 12 ∨ j = 13 := by omega
  rcases this with rfl | rfl | rfl | rfl | rfl | rfl | rfl | rfl | rfl | rfl | rfl | rfl | rfl | rfl
  · exact fromC0 hL hQ hf he hr (by omega) rebC1P rebC1Z seg1 lastq1 (by omega) hκ h0 hN2 hb hc ih
  · exact fromC0 hL hQ hf he hr (by omega) rebC2P rebC2Z seg2 lastq2 (by omega) hκ h0 hN2 hb hc ih
  · exact fromC0 hL hQ hf he hr (by omega) rebC3P rebC3Z seg3 lastq3 (by omega) hκ h0 hN2 hb hc ih
  · exact fromC0 hL hQ hf he hr (by omega) rebC4P rebC4Z seg4 lastq4 (by omega) hκ h0 hN2 hb hc ih
  · exact fromC0 hL hQ hf he hr (by omega) rebC5P rebC5Z seg5 lastq5 (by omega) hκ h0 hN2 hb hc ih
  · have hN : 1 ≤ N := hN
    have hb : i0 + 1 + 14 * N ≤ 3600 + 6 := hb
    have hc : (i0 + 1 + 6) % 14 = 6 := hc
    exact fromSeg hL he hr (k := 1) seg6 (by omega) (by omega) hκ h0 (by omega) (by omega) hN hN2 (by omega) (by omega) ih
  · have hN : 1 ≤ N := hN
    have hb : i0 + 1 + 14 * N ≤ 3600 + 7 := hb
    have hc : (i0 + 1 + 6) % 14 = 7 := hc
    exact fromSeg hL he hr (k := 1) seg7 (by omega) (by omega) hκ h0 (by omega) (by omega) hN hN2 (by omega) (by omega) ih
  · have hN : 1 ≤ N := hN
    have hb : i0 + 1 + 14 * N ≤ 3600 + 8 := hb
    have hc : (i0 + 1 + 6) % 14 = 8 := hc
    exact fromSeg hL he hr (k := 1) seg8 (by omega) (by omega) hκ h0 (by omega) (by omega) hN hN2 (by omega) (by omega) ih
  · have hN : 1 ≤ N := hN
    have hb : i0 + 1 + 14 * N ≤ 3600 + 9 := hb
    have hc : (i0 + 1 + 6) % 14 = 9 := hc
    exact fromSeg hL he hr (k := 1) seg9 (by omega) (by omega) hκ h0 (by omega) (by omega) hN hN2 (by omega) (by omega) ih
  · have hN : 1 ≤ N := hN
    have hb : i0 + 1 + 14 * N ≤ 3600 + 10 := hb
    have hc : (i0 + 1 + 6) % 14 = 10 := hc
    exact fromSeg hL he hr (k := 1) seg10 (by omega) (by omega) hκ h0 (by omega) (by omega) hN hN2 (by omega) (by omega) ih
  · have hN : 1 ≤ N := hN
    have hb : i0 + 1 + 14 * N ≤ 3600 + 11 := hb
    have hc : (i0 + 1 + 6) % 14 = 11 := hc
    exact fromSeg hL he hr (k := 1) seg11 (by omega) (by omega) hκ h0 (by omega) (by omega) hN hN2 (by omega) (by omega) ih
  · exact fromC2 hL hQ hf he hr (by omega) rebC12P rebC12Z seg12 (by omega) lastq12 (by omega) (by omega) (by omega) hκ h0 hN hN2 hb hc ih
  · exact fromC2 hL hQ hf he hr (by omega) rebC13P rebC13Z seg13 (by omega) lastq13 (by omega) (by omega) (by omega) hκ h0 hN hN2 hb hc ih
  · exact fromC0 hL hQ hf he hr (by omega) rebC0P rebC0Z seg0 lastq0 (by omega) hκ h0 hN2 hb hc ih
end

theorem addN_len : ∀ (l κ : List Nat), (addN κ l).length ≤ κ.length + l.length
  | [], κ => by simp [addN]
  | x :: l, κ => by
    rw [addN]
    cases memX x κ with
    | true => have := addN_len l κ; simp only [cond_true, List.length_cons]; omega
    | false => have := addN_len l (κ ++ [x]); simp only [cond_false, List.length_cons, List.length_append, List.length_nil] at this ⊢; omega

/-- What the tables say of the way from a collection on. -/
theorem path_step {fu p i0 : Nat} {κ : List Nat} {f : Bool} (h : path (fu + 1) p i0 κ f = true) (h22 : 22 ≤ i0) :
    κ ∈ (bif f then tabT ((i0 + 6) % 14) else tabF ((i0 + 6) % 14)) ∧ (5 ≤ (i0 + 6) % 14 → (i0 + 6) % 14 ≤ 7 → κ ∈ (bif f then tabZT ((i0 + 6) % 14) else tabZF ((i0 + 6) % 14))) ∧ (addN κ (stk ((i0 + 7) % 14))).length ≤ 15 ∧
    path fu p (i0 + p) (addN κ (stk ((i0 + 7) % 14))) true = true := by
  rw [path] at h
  have h1 : Nat.blt i0 22 = false := by
    cases hb : Nat.blt i0 22 with
    | false => rfl
    | true => rw [Nat.blt_eq] at hb; omega
  rw [h1, cond_false] at h
  cases h2 : inLL κ (bif f then tabT ((i0 + 6) % 14) else tabF ((i0 + 6) % 14)) with
  | false => rw [h2] at h; cases h
  | true =>
    rw [h2, cond_true] at h
    refine ⟨inLL_ok h2, ?_⟩
    cases h3 : (Nat.blt 4 ((i0 + 6) % 14) && Nat.blt ((i0 + 6) % 14) 8 && Nat.beq (bif inLL κ (bif f then tabZT ((i0 + 6) % 14) else tabZF ((i0 + 6) % 14)) then 1 else 0) 0) with
    | true => rw [h3] at h; cases h
    | false =>
      rw [h3, cond_false] at h
      cases h4 : Nat.ble (addN κ (stk ((i0 + 7) % 14))).length 15 with
      | false => rw [h4] at h; cases h
      | true =>
        rw [h4, cond_true] at h
        refine ⟨fun g5 g7 => ?_, Nat.le_of_ble_eq_true h4, h⟩
        cases h5 : inLL κ (bif f then tabZT ((i0 + 6) % 14) else tabZF ((i0 + 6) % 14)) with
        | true => exact inLL_ok h5
        | false =>
          rw [h5] at h3
          have a1 : Nat.blt 4 ((i0 + 6) % 14) = true := by rw [Nat.blt_eq]; omega
          have a2 : Nat.blt ((i0 + 6) % 14) 8 = true := by rw [Nat.blt_eq]; omega
          rw [a1, a2] at h3
          cases h3

theorem qT_eq {j : Nat} (hj : j < 14) : qT j = (j + 1) % 14 := by
  have : j = 0 ∨ j = 1 ∨ j = 2 ∨ j = 3 ∨ j = 4 ∨ j = 5 ∨ j = 6 ∨ j = 7 ∨ j = 8 ∨ j = 9 ∨ j = 10 ∨ j = 11 ∨ j = 12 ∨ j = 13 := by omega
  rcases this with rfl | rfl | rfl | rfl | rfl | rfl | rfl | rfl | rfl | rfl | rfl | rfl | rfl | rfl <;> rfl
theorem loT_eq {j : Nat} (hj : j < 14) : loT j = if j < 5 ∨ j = 13 then 0 else 1 := by
  have : j = 0 ∨ j = 1 ∨ j = 2 ∨ j = 3 ∨ j = 4 ∨ j = 5 ∨ j = 6 ∨ j = 7 ∨ j = 8 ∨ j = 9 ∨ j = 10 ∨ j = 11 ∨ j = 12 ∨ j = 13 := by omega
  rcases this with rfl | rfl | rfl | rfl | rfl | rfl | rfl | rfl | rfl | rfl | rfl | rfl | rfl | rfl <;> rfl
theorem loS_eq {j : Nat} (hj : j < 14) : loS j = if j < 5 then 0 else 1 := by
  have : j = 0 ∨ j = 1 ∨ j = 2 ∨ j = 3 ∨ j = 4 ∨ j = 5 ∨ j = 6 ∨ j = 7 ∨ j = 8 ∨ j = 9 ∨ j = 10 ∨ j = 11 ∨ j = 12 ∨ j = 13 := by omega
  rcases this with rfl | rfl | rfl | rfl | rfl | rfl | rfl | rfl | rfl | rfl | rfl | rfl | rfl | rfl <;> rfl
theorem dNT_eq {j : Nat} (hj : j < 14) : dNT j = if j = 13 then -1 else 0 := by
  have : j = 0 ∨ j = 1 ∨ j = 2 ∨ j = 3 ∨ j = 4 ∨ j = 5 ∨ j = 6 ∨ j = 7 ∨ j = 8 ∨ j = 9 ∨ j = 10 ∨ j = 11 ∨ j = 12 ∨ j = 13 := by omega
  rcases this with rfl | rfl | rfl | rfl | rfl | rfl | rfl | rfl | rfl | rfl | rfl | rfl | rfl | rfl <;> rfl

section
variable {w0 : World} {Fe : Fence} {md : Nat} {Q Qf : Exit → Act → World → Prop} {e r : Nat}

theorem rebP (hL : Fen true Fe) (_hQ : ∀ a' w', (cAt pR).wpIn Fe md Tryz.prog Qf a' w' → Q (.exit 0) a' w') (_hf : ∀ a' w', Fin3 w0 a' w' → Qf .ret a' w') (he : e < 256) (hr : r ≤ 255) (f : Bool) {κ : List Nat} (hκ : κ.length ≤ 15) {X N i : Nat} (hX : (bif f then 23 else 24) ≤ X) (hX2 : X ≤ 3000) (hN : 1 ≤ N) (hN2 : N ≤ 255) (hi : i ≤ 4000) (g : Gs w0 Fe md Q e r (stA f 1 255) κ X N i) : Gs w0 Fe md Q e r (stA f 0 255) κ X N i := by
  cases f
  · exact g_reb hL he hr rebA0P (idsA _ _ _) (idsA _ _ _) hκ hi ⟨rfl, by omega, hX, hX2⟩ hN hN2 g
  · exact g_reb hL he hr rebA1P (idsA _ _ _) (idsA _ _ _) hκ hi ⟨rfl, by omega, hX, hX2⟩ hN hN2 g
theorem rebZ (hL : Fen true Fe) (_hQ : ∀ a' w', (cAt pR).wpIn Fe md Tryz.prog Qf a' w' → Q (.exit 0) a' w') (_hf : ∀ a' w', Fin3 w0 a' w' → Qf .ret a' w') (he : e < 256) (hr : r ≤ 255) (f : Bool) {κ : List Nat} (hκ : κ.length ≤ 15) {X i : Nat} (hX : (bif f then 23 else 24) ≤ X) (hX2 : X ≤ 3000) (hi : i ≤ 4000) (g : Gs w0 Fe md Q e r (stA f 0 0) κ X 0 i) : Gs w0 Fe md Q e r (stA f 0 255) κ X 0 i := by
  cases f
  · exact g_reb hL he hr rebA0Z (idsA _ _ _) (idsA _ _ _) hκ hi ⟨rfl, by omega, hX, hX2⟩ (by omega) (by omega) g
  · exact g_reb hL he hr rebA1Z (idsA _ _ _) (idsA _ _ _) hκ hi ⟨rfl, by omega, hX, hX2⟩ (by omega) (by omega) g

/-- The loop from the start of a round on. -/
theorem loopA (hL : Fen true Fe) (hQ : ∀ a' w', (cAt pR).wpIn Fe md Tryz.prog Qf a' w' → Q (.exit 0) a' w') (hf : ∀ a' w', Fin3 w0 a' w' → Qf .ret a' w') (he : e < 256) (hr : r ≤ 255) : ∀ (N : Nat) (f : Bool) (i : Nat) (κ : List Nat) (X i0 fu : Nat), (i + 6) % 14 = 0 → i ≤ i0 → i0 < i + (e % 60 + 20) → i0 % (e % 60 + 20) = 0 → 22 ≤ i → path fu (e % 60 + 20) i0 κ f = true → 3620 < i0 + fu * (e % 60 + 20) →
    (bif f then 23 else 24) ≤ X → X + 8 * N ≤ 2500 → i + 14 * N ≤ 3600 → N ≤ 255 → κ.length ≤ 15 → Gs w0 Fe md Q e r (stA f 0 255) κ X N i := by
  intro N
  induction N using Nat.strongRecOn with
  | ind N IH =>
    intro f i κ X i0 fu hi6 hle hlt hmul h22 hpath hfu hX hXN hiN hN hκ
    have hno : ∀ x, i ≤ x → x < i0 → x % (e % 60 + 20) ≠ 0 := fun x h1 h2 => nomult hmul h2 (by omega)
    rcases Nat.lt_or_ge i0 (i + 14) with hB | hA
    · -- a collection in this round
      obtain ⟨j, rfl⟩ : ∃ j, i0 = i + j := ⟨i0 - i, by omega⟩
      have hj : j < 14 := by omega
      have hj6 : (i + j + 6) % 14 = j := by omega
      cases fu with
      | zero => omega
      | succ fu =>
        obtain ⟨t1, t2, t3, t4⟩ := path_step hpath (by omega)
        rw [hj6] at t1 t2
        have hq : (i + j + 7) % 14 = qT j := by rw [qT_eq hj]; omega
        rw [hq] at t3 t4
        have col : (j < 5 ∨ 1 ≤ N) → Gs w0 Fe md Q e r (stA f 0 255) κ X N i := fun hor => by
          have hsrc : Gs w0 Fe md Q e r (stA f (loS j) 255) κ X N i := by
            have hq2 : (j = 13 ∧ qT j = 0) ∨ (j ≠ 13 ∧ qT j = j + 1) := by rw [qT_eq hj]; omega
            have hlo2 : ((j < 5 ∨ j = 13) ∧ loT j = 0) ∨ ((5 ≤ j ∧ j ≠ 13) ∧ loT j = 1) := by rw [loT_eq hj]; split <;> omega
            have hd2 : (j = 13 ∧ dNT j = -1) ∨ (j ≠ 13 ∧ dNT j = 0) := by rw [dNT_eq hj]; split <;> omega
            obtain ⟨N', hN'⟩ : ∃ N', (j = 13 ∧ N' = N - 1) ∨ (j ≠ 13 ∧ N' = N) := by
              by_cases h13 : j = 13
              · exact ⟨N - 1, .inl ⟨h13, rfl⟩⟩
              · exact ⟨N, .inr ⟨h13, rfl⟩⟩
            refine g_col hL he hr (ps' := stC (qT j) (loT j) 255) (κ' := addN κ (stk (qT j))) (c := j) (X' := X) (N' := N') (tab_ok hj t1) (idsC (by omega) _ _) t3 (fun t ht => hno _ (by omega) (by omega)) hmul (by omega) ⟨rfl, rfl⟩
              (by omega) (by omega) (by omega) ?_
            have hfu2 : 3620 < i + j + (e % 60 + 20) + fu * (e % 60 + 20) := by rw [Nat.succ_mul] at hfu; omega
            have c1 : loT j ≤ N' := by omega
            have c2 : i + j + 1 + 14 * N' ≤ 3600 + qT j := by clear hfu hfu2 hpath t4 hmul hno; omega
            have c3 : (i + j + 1 + 6) % 14 = qT j := by clear hfu hfu2 hpath t4 hmul hno; omega
            refine fromC (i0 := i + j) hL hQ hf he hr hj t3 hmul c1 (by omega) c2 c3 ?_
            intro N'' i'' X'' h1 h2 h3 h4 h5 h6 h7
            have h3 : i + j < i'' := h3
            have h4 : i'' ≤ i + j + 17 := h4
            exact IH N'' (by omega) true i'' _ X'' (i + j + (e % 60 + 20)) fu h2 (by omega) (by omega) (by rw [Nat.add_mod_right]; exact hmul) (by omega) t4 hfu2 h5 (by omega) h7 (by omega) t3
          rw [loS_eq hj] at hsrc
          by_cases h5 : j < 5
          · rw [if_pos h5] at hsrc; exact hsrc
          · rw [if_neg h5] at hsrc
            exact rebP hL hQ hf he hr f hκ hX (by omega) (by omega) hN (by omega) hsrc
        rcases Nat.eq_zero_or_pos N with rfl | hpos
        · rcases Nat.lt_or_ge j 5 with h5 | h5
          · exact col (.inl h5)
          · refine rebZ hL hQ hf he hr f hκ hX (by omega) (by omega) ?_
            rcases Nat.lt_or_ge j 8 with h8 | h8
            · exact g_colZ hL hQ hf he (c := j) (m := 7 - j) (tabZ_ok h5 (by omega) (t2 h5 (by omega))) (fun t ht => hno _ (by omega) (by omega)) hmul (fun t ht => nomult2 hmul (by omega) (by omega)) (by omega)
            · have hl : lastA f = true := by cases f; exact last0; exact last1
              exact g_end hL hQ hf he (m := 8) hl (idsA _ _ _) hκ (fun t ht => hno _ (by omega) (by omega)) (by omega)
        · exact col (.inr hpos)
    · rcases Nat.eq_zero_or_pos N with rfl | hpos
      · refine rebZ hL hQ hf he hr f hκ hX (by omega) (by omega) ?_
        have hl : lastA f = true := by cases f; exact last0; exact last1
        exact g_end hL hQ hf he (m := 8) hl (idsA _ _ _) hκ (fun t ht => hno _ (by omega) (by omega)) (by omega)
      · refine rebP hL hQ hf he hr f hκ hX (by omega) hpos hN (by omega) ?_
        have hg := IH (N - 1) (by omega) f (i + 14) κ (X + 8) i0 fu (by omega) hA (by omega) hmul (by omega) hpath hfu (by omega) (by omega) (by omega) (by omega) hκ
        have hl : rndA f = true := by cases f; exact rnd0; exact rnd1
        exact g_run hL he hr (m := 14) (X' := X + 8) (N' := N - 1) hl (idsA _ _ _) (idsA _ _ _) hκ (fun t ht => hno _ (by omega) (by omega)) (by omega) ⟨rfl, by omega, by omega, by omega⟩ (by omega) (by omega) (by omega) hg
end
end Ev
namespace Ev
open Go Go.Proofs

/-! From the parsed program to the end. -/

theorem k0 : codeAt root3 [0] = some (cAt [0]) := by kernel_rfl
theorem k1 : codeAt root3 [1, 0] = some (cAt [1, 0]) := by kernel_rfl
theorem k2 : codeAt root3 [1, 1, 0] = some (cAt [1, 1, 0]) := by kernel_rfl
theorem k3 : codeAt root3 [1, 1, 1, 0] = some (cAt [1, 1, 1, 0]) := by kernel_rfl
theorem k4 : codeAt root3 [1, 1, 1, 1, 0] = some (cAt [1, 1, 1, 1, 0]) := by kernel_rfl
theorem k5 : codeAt root3 [1, 1, 1, 1, 1, 0, 0] = some (cAt [1, 1, 1, 1, 1, 0, 0]) := by kernel_rfl
noncomputable def restC : Code := .seq (cAt [1, 1, 0]) (.seq (cAt [1, 1, 1, 0]) (.seq (cAt [1, 1, 1, 1, 0]) (.seq (.seq (cAt [1, 1, 1, 1, 1, 0, 0]) (.block 0 (.loop bodyC))) (cAt pR))))
theorem root_eq : root3 = .seq (cAt [0]) (.seq (cAt [1, 0]) restC) := by kernel_rfl

theorem strt2 : toLoop 1 255 (fun env H n => runI 21 1 env H n fun env H _ => chkS false sgS [0, 2] H0 (stA false 0 255 ++ cap []) env0 env H) = true := by kernel_rfl
theorem strt3 : toLoop 0 0 (fun env H n => runI 15 1 env H n (endD false)) = true := by kernel_rfl
theorem strt4 : toLoop 1 255 (fun env H n => runI 19 1 env H n fun env H n => bodyK false true (I 20) env H n fun env H _ => chkS false sgS13 [0, 2] H0 (stC 13 1 255 ++ cap (addN [] (stk 13))) env0 env H) = true := by kernel_rfl
theorem strt5 : toLoop 1 255 (fun env H n => runI 20 1 env H n fun env H n => bodyK false true (I 21) env H n fun env H _ => chkS false sgS0 [0, 2] H0 (stC 0 0 255 ++ cap (addN [] (stk 0))) env0 env H) = true := by kernel_rfl

/-- At the parsed program. -/
def AtP (w0 : World) (lo hi e r : Nat) (a : Act) (w : World) : Prop :=
  ∃ θ, θ.val = vals 0 0 0 e r ∧ Head Tryz.prog w0 (hfn (putL H0 (stP lo hi))) 264 envP θ a w

theorem asd0 : ∀ (b : Nat) (x : Blk), (fun _ : Nat => (none : Option Blk)) b = some x → Aside x := fun _ _ e => by cases e
theorem dead0 (H : Heap) : ∀ (b : Nat) (x : Blk), (fun _ : Nat => (none : Option Blk)) b = some x → hfn H b = .dead := fun _ _ e => by cases e
theorem over0 (H : Heap) : Ev.over (hfn H) (fun _ => none) = hfn H := rfl

/-- A piece of code, nothing lying aside. -/
theorem Head.go {P : Program} {w0 : World} {H : Heap} {n : Nat} {env : List AV} {θ : Theta} {a : Act} {w : World} (h : Head P w0 (hfn H) n env θ a w)
    {t : Bool} {c : Code} {x : Exit} {env' : List AV} {H' : Heap} {n' : Nat} (hto : CodeTo t P c env H n x env' H' n') {Fe : Fence} (hL : Fen t Fe) {m : Nat} {Q : Exit → Act → World → Prop}
    (hQ : ∀ a' w' θ', θ.le θ' → Head P w0 (hfn H') n' env' θ' a' w' → Q x a' w') : c.wpIn Fe m P Q a w :=
  Head.run (ex := fun _ => none) h (dead0 H) asd0 hto hL hQ

theorem toLoop_ok {lo hi : Nat} {k : Kont} (h : toLoop lo hi k = true) : ∃ env' H' n', k env' H' n' = true ∧ ∀ (w0 : World) (Fe : Fence) (md : Nat) (Q : Exit → Act → World → Prop) (θ : Theta) (a : Act) (w : World), Fen true Fe →
    Head Tryz.prog w0 (hfn (putL H0 (stP lo hi))) 264 envP θ a w →
    (∀ a' w' θ', θ.le θ' → Head Tryz.prog w0 (hfn H') n' env' θ' a' w' → ∃ j, Chain Fe md Tryz.prog bodyC (Exit.inBlock 0 (Exit.then ((cAt pR).wpIn Fe md Tryz.prog Q) Q)) j a' w') → restC.wpIn Fe md Tryz.prog Q a w := by
  unfold toLoop at h
  rw [layL_eq] at h
  obtain ⟨env1, H1, n1, g1, t1⟩ := evo_ok k2 h
  obtain ⟨env2, H2, n2, g2, t2⟩ := evo_ok k3 g1
  obtain ⟨env3, H3, n3, g3, t3⟩ := evo_ok k4 g2
  obtain ⟨env4, H4, n4, g4, t4⟩ := evo_ok k5 g3
  refine ⟨env4, H4, n4, g4, fun w0 Fe md Q θ a w hL s hQ => ?_⟩
  refine wpIn_seq (s.go t1 hL fun a1 w1 θ1 q1 s1 => ?_)
  refine wpIn_seq (s1.go t2 hL fun a2 w2 θ2 q2 s2 => ?_)
  refine wpIn_seq (s2.go t3 hL fun a3 w3 θ3 q3 s3 => ?_)
  refine wpIn_seq (wpIn_seq (s3.go t4 hL fun a4 w4 θ4 q4 s4 => ?_))
  obtain ⟨j, hj⟩ := hQ a4 w4 θ4 (Theta.le_trans q1 (Theta.le_trans q2 (Theta.le_trans q3 q4))) s4
  exact wpIn_block (wpIn_chain hj)

theorem st_link {θ : Theta} {e r : Nat} (hv : ∀ s v, vals 0 0 0 e r s = some v → θ.val s = some v) (hr : r ≤ 255) {o : Orig} {f h0 lo : Nat} {d : Int} {X N i : Nat}
    (hX : (o = .lit X ∧ f ≤ X ∧ X ≤ h0) ∨ (o = .same 0 ∧ X = 0)) (hN : (N : Int) = r + d) (hlo : lo ≤ N) (hhi : N ≤ 255) (hi : i ≤ 4000) :
    LinkS [⟨o, f, h0⟩, ⟨.num 5 d, lo, 255⟩, ⟨.lit i, 0, 4000⟩, ⟨.lit 0, 0, 0⟩, ⟨.same 4, 0, 0⟩, ⟨.num 5 0, 0, 255⟩] θ ⟨fun _ => none, vals X N i e r⟩ := by
  have val : ∀ {s lo hi : Nat} {z : Int} {y : Nat}, vals 0 0 0 e r s = some (.int .i64 (y : Int)) → θ.num s lo hi = some z → z = y := fun h1 h2 => by
    have h3 := (num_some h2).1
    rw [hv _ _ h1] at h3
    injection h3 with h3
    injection h3 with _ h3
    exact h3.symm
  intro s g hg
  match s, hg with
  | 0, hg =>
    simp only [List.getElem?_cons_zero, Option.some.injEq] at hg
    subst hg
    rcases hX with ⟨rfl, h1, h2⟩ | ⟨rfl, rfl⟩
    · exact num_of rfl h1 h2
    · intro v h
      rw [hv 0 _ rfl] at h
      exact h
  | 1, hg =>
    simp only [List.getElem?_cons_succ, List.getElem?_cons_zero, Option.some.injEq] at hg
    subst hg
    intro lo' hi' z hz
    have := val (s := 5) (y := r) rfl hz
    subst this
    rw [← hN]
    exact num_of rfl hlo hhi
  | 2, hg =>
    simp only [List.getElem?_cons_succ, List.getElem?_cons_zero, Option.some.injEq] at hg
    subst hg
    exact num_of rfl (Nat.zero_le _) hi
  | 3, hg =>
    simp only [List.getElem?_cons_succ, List.getElem?_cons_zero, Option.some.injEq] at hg
    subst hg
    exact num_of (z := 0) rfl (Nat.le_refl 0) (Nat.le_refl 0)
  | 4, hg =>
    simp only [List.getElem?_cons_succ, List.getElem?_cons_zero, Option.some.injEq] at hg
    subst hg
    intro v h
    rw [hv 4 _ rfl] at h
    exact h
  | 5, hg =>
    simp only [List.getElem?_cons_succ, List.getElem?_cons_zero, Option.some.injEq] at hg
    subst hg
    intro lo' hi' z hz
    have := val (s := 5) (y := r) rfl hz
    subst this
    have := num_of (θ := ⟨fun _ => none, vals X N i e r⟩) (s := 5) (lo := 0) (hi := 255) (z := r) rfl (by omega) hr
    simpa using this
  | s + 6, hg => simp at hg

theorem cap_nil_len : (addN [] ([] : List Nat)).length ≤ 15 := by decide

/-- To the head of the loop from a memory just run. -/
theorem to_at {w0 : World} {H : Heap} {n : Nat} {env : List AV} {θ θ0 : Theta} {a : Act} {w : World} (s : Head Tryz.prog w0 (hfn H) n env θ a w) {e r : Nat} (h0 : θ0.val = vals 0 0 0 e r) (hle : θ0.le θ) (hr : r ≤ 255) {o : Orig} {f h1 lo : Nat} {d : Int} {X N i : Nat} {ps : List (Nat × Blk)} {κ : List Nat}
    (hX : (o = .lit X ∧ f ≤ X ∧ X ≤ h1) ∨ (o = .same 0 ∧ X = 0)) (hN : (N : Int) = r + d) (hlo : lo ≤ N) (hhi : N ≤ 255) (hi : i ≤ 4000) (hps : ∀ p ∈ ps, 8 ≤ p.1 ∧ p.1 < 200) (hκ : κ.length ≤ 15)
    (hk : chkS false [⟨o, f, h1⟩, ⟨.num 5 d, lo, 255⟩, ⟨.lit i, 0, 4000⟩, ⟨.lit 0, 0, 0⟩, ⟨.same 4, 0, 0⟩, ⟨.num 5 0, 0, 255⟩] [0, 2] H0 (ps ++ cap κ) env0 env H = true) : At w0 ps κ X N i e r a w := by
  rw [← over0] at s
  obtain ⟨θT, e1, s'⟩ := s.rebase glob8 (fx := false) (gl := [0, 2]) (E := H0) (ps := ps ++ cap κ) (envT := env0) (fun p hp => by
      rcases List.mem_append.1 hp with hp | hp
      · exact ⟨(hps p hp).1, by have := (hps p hp).2; omega, fun h => by cases h⟩
      · exact ⟨by have := (cap_ids hκ p hp).1; omega, (cap_ids hκ p hp).2, fun h => by cases h⟩) (fun x hx => H0_dead hx)
    (st_link (X := X) (N := N) (fun s v h => hle.2 s v (by rw [h0]; exact h)) hr hX hN hlo hhi hi) hk (fun _ b => rfl) (fun b x e => by cases e)
  exact ⟨θT, e1, s'⟩

theorem paths_at : ∀ (n p q : Nat), paths n p = true → p ≤ q → q < p + n → path (3620 / q + 1) q q [] false = true
  | 0, p, q, _, h1, h2 => by omega
  | n + 1, p, q, h, h1, h2 => by
    rw [paths] at h
    cases hb : path (3620 / p + 1) p p [] false with
    | false => rw [hb] at h; cases h
    | true =>
      rw [hb, cond_true] at h
      rcases Nat.lt_or_ge p q with h3 | h3
      · exact paths_at n (p + 1) q h h3 (by omega)
      · have : p = q := by omega
        subst this
        exact hb

section
variable {w0 : World} {Fe : Fence} {md : Nat} {Q Qf : Exit → Act → World → Prop} {e r : Nat}

/-- Where the first collection comes after the first round. -/
theorem goA (hL : Fen true Fe) (hQ : ∀ a' w', (cAt pR).wpIn Fe md Tryz.prog Qf a' w' → Q (.exit 0) a' w') (hf : ∀ a' w', Fin3 w0 a' w' → Qf .ret a' w') (he : e < 256) (hr : r ≤ 255) (hr1 : 1 ≤ r) (hp : 22 ≤ e % 60 + 20) : Gs w0 Fe md Q e r (stA false 0 255) [] 30 (r - 1) 22 := by
  have hpath := paths_at 60 20 (e % 60 + 20) paths_ok (by omega) (by omega)
  have h1 : 3620 < (e % 60 + 20) * (3620 / (e % 60 + 20) + 1) := by
    have := Nat.lt_mul_div_succ 3620 (show 0 < e % 60 + 20 by omega)
    exact this
  refine loopA hL hQ hf he hr (r - 1) false 22 [] 30 (e % 60 + 20) (3620 / (e % 60 + 20) + 1) (by omega) hp (by omega) (Nat.mod_self _) (by omega) hpath ?_ (by decide) (by omega) (by omega) (by omega) (by decide)
  rw [Nat.mul_comm] at h1
  omega

/-- On from the first collection, where it comes within the first round. -/
theorem ih0 (hL : Fen true Fe) (hQ : ∀ a' w', (cAt pR).wpIn Fe md Tryz.prog Qf a' w' → Q (.exit 0) a' w') (hf : ∀ a' w', Fin3 w0 a' w' → Qf .ret a' w') (he : e < 256) (hr : r ≤ 255) {i0 N : Nat} (hp : e % 60 + 20 = i0) (h20 : 20 ≤ i0) (h21 : i0 < 22) (hN : N ≤ 255) : IhC w0 Fe md Q e r (addN [] (stk ((i0 + 7) % 14))) N i0 := by
  have hpath := paths_at 60 20 (e % 60 + 20) paths_ok (by omega) (by omega)
  rw [hp] at hpath
  have h1 : 3620 < i0 * (3620 / i0 + 1) := Nat.lt_mul_div_succ 3620 (show 0 < i0 by omega)
  rw [path] at hpath
  have hb : Nat.blt i0 22 = true := by rw [Nat.blt_eq]; exact h21
  rw [hb, cond_true] at hpath
  intro N' i' X hN' hi6 hgt hle hX hX2 hb2
  have hl : (addN [] (stk ((i0 + 7) % 14))).length ≤ 15 := by
    have : i0 = 20 ∨ i0 = 21 := by omega
    rcases this with rfl | rfl <;> decide
  have hmod : (i0 + i0) % (e % 60 + 20) = 0 := by rw [hp, Nat.add_mod_right]; exact Nat.mod_self _
  refine loopA hL hQ hf he hr N' true i' _ X (i0 + i0) (3620 / i0) hi6 (by omega) (by omega) hmod (by omega) (by rw [hp]; exact hpath) ?_ hX (by omega) hb2 (by omega) hl
  rw [hp]
  rw [Nat.mul_add] at h1
  rw [Nat.mul_comm (3620 / i0) i0]
  omega
end

/-- **FROM THE PARSED PROGRAM TO THE END.** -/
theorem goP {w0 : World} {Fe : Fence} (hL : Fen true Fe) {md : Nat} {Q : Exit → Act → World → Prop} (hf : ∀ a' w', Fin3 w0 a' w' → Q .ret a' w') {e r : Nat} (he : e < 256) (hr : r ≤ 255) {a : Act} {w : World} (s : AtP w0 (if r = 0 then 0 else 1) (if r = 0 then 0 else 255) e r a w) :
    restC.wpIn Fe md Tryz.prog Q a w := by
  obtain ⟨θ, hv, s⟩ := s
  have hQ : ∀ a' w', (cAt pR).wpIn Fe md Tryz.prog Q a' w' → (Exit.inBlock 0 (Exit.then ((cAt pR).wpIn Fe md Tryz.prog Q) Q)) (.exit 0) a' w' := fun a' w' h => by
    simp only [Exit.inBlock, if_true]
    exact h
  have h4 : θ.val 4 = some (.int .u8 e) := by rw [hv]; rfl
  by_cases h0 : r = 0
  · rw [if_pos h0, if_pos h0] at s
    obtain ⟨env1, H1, n1, g1, t1⟩ := toLoop_ok strt3
    obtain ⟨env2, H2, n2, g2, t2⟩ := runI_ok (w0 := w0) he 15 1 (fun t ht => by rw [Nat.mod_eq_of_lt (by omega)]; omega) (by omega) g1
    refine t1 w0 Fe md Q θ a w hL s fun a1 w1 θ1 q1 s1 => ⟨1 + 15, ?_⟩
    refine t2 Fe md _ 1 θ1 a1 w1 hL s1 (q1.2 _ _ h4) fun a2 w2 θ2 q2 s2 => ?_
    exact endD_ok (ex := fun _ => none) (fun b x e => by cases e) (fun b x e => by cases e) g2 hL s2 hQ hf
  · rw [if_neg h0, if_neg h0] at s
    rcases Nat.lt_or_ge (e % 60 + 20) 22 with hp | hp
    · rcases Nat.lt_or_ge (e % 60 + 20) 21 with hp1 | hp1
      · have hp : e % 60 + 20 = 20 := by omega
        obtain ⟨env1, H1, n1, g1, t1⟩ := toLoop_ok strt4
        obtain ⟨env2, H2, n2, g2, t2⟩ := runI_ok (w0 := w0) he 19 1 (fun t ht => by rw [Nat.mod_eq_of_lt (by omega)]; omega) (by omega) g1
        obtain ⟨env3, H3, n3, g3, _, t3⟩ := bodyK_ok (w0 := w0) (ex := fun _ => none) (i := 20) (by omega) he (by simp [hp]) (fun b x e => by cases e) (fun b x e => by cases e) g2
        obtain ⟨j, hj⟩ := fromC (j := 12) (X := 0) (N := r) (i0 := 20) (κ := addN [] (stk 13)) hL hQ hf he hr (by omega) (by decide) (by rw [hp]) (show 1 ≤ r by omega) hr (show 20 + 1 + 14 * r ≤ 3600 + 13 by omega) (by decide) (ih0 hL hQ hf he hr hp (by omega) (by omega) hr)
        refine t1 w0 Fe md Q θ a w hL s fun a1 w1 θ1 q1 s1 => ⟨j + 1 + 19, ?_⟩
        refine t2 Fe md _ (j + 1) θ1 a1 w1 hL s1 (q1.2 _ _ h4) fun a2 w2 θ2 q2 s2 => ?_
        show bodyC.wpIn Fe md Tryz.prog (Exit.then (Chain Fe md Tryz.prog bodyC _ j) _) a2 w2
        refine t3 Fe md θ2 a2 w2 _ hL s2 rfl (q2.2 _ _ (q1.2 _ _ h4)) fun a3 w3 θ3 q3 s3 => hj a3 w3 ?_
        exact to_at (i := 21) s3 hv (Theta.le_trans q1 (Theta.le_trans q2 q3)) hr (.inr ⟨rfl, rfl⟩) (by omega) (by omega) hr (by omega) (idsC (by decide) _ _) (by decide) g3
      · have hp : e % 60 + 20 = 21 := by omega
        obtain ⟨env1, H1, n1, g1, t1⟩ := toLoop_ok strt5
        obtain ⟨env2, H2, n2, g2, t2⟩ := runI_ok (w0 := w0) he 20 1 (fun t ht => by rw [Nat.mod_eq_of_lt (by omega)]; omega) (by omega) g1
        obtain ⟨env3, H3, n3, g3, _, t3⟩ := bodyK_ok (w0 := w0) (ex := fun _ => none) (i := 21) (by omega) he (by simp [hp]) (fun b x e => by cases e) (fun b x e => by cases e) g2
        obtain ⟨j, hj⟩ := fromC (j := 13) (X := 0) (N := r - 1) (i0 := 21) (κ := addN [] (stk 0)) hL hQ hf he hr (by omega) (by decide) (by rw [hp]) (show 0 ≤ r - 1 by omega) (by omega) (show 21 + 1 + 14 * (r - 1) ≤ 3600 + 0 by omega) (by decide) (ih0 hL hQ hf he hr hp (by omega) (by omega) (by omega))
        refine t1 w0 Fe md Q θ a w hL s fun a1 w1 θ1 q1 s1 => ⟨j + 1 + 20, ?_⟩
        refine t2 Fe md _ (j + 1) θ1 a1 w1 hL s1 (q1.2 _ _ h4) fun a2 w2 θ2 q2 s2 => ?_
        show bodyC.wpIn Fe md Tryz.prog (Exit.then (Chain Fe md Tryz.prog bodyC _ j) _) a2 w2
        refine t3 Fe md θ2 a2 w2 _ hL s2 rfl (q2.2 _ _ (q1.2 _ _ h4)) fun a3 w3 θ3 q3 s3 => hj a3 w3 ?_
        exact to_at (i := 22) s3 hv (Theta.le_trans q1 (Theta.le_trans q2 q3)) hr (.inr ⟨rfl, rfl⟩) (by omega) (by omega) (by omega) (by omega) (idsC (by decide) _ _) (by decide) g3
    · obtain ⟨env1, H1, n1, g1, t1⟩ := toLoop_ok strt2
      obtain ⟨env2, H2, n2, g2, t2⟩ := runI_ok (w0 := w0) he 21 1 (fun t ht => by rw [Nat.mod_eq_of_lt (by omega)]; omega) (by omega) g1
      obtain ⟨j, hj⟩ := goA hL hQ hf he hr (by omega) hp
      refine t1 w0 Fe md Q θ a w hL s fun a1 w1 θ1 q1 s1 => ⟨j + 21, ?_⟩
      refine t2 Fe md _ j θ1 a1 w1 hL s1 (q1.2 _ _ h4) fun a2 w2 θ2 q2 s2 => hj a2 w2 ?_
      exact to_at (i := 22) s2 hv (Theta.le_trans q1 q2) hr (.inl ⟨rfl, by omega, by omega⟩) (by omega) (by omega) (by omega) (by omega) (idsA _ _ _) (by decide) g2
end Ev
namespace Ev
open Go Go.Proofs Go.RowKit Go.ChangeShapes

/-- The deferred calls are taken, one by one: what was there at the start is not touched. -/
theorem leaves_since {P : Program} {m : Nat} {fn : Func} {tmps : Array Value} {R : Ending → World → Prop} {w0 : World} :
    ∀ (ds : List Deferred) (w : World), Since w0 w → (∀ d ∈ ds, DefOK P d) → (ds.filterMap markOf).Nodup → (∀ r ∈ ds.filterMap markOf, w0.heap.size ≤ r ∧ w.heap[r]? = some (.deferred (some []))) →
      (∀ w', Since w0 w' → ∃ v, (results fn tmps).run P w' = .ok v w' ∧ R (.returned v) w') → LeavesInM Fence.wide m P fn tmps R ds .returning w
  | [], w, hw, _, _, _, hR => by
    simp only [LeavesInM, LeavesIn]
    exact hR w hw
  | d :: ds, w, hw, hok, hnd, hrs, hR => by
    rcases hok d (by simp) with ⟨r, rfl⟩ | ⟨f, cap, args, rfl, hcalm⟩
    · have hfm : (({ target := .collected r, args := #[] } : Deferred) :: ds).filterMap markOf = r :: ds.filterMap markOf := rfl
      rw [hfm] at hnd hrs
      obtain ⟨h1, h2⟩ := hrs r (by simp)
      have hnd' := List.nodup_cons.1 hnd
      have htake : (Instr.takeDeferred r).run P w = .ok [] { w with heap := w.heap.setIfInBounds r (.deferred none) } := by
        simp only [Instr.takeDeferred, Sem.run_bind, run_getObj_of h2 (by simp), Result.andThen_ok]
        simp [setObj, Sem.run, h2]
      have hother : ∀ k, k ≠ r → (w.heap.setIfInBounds r (.deferred none))[k]? = w.heap[k]? := fun k hk => by simp [Ne.symm hk]
      refine ⟨by simp, .inl ⟨r, _, rfl, htake, ?_⟩⟩
      refine leaves_since ds _ ⟨hw.os, hw.tape, hw.output, Nat.le_trans hw.size (by simp), fun k hk => ?_⟩ (fun d hd => hok d (by simp [hd])) hnd'.2 (fun r' hr' => ?_) hR
      · rw [← hw.block k hk]
        exact hother k (by omega)
      · obtain ⟨g1, g2⟩ := hrs r' (List.mem_cons_of_mem _ hr')
        have hne : r' ≠ r := fun e => hnd'.1 (e ▸ hr')
        exact ⟨g1, (hother r' hne).trans g2⟩
    · have hfm : (({ target := .fn (.func f) cap, args := args } : Deferred) :: ds).filterMap markOf = ds.filterMap markOf := rfl
      rw [hfm] at hnd hrs
      refine ⟨by simp, .inr ⟨(fun hd => by cases hd), .func f, cap, f, args ++ cap, rfl, by simpa [invoke] using hcalm.call (args ++ cap) w, fun _ _ => trivial, (hcalm.run (m - 1) (args ++ cap) w).mono ?_⟩⟩
      rintro e u' w' ⟨⟨v, rfl⟩, rfl, rfl⟩
      exact leaves_since ds _ hw (fun d hd => hok d (by simp [hd])) hnd hrs hR

theorem res3 : Tryz.f3.results = #[.tmp 4] := by kernel_rfl
theorem ntm3 : Tryz.f3.ntmps = 109 := by kernel_rfl
theorem body3 : Tryz.f3.body = some root3 := by kernel_rfl

def θs (e : Nat) : Theta := { blk := fun i => if i < 8 then some ⟨i, 0, 0⟩ else none, val := fun s => if s = 4 then some (.int .u8 e) else none }

theorem sgR_link {θ : Theta} {e r lo hi : Nat} (h4 : θ.val 4 = some (.int .u8 e)) (hlo : lo ≤ r) (hhi : r ≤ hi) : LinkS (sgR r lo hi) θ ⟨fun _ => none, vals 0 0 0 e r⟩ := by
  intro s g hg
  match s, hg with
  | 0, hg | 1, hg | 2, hg | 3, hg =>
    simp only [sgR, List.getElem?_cons_succ, List.getElem?_cons_zero, Option.some.injEq] at hg
    subst hg
    exact num_of (z := 0) rfl (Nat.le_refl 0) (Nat.le_refl 0)
  | 4, hg =>
    simp only [sgR, List.getElem?_cons_succ, List.getElem?_cons_zero, Option.some.injEq] at hg
    subst hg
    intro v h
    rw [h4] at h
    exact h
  | 5, hg =>
    simp only [sgR, List.getElem?_cons_succ, List.getElem?_cons_zero, Option.some.injEq] at hg
    subst hg
    exact num_of rfl hlo hhi
  | s + 6, hg => simp [sgR] at hg

theorem idsP (lo hi : Nat) : ∀ p ∈ stP lo hi, 8 ≤ p.1 ∧ p.1 < 200 := idsB_ok (l := stP lo hi) (by kernel_rfl)

theorem start_head {W : World} {r e : Nat} (rel : HRel Tryz.prog (θs e) (hfn H1) W.heap.size W) (m : Nat) (hm : 107 ≤ m) : Head Tryz.prog W (hfn H1) 8 (envR r) (θs e) { tmps := #[Value.int .u8 (r : Int), Value.int .u8 (e : Int)] ++ Array.replicate m undef, defers := [] } W := by
  refine ⟨rel, fun b hb => ?_, fun g hg => ⟨0, ?_⟩, ?_, ?_, MarksOK.nil _ _ _ _, Since.refl W⟩
  · show (if b < 8 then _ else none) = none
    rw [if_neg (by omega)]
  · have hg : g < 8 := Nat.lt_of_lt_of_le hg glob8
    show (if g < 8 then _ else none) = _
    rw [if_pos hg]
  · intro t
    show VR (θs e) _ ((#[Value.int .u8 (r : Int), Value.int .u8 (e : Int)] ++ Array.replicate m undef).getD t undef)
    match t with
    | 0 => exact .inr (by simp [envR, conc, Array.getElem?_append])
    | 1 => exact .inr (by simp [envR, conc, θs, opqOk, Value.oneCell', Array.getElem?_append])
    | t + 2 =>
      refine .inl ?_
      show (List.replicate 107 AV.bad).getD t .bad = .bad
      simp only [List.getD_eq_getElem?_getD, List.getElem?_replicate]
      split <;> rfl
  · simp [envR]
    omega

/-- **THE WALK**, from memory that holds what the package's variables hold. -/
theorem law3 {W : World} {r e : Nat} (he : e < 256) (hr : r ≤ 255) (hpar : parseR r (if r = 0 then 0 else 1) (if r = 0 then 0 else 255) = true) (rel : HRel Tryz.prog (θs e) (hfn H1) W.heap.size W) (md : Nat) :
    CallsIn Fence.wide md Tryz.prog 3 #[.int .u8 r, .int .u8 e] W fun x W' => x = .returned (.bool true) ∧ Below W.heap.size W W' := by
  refine callsIn_of_wp_marks Tryz.func3 body3 trivial ?_
  rw [root_eq]
  have hL : Fen true Fence.wide := ⟨looseR_wide, fun _ => rfl⟩
  have s := start_head (W := W) (r := r) rel (Tryz.f3.ntmps - #[Value.int .u8 (r : Int), Value.int .u8 (e : Int)].size) (by rw [ntm3]; show 107 ≤ 109 - 2; omega)
  unfold parseR at hpar
  obtain ⟨env1, H1', n1, g1, t1⟩ := evo_ok k0 hpar
  obtain ⟨env2, H2, n2, g2, t2⟩ := evo_ok k1 g1
  refine wpIn_seq (s.go t1 hL fun a1 w1 θ1 q1 s1 => ?_)
  refine wpIn_seq (s1.go t2 hL fun a2 w2 θ2 q2 s2 => ?_)
  have h4 : θ2.val 4 = some (.int .u8 e) := (Theta.le_trans q1 q2).2 _ _ rfl
  refine goP (w0 := W) (e := e) (r := r) hL ?_ he hr ?_
  · rintro a' w' ⟨f, n, env, θ, hH, h4⟩
    obtain ⟨rs, ⟨hds, hok⟩, hnd, hrs⟩ := hH.defs
    show LeavesInM Fence.wide md Tryz.prog Tryz.f3 a'.tmps _ a'.defers .returning w'
    refine leaves_since a'.defers w' hH.since hok (by rw [hds]; exact hnd) (fun r hr => ?_) fun w2 hw2 => ⟨.bool true, ?_, rfl, hw2.os, hw2.tape, hw2.output, hw2.size, hw2.block⟩
    · rw [hds] at hr
      obtain ⟨r1, r2, _⟩ := hrs r hr
      exact ⟨r1, r2⟩
    · have := results_of (P := Tryz.prog) (fn := Tryz.f3) (tmps := a'.tmps) (w := w2) (vs := [.bool true]) (by rw [res3]; simp [oneRes, h4])
      simpa using this
  · rw [← over0] at s2
    have hlo : (if r = 0 then 0 else 1) ≤ r := by split <;> omega
    have hhi : r ≤ (if r = 0 then 0 else 255) := by split <;> omega
    obtain ⟨θT, e1, s'⟩ := s2.rebase glob8 (fx := false) (gl := [0, 2]) (E := H0) (ps := stP (if r = 0 then 0 else 1) (if r = 0 then 0 else 255)) (envT := envP) (fun p hp => ⟨(idsP _ _ p hp).1, by have := (idsP _ _ p hp).2; omega, fun h => by cases h⟩) (fun x hx => H0_dead hx)
      (sgR_link h4 hlo hhi) g2 (fun _ b => rfl) (fun b x e => by cases e)
    exact ⟨θT, e1, s'⟩
end Ev
