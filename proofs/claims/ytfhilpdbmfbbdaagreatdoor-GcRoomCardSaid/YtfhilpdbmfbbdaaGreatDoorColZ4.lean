/- A part of the proof that GcRoom returns true: text ColZ4. -/
import Derived.Test.YtfhilpdbmfbbdaaGreatDoorLpA
namespace Ev
open Go Go.Proofs
theorem colz_39 : lastZ true 5 [12, 3, 8, 5, 4, 13, 6, 1, 14, 7, 0, 9, 2, 10] = true := by kernel_rfl
theorem colz_40 : lastZ true 6 [8, 5, 12, 2, 9, 1, 0, 7, 14, 6, 13, 4, 3, 10] = true := by kernel_rfl
theorem colz_41 : lastZ true 6 [8, 6, 12, 3, 1, 9, 5, 4, 14, 2, 7, 13, 0, 10] = true := by kernel_rfl
theorem colz_42 : lastZ true 6 [9, 8, 7, 6, 5, 4, 14, 13, 12, 3, 2, 1, 0, 10] = true := by kernel_rfl
theorem colz_43 : lastZ true 6 [12, 1, 0, 2, 3, 13, 14, 8, 5, 4, 6, 7, 9, 10] = true := by kernel_rfl
theorem colz_44 : lastZ true 6 [12, 1, 0, 13, 8, 5, 7, 2, 14, 4, 9, 3, 6, 10] = true := by kernel_rfl
theorem colz_45 : lastZ true 6 [12, 3, 8, 5, 4, 13, 6, 1, 14, 7, 0, 9, 2, 10] = true := by kernel_rfl
theorem colz_46 : lastZ true 7 [8, 5, 12, 2, 9, 1, 0, 7, 14, 6, 13, 4, 3, 10] = true := by kernel_rfl
theorem colz_47 : lastZ true 7 [8, 6, 12, 3, 1, 9, 5, 4, 14, 2, 7, 13, 0, 10] = true := by kernel_rfl
theorem colz_48 : lastZ true 7 [9, 8, 7, 6, 5, 4, 14, 13, 12, 3, 2, 1, 0, 10] = true := by kernel_rfl
theorem colz_49 : lastZ true 7 [12, 1, 0, 2, 3, 13, 14, 8, 5, 4, 6, 7, 9, 10] = true := by kernel_rfl
theorem colz_50 : lastZ true 7 [12, 1, 0, 13, 8, 5, 7, 2, 14, 4, 9, 3, 6, 10] = true := by kernel_rfl
theorem colz_51 : lastZ true 7 [12, 3, 8, 5, 4, 13, 6, 1, 14, 7, 0, 9, 2, 10] = true := by kernel_rfl
end Ev
