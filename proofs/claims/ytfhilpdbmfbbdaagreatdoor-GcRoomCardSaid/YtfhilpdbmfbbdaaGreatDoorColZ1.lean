/- A part of the proof that GcRoom returns true: text ColZ1. -/
import Derived.Test.YtfhilpdbmfbbdaaGreatDoorLpA
namespace Ev
open Go Go.Proofs
theorem colz_0 : lastZ false 5 [] = true := by kernel_rfl
theorem colz_1 : lastZ false 6 [] = true := by kernel_rfl
theorem colz_2 : lastZ false 7 [] = true := by kernel_rfl
theorem colz_3 : lastZ true 6 [10] = true := by kernel_rfl
theorem colz_4 : lastZ true 6 [14] = true := by kernel_rfl
theorem colz_5 : lastZ true 6 [14, 10] = true := by kernel_rfl
theorem colz_6 : lastZ true 7 [8, 5, 12, 2] = true := by kernel_rfl
theorem colz_7 : lastZ true 5 [12, 3, 8, 5, 4] = true := by kernel_rfl
theorem colz_8 : lastZ true 7 [8, 6, 12, 3, 1] = true := by kernel_rfl
theorem colz_9 : lastZ true 5 [12, 1, 0, 13, 8, 5, 7] = true := by kernel_rfl
theorem colz_10 : lastZ true 6 [8, 5, 4, 13, 12, 1, 7, 2] = true := by kernel_rfl
theorem colz_11 : lastZ true 6 [8, 7, 5, 4, 13, 12, 2, 1] = true := by kernel_rfl
theorem colz_12 : lastZ true 6 [8, 12, 1, 5, 4, 2, 7, 13] = true := by kernel_rfl
end Ev
