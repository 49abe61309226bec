/- A part of the proof that GcRoom returns true: text ColZ2. -/
import Derived.Test.YtfhilpdbmfbbdaaGreatDoorLpA
namespace Ev
open Go Go.Proofs
theorem colz_13 : lastZ true 6 [12, 1, 2, 13, 8, 5, 4, 7] = true := by kernel_rfl
theorem colz_14 : lastZ true 6 [12, 2, 8, 7, 1, 13, 5, 4] = true := by kernel_rfl
theorem colz_15 : lastZ true 6 [13, 8, 7, 12, 2, 5, 4, 1] = true := by kernel_rfl
theorem colz_16 : lastZ true 6 [8, 5, 4, 13, 12, 1, 7, 2, 10] = true := by kernel_rfl
theorem colz_17 : lastZ true 6 [8, 7, 5, 4, 13, 12, 2, 1, 10] = true := by kernel_rfl
theorem colz_18 : lastZ true 6 [8, 12, 1, 5, 4, 2, 7, 13, 10] = true := by kernel_rfl
theorem colz_19 : lastZ true 6 [12, 1, 2, 13, 8, 5, 4, 7, 10] = true := by kernel_rfl
theorem colz_20 : lastZ true 6 [12, 2, 8, 7, 1, 13, 5, 4, 10] = true := by kernel_rfl
theorem colz_21 : lastZ true 6 [13, 8, 7, 12, 2, 5, 4, 1, 10] = true := by kernel_rfl
theorem colz_22 : lastZ true 5 [8, 6, 12, 3, 1, 9, 5, 4, 14, 2] = true := by kernel_rfl
theorem colz_23 : lastZ true 7 [12, 1, 0, 13, 8, 5, 7, 2, 14, 4] = true := by kernel_rfl
theorem colz_24 : lastZ true 5 [8, 5, 12, 2, 9, 1, 0, 7, 14, 6, 13] = true := by kernel_rfl
theorem colz_25 : lastZ true 7 [12, 3, 8, 5, 4, 13, 6, 1, 14, 7, 0] = true := by kernel_rfl
end Ev
