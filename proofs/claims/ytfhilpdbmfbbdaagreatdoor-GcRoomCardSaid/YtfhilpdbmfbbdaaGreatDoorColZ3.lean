/- A part of the proof that GcRoom returns true: text ColZ3. -/
import Derived.Test.YtfhilpdbmfbbdaaGreatDoorLpA
namespace Ev
open Go Go.Proofs
theorem colz_26 : lastZ true 7 [12, 1, 0, 2, 3, 13, 14, 8, 5, 4, 6, 7] = true := by kernel_rfl
theorem colz_27 : lastZ true 5 [9, 8, 7, 6, 5, 4, 14, 13, 12, 3, 2, 1, 0] = true := by kernel_rfl
theorem colz_28 : lastZ true 6 [8, 5, 12, 2, 9, 1, 0, 7, 14, 6, 13, 4, 3] = true := by kernel_rfl
theorem colz_29 : lastZ true 6 [8, 6, 12, 3, 1, 9, 5, 4, 14, 2, 7, 13, 0] = true := by kernel_rfl
theorem colz_30 : lastZ true 6 [9, 8, 7, 6, 5, 4, 14, 13, 12, 3, 2, 1, 0] = true := by kernel_rfl
theorem colz_31 : lastZ true 6 [12, 1, 0, 2, 3, 13, 14, 8, 5, 4, 6, 7, 9] = true := by kernel_rfl
theorem colz_32 : lastZ true 6 [12, 1, 0, 13, 8, 5, 7, 2, 14, 4, 9, 3, 6] = true := by kernel_rfl
theorem colz_33 : lastZ true 6 [12, 3, 8, 5, 4, 13, 6, 1, 14, 7, 0, 9, 2] = true := by kernel_rfl
theorem colz_34 : lastZ true 5 [8, 5, 12, 2, 9, 1, 0, 7, 14, 6, 13, 4, 3, 10] = true := by kernel_rfl
theorem colz_35 : lastZ true 5 [8, 6, 12, 3, 1, 9, 5, 4, 14, 2, 7, 13, 0, 10] = true := by kernel_rfl
theorem colz_36 : lastZ true 5 [9, 8, 7, 6, 5, 4, 14, 13, 12, 3, 2, 1, 0, 10] = true := by kernel_rfl
theorem colz_37 : lastZ true 5 [12, 1, 0, 2, 3, 13, 14, 8, 5, 4, 6, 7, 9, 10] = true := by kernel_rfl
theorem colz_38 : lastZ true 5 [12, 1, 0, 13, 8, 5, 7, 2, 14, 4, 9, 3, 6, 10] = true := by kernel_rfl
end Ev
