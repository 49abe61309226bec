/- A part of the proof that GcRoom returns true: text Col3. -/
import Derived.Test.YtfhilpdbmfbbdaaGreatDoorLpA
namespace Ev
open Go Go.Proofs
theorem col3_0 : colOK true 6 [12, 2, 8, 7, 1, 13, 5, 4] = true := by kernel_rfl
theorem col3_1 : colOK true 6 [13, 8, 7, 12, 2, 5, 4, 1] = true := by kernel_rfl
theorem col3_2 : colOK true 11 [12, 1, 0, 2, 3, 13, 14, 8] = true := by kernel_rfl
theorem col3_3 : colOK true 12 [13, 8, 7, 12, 2, 5, 4, 1] = true := by kernel_rfl
theorem col3_4 : colOK true 13 [8, 5, 12, 2, 9, 1, 0, 7] = true := by kernel_rfl
theorem col3_5 : colOK true 13 [8, 6, 12, 3, 1, 9, 5, 4] = true := by kernel_rfl
theorem col3_6 : colOK true 13 [12, 1, 0, 13, 8, 5, 7, 2] = true := by kernel_rfl
theorem col3_7 : colOK true 13 [12, 3, 8, 5, 4, 13, 6, 1] = true := by kernel_rfl
theorem col3_8 : colOK true 0 [8, 5, 4, 13, 12, 1, 7, 2, 10] = true := by kernel_rfl
theorem col3_9 : colOK true 0 [8, 7, 5, 4, 13, 12, 2, 1, 10] = true := by kernel_rfl
theorem col3_10 : colOK true 0 [8, 12, 1, 5, 4, 2, 7, 13, 10] = true := by kernel_rfl
theorem col3_11 : colOK true 0 [12, 1, 2, 13, 8, 5, 4, 7, 10] = true := by kernel_rfl
theorem col3_12 : colOK true 0 [12, 2, 8, 7, 1, 13, 5, 4, 10] = true := by kernel_rfl
theorem col3_13 : colOK true 0 [13, 8, 7, 12, 2, 5, 4, 1, 10] = true := by kernel_rfl
theorem col3_14 : colOK true 2 [8, 5, 4, 13, 12, 1, 7, 2, 10] = true := by kernel_rfl
theorem col3_15 : colOK true 2 [8, 6, 12, 3, 1, 9, 5, 4, 14] = true := by kernel_rfl
theorem col3_16 : colOK true 2 [8, 7, 5, 4, 13, 12, 2, 1, 10] = true := by kernel_rfl
theorem col3_17 : colOK true 2 [8, 12, 1, 5, 4, 2, 7, 13, 10] = true := by kernel_rfl
theorem col3_18 : colOK true 2 [12, 1, 2, 13, 8, 5, 4, 7, 10] = true := by kernel_rfl
theorem col3_19 : colOK true 2 [12, 2, 8, 7, 1, 13, 5, 4, 10] = true := by kernel_rfl
theorem col3_20 : colOK true 2 [13, 8, 7, 12, 2, 5, 4, 1, 10] = true := by kernel_rfl
theorem col3_21 : colOK true 4 [8, 5, 4, 13, 12, 1, 7, 2, 10] = true := by kernel_rfl
theorem col3_22 : colOK true 4 [8, 5, 12, 2, 9, 1, 0, 7, 14] = true := by kernel_rfl
theorem col3_23 : colOK true 4 [8, 7, 5, 4, 13, 12, 2, 1, 10] = true := by kernel_rfl
theorem col3_24 : colOK true 4 [8, 12, 1, 5, 4, 2, 7, 13, 10] = true := by kernel_rfl
theorem col3_25 : colOK true 4 [12, 1, 2, 13, 8, 5, 4, 7, 10] = true := by kernel_rfl
theorem col3_26 : colOK true 4 [12, 2, 8, 7, 1, 13, 5, 4, 10] = true := by kernel_rfl
theorem col3_27 : colOK true 4 [13, 8, 7, 12, 2, 5, 4, 1, 10] = true := by kernel_rfl
theorem col3_28 : colOK true 6 [8, 5, 4, 13, 12, 1, 7, 2, 10] = true := by kernel_rfl
theorem col3_29 : colOK true 6 [8, 7, 5, 4, 13, 12, 2, 1, 10] = true := by kernel_rfl
theorem col3_30 : colOK true 6 [8, 12, 1, 5, 4, 2, 7, 13, 10] = true := by kernel_rfl
theorem col3_31 : colOK true 6 [12, 1, 2, 13, 8, 5, 4, 7, 10] = true := by kernel_rfl
theorem col3_32 : colOK true 6 [12, 2, 8, 7, 1, 13, 5, 4, 10] = true := by kernel_rfl
theorem col3_33 : colOK true 6 [13, 8, 7, 12, 2, 5, 4, 1, 10] = true := by kernel_rfl
theorem col3_34 : colOK true 8 [8, 5, 4, 13, 12, 1, 7, 2, 10] = true := by kernel_rfl
theorem col3_35 : colOK true 8 [8, 7, 5, 4, 13, 12, 2, 1, 10] = true := by kernel_rfl
theorem col3_36 : colOK true 8 [8, 12, 1, 5, 4, 2, 7, 13, 10] = true := by kernel_rfl
theorem col3_37 : colOK true 8 [12, 1, 2, 13, 8, 5, 4, 7, 10] = true := by kernel_rfl
theorem col3_38 : colOK true 8 [12, 2, 8, 7, 1, 13, 5, 4, 10] = true := by kernel_rfl
theorem col3_39 : colOK true 8 [12, 3, 8, 5, 4, 13, 6, 1, 14] = true := by kernel_rfl
theorem col3_40 : colOK true 8 [13, 8, 7, 12, 2, 5, 4, 1, 10] = true := by kernel_rfl
theorem col3_41 : colOK true 9 [8, 5, 12, 2, 9, 1, 0, 7, 14] = true := by kernel_rfl
theorem col3_42 : colOK true 10 [8, 5, 4, 13, 12, 1, 7, 2, 10] = true := by kernel_rfl
end Ev
