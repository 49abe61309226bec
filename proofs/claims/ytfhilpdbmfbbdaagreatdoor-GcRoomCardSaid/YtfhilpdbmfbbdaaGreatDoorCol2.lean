/- A part of the proof that GcRoom returns true: text Col2. -/
import Derived.Test.YtfhilpdbmfbbdaaGreatDoorLpA
namespace Ev
open Go Go.Proofs
theorem col2_0 : colOK true 7 [8, 5, 12, 2] = true := by kernel_rfl
theorem col2_1 : colOK true 10 [9, 8, 7, 6] = true := by kernel_rfl
theorem col2_2 : colOK true 11 [12, 1, 0, 13] = true := by kernel_rfl
theorem col2_3 : colOK true 12 [8, 7, 5, 4] = true := by kernel_rfl
theorem col2_4 : colOK true 12 [12, 1, 2, 13] = true := by kernel_rfl
theorem col2_5 : colOK true 0 [12, 1, 0, 2, 3] = true := by kernel_rfl
theorem col2_6 : colOK true 0 [12, 2, 8, 7, 1] = true := by kernel_rfl
theorem col2_7 : colOK true 0 [12, 3, 8, 5, 4] = true := by kernel_rfl
theorem col2_8 : colOK true 2 [8, 7, 5, 4, 13] = true := by kernel_rfl
theorem col2_9 : colOK true 2 [8, 12, 1, 5, 4] = true := by kernel_rfl
theorem col2_10 : colOK true 3 [8, 5, 12, 2, 9] = true := by kernel_rfl
theorem col2_11 : colOK true 5 [12, 3, 8, 5, 4] = true := by kernel_rfl
theorem col2_12 : colOK true 7 [8, 6, 12, 3, 1] = true := by kernel_rfl
theorem col2_13 : colOK true 10 [12, 1, 2, 13, 8] = true := by kernel_rfl
theorem col2_14 : colOK true 10 [13, 8, 7, 12, 2] = true := by kernel_rfl
theorem col2_15 : colOK true 12 [8, 5, 12, 2, 9] = true := by kernel_rfl
theorem col2_16 : colOK true 8 [8, 5, 4, 13, 12, 1] = true := by kernel_rfl
theorem col2_17 : colOK true 8 [8, 12, 1, 5, 4, 2] = true := by kernel_rfl
theorem col2_18 : colOK true 8 [12, 1, 0, 13, 8, 5] = true := by kernel_rfl
theorem col2_19 : colOK true 9 [12, 3, 8, 5, 4, 13] = true := by kernel_rfl
theorem col2_20 : colOK true 10 [8, 6, 12, 3, 1, 9] = true := by kernel_rfl
theorem col2_21 : colOK true 10 [12, 2, 8, 7, 1, 13] = true := by kernel_rfl
theorem col2_22 : colOK true 11 [9, 8, 7, 6, 5, 4] = true := by kernel_rfl
theorem col2_23 : colOK true 12 [9, 8, 7, 6, 5, 4] = true := by kernel_rfl
theorem col2_24 : colOK true 13 [9, 8, 7, 6, 5, 4] = true := by kernel_rfl
theorem col2_25 : colOK true 13 [12, 1, 0, 2, 3, 13] = true := by kernel_rfl
theorem col2_26 : colOK true 0 [8, 12, 1, 5, 4, 2, 7] = true := by kernel_rfl
theorem col2_27 : colOK true 0 [9, 8, 7, 6, 5, 4, 14] = true := by kernel_rfl
theorem col2_28 : colOK true 2 [8, 5, 4, 13, 12, 1, 7] = true := by kernel_rfl
theorem col2_29 : colOK true 2 [12, 1, 0, 13, 8, 5, 7] = true := by kernel_rfl
theorem col2_30 : colOK true 4 [8, 7, 5, 4, 13, 12, 2] = true := by kernel_rfl
theorem col2_31 : colOK true 4 [12, 3, 8, 5, 4, 13, 6] = true := by kernel_rfl
theorem col2_32 : colOK true 4 [13, 8, 7, 12, 2, 5, 4] = true := by kernel_rfl
theorem col2_33 : colOK true 5 [12, 1, 0, 13, 8, 5, 7] = true := by kernel_rfl
theorem col2_34 : colOK true 8 [8, 5, 12, 2, 9, 1, 0] = true := by kernel_rfl
theorem col2_35 : colOK true 8 [12, 1, 2, 13, 8, 5, 4] = true := by kernel_rfl
theorem col2_36 : colOK true 12 [8, 5, 4, 13, 12, 1, 7] = true := by kernel_rfl
theorem col2_37 : colOK true 12 [12, 1, 0, 2, 3, 13, 14] = true := by kernel_rfl
theorem col2_38 : colOK true 1 [9, 8, 7, 6, 5, 4, 14, 13] = true := by kernel_rfl
theorem col2_39 : colOK true 6 [8, 5, 4, 13, 12, 1, 7, 2] = true := by kernel_rfl
theorem col2_40 : colOK true 6 [8, 7, 5, 4, 13, 12, 2, 1] = true := by kernel_rfl
theorem col2_41 : colOK true 6 [8, 12, 1, 5, 4, 2, 7, 13] = true := by kernel_rfl
theorem col2_42 : colOK true 6 [12, 1, 2, 13, 8, 5, 4, 7] = true := by kernel_rfl
end Ev
