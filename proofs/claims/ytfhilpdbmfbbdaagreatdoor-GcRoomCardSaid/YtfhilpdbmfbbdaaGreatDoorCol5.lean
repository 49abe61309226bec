/- A part of the proof that GcRoom returns true: text Col5. -/
import Derived.Test.YtfhilpdbmfbbdaaGreatDoorLpA
namespace Ev
open Go Go.Proofs
theorem col5_0 : colOK true 6 [12, 3, 8, 5, 4, 13, 6, 1, 14, 7, 0, 9, 2] = true := by kernel_rfl
theorem col5_1 : colOK true 11 [12, 3, 8, 5, 4, 13, 6, 1, 14, 7, 0, 9, 2] = true := by kernel_rfl
theorem col5_2 : colOK true 0 [8, 5, 12, 2, 9, 1, 0, 7, 14, 6, 13, 4, 3, 10] = true := by kernel_rfl
theorem col5_3 : colOK true 0 [8, 6, 12, 3, 1, 9, 5, 4, 14, 2, 7, 13, 0, 10] = true := by kernel_rfl
theorem col5_4 : colOK true 0 [9, 8, 7, 6, 5, 4, 14, 13, 12, 3, 2, 1, 0, 10] = true := by kernel_rfl
theorem col5_5 : colOK true 0 [12, 1, 0, 2, 3, 13, 14, 8, 5, 4, 6, 7, 9, 10] = true := by kernel_rfl
theorem col5_6 : colOK true 0 [12, 1, 0, 13, 8, 5, 7, 2, 14, 4, 9, 3, 6, 10] = true := by kernel_rfl
theorem col5_7 : colOK true 0 [12, 3, 8, 5, 4, 13, 6, 1, 14, 7, 0, 9, 2, 10] = true := by kernel_rfl
theorem col5_8 : colOK true 1 [8, 5, 12, 2, 9, 1, 0, 7, 14, 6, 13, 4, 3, 10] = true := by kernel_rfl
theorem col5_9 : colOK true 1 [8, 6, 12, 3, 1, 9, 5, 4, 14, 2, 7, 13, 0, 10] = true := by kernel_rfl
theorem col5_10 : colOK true 1 [9, 8, 7, 6, 5, 4, 14, 13, 12, 3, 2, 1, 0, 10] = true := by kernel_rfl
theorem col5_11 : colOK true 1 [12, 1, 0, 2, 3, 13, 14, 8, 5, 4, 6, 7, 9, 10] = true := by kernel_rfl
theorem col5_12 : colOK true 1 [12, 1, 0, 13, 8, 5, 7, 2, 14, 4, 9, 3, 6, 10] = true := by kernel_rfl
theorem col5_13 : colOK true 1 [12, 3, 8, 5, 4, 13, 6, 1, 14, 7, 0, 9, 2, 10] = true := by kernel_rfl
theorem col5_14 : colOK true 2 [8, 5, 12, 2, 9, 1, 0, 7, 14, 6, 13, 4, 3, 10] = true := by kernel_rfl
theorem col5_15 : colOK true 2 [8, 6, 12, 3, 1, 9, 5, 4, 14, 2, 7, 13, 0, 10] = true := by kernel_rfl
theorem col5_16 : colOK true 2 [9, 8, 7, 6, 5, 4, 14, 13, 12, 3, 2, 1, 0, 10] = true := by kernel_rfl
theorem col5_17 : colOK true 2 [12, 1, 0, 2, 3, 13, 14, 8, 5, 4, 6, 7, 9, 10] = true := by kernel_rfl
theorem col5_18 : colOK true 2 [12, 1, 0, 13, 8, 5, 7, 2, 14, 4, 9, 3, 6, 10] = true := by kernel_rfl
theorem col5_19 : colOK true 2 [12, 3, 8, 5, 4, 13, 6, 1, 14, 7, 0, 9, 2, 10] = true := by kernel_rfl
theorem col5_20 : colOK true 3 [8, 5, 12, 2, 9, 1, 0, 7, 14, 6, 13, 4, 3, 10] = true := by kernel_rfl
theorem col5_21 : colOK true 3 [8, 6, 12, 3, 1, 9, 5, 4, 14, 2, 7, 13, 0, 10] = true := by kernel_rfl
theorem col5_22 : colOK true 3 [9, 8, 7, 6, 5, 4, 14, 13, 12, 3, 2, 1, 0, 10] = true := by kernel_rfl
theorem col5_23 : colOK true 3 [12, 1, 0, 2, 3, 13, 14, 8, 5, 4, 6, 7, 9, 10] = true := by kernel_rfl
theorem col5_24 : colOK true 3 [12, 1, 0, 13, 8, 5, 7, 2, 14, 4, 9, 3, 6, 10] = true := by kernel_rfl
theorem col5_25 : colOK true 3 [12, 3, 8, 5, 4, 13, 6, 1, 14, 7, 0, 9, 2, 10] = true := by kernel_rfl
theorem col5_26 : colOK true 4 [8, 5, 12, 2, 9, 1, 0, 7, 14, 6, 13, 4, 3, 10] = true := by kernel_rfl
theorem col5_27 : colOK true 4 [8, 6, 12, 3, 1, 9, 5, 4, 14, 2, 7, 13, 0, 10] = true := by kernel_rfl
theorem col5_28 : colOK true 4 [9, 8, 7, 6, 5, 4, 14, 13, 12, 3, 2, 1, 0, 10] = true := by kernel_rfl
theorem col5_29 : colOK true 4 [12, 1, 0, 2, 3, 13, 14, 8, 5, 4, 6, 7, 9, 10] = true := by kernel_rfl
theorem col5_30 : colOK true 4 [12, 1, 0, 13, 8, 5, 7, 2, 14, 4, 9, 3, 6, 10] = true := by kernel_rfl
theorem col5_31 : colOK true 4 [12, 3, 8, 5, 4, 13, 6, 1, 14, 7, 0, 9, 2, 10] = true := by kernel_rfl
theorem col5_32 : colOK true 5 [8, 5, 12, 2, 9, 1, 0, 7, 14, 6, 13, 4, 3, 10] = true := by kernel_rfl
theorem col5_33 : colOK true 5 [8, 6, 12, 3, 1, 9, 5, 4, 14, 2, 7, 13, 0, 10] = true := by kernel_rfl
theorem col5_34 : colOK true 5 [9, 8, 7, 6, 5, 4, 14, 13, 12, 3, 2, 1, 0, 10] = true := by kernel_rfl
theorem col5_35 : colOK true 5 [12, 1, 0, 2, 3, 13, 14, 8, 5, 4, 6, 7, 9, 10] = true := by kernel_rfl
theorem col5_36 : colOK true 5 [12, 1, 0, 13, 8, 5, 7, 2, 14, 4, 9, 3, 6, 10] = true := by kernel_rfl
theorem col5_37 : colOK true 5 [12, 3, 8, 5, 4, 13, 6, 1, 14, 7, 0, 9, 2, 10] = true := by kernel_rfl
theorem col5_38 : colOK true 6 [8, 5, 12, 2, 9, 1, 0, 7, 14, 6, 13, 4, 3, 10] = true := by kernel_rfl
theorem col5_39 : colOK true 6 [8, 6, 12, 3, 1, 9, 5, 4, 14, 2, 7, 13, 0, 10] = true := by kernel_rfl
theorem col5_40 : colOK true 6 [9, 8, 7, 6, 5, 4, 14, 13, 12, 3, 2, 1, 0, 10] = true := by kernel_rfl
theorem col5_41 : colOK true 6 [12, 1, 0, 2, 3, 13, 14, 8, 5, 4, 6, 7, 9, 10] = true := by kernel_rfl
theorem col5_42 : colOK true 6 [12, 1, 0, 13, 8, 5, 7, 2, 14, 4, 9, 3, 6, 10] = true := by kernel_rfl
end Ev
