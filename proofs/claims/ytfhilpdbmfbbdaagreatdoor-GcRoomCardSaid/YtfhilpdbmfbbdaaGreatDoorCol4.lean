/- A part of the proof that GcRoom returns true: text Col4. -/
import Derived.Test.YtfhilpdbmfbbdaaGreatDoorLpA
namespace Ev
open Go Go.Proofs
theorem col4_0 : colOK true 10 [8, 7, 5, 4, 13, 12, 2, 1, 10] = true := by kernel_rfl
theorem col4_1 : colOK true 10 [8, 12, 1, 5, 4, 2, 7, 13, 10] = true := by kernel_rfl
theorem col4_2 : colOK true 10 [12, 1, 0, 2, 3, 13, 14, 8, 5] = true := by kernel_rfl
theorem col4_3 : colOK true 10 [12, 1, 0, 13, 8, 5, 7, 2, 14] = true := by kernel_rfl
theorem col4_4 : colOK true 10 [12, 1, 2, 13, 8, 5, 4, 7, 10] = true := by kernel_rfl
theorem col4_5 : colOK true 10 [12, 2, 8, 7, 1, 13, 5, 4, 10] = true := by kernel_rfl
theorem col4_6 : colOK true 10 [13, 8, 7, 12, 2, 5, 4, 1, 10] = true := by kernel_rfl
theorem col4_7 : colOK true 12 [8, 5, 4, 13, 12, 1, 7, 2, 10] = true := by kernel_rfl
theorem col4_8 : colOK true 12 [8, 7, 5, 4, 13, 12, 2, 1, 10] = true := by kernel_rfl
theorem col4_9 : colOK true 12 [8, 12, 1, 5, 4, 2, 7, 13, 10] = true := by kernel_rfl
theorem col4_10 : colOK true 12 [12, 1, 2, 13, 8, 5, 4, 7, 10] = true := by kernel_rfl
theorem col4_11 : colOK true 12 [12, 2, 8, 7, 1, 13, 5, 4, 10] = true := by kernel_rfl
theorem col4_12 : colOK true 12 [13, 8, 7, 12, 2, 5, 4, 1, 10] = true := by kernel_rfl
theorem col4_13 : colOK true 0 [8, 5, 12, 2, 9, 1, 0, 7, 14, 6] = true := by kernel_rfl
theorem col4_14 : colOK true 2 [9, 8, 7, 6, 5, 4, 14, 13, 12, 3] = true := by kernel_rfl
theorem col4_15 : colOK true 3 [12, 3, 8, 5, 4, 13, 6, 1, 14, 7] = true := by kernel_rfl
theorem col4_16 : colOK true 5 [8, 6, 12, 3, 1, 9, 5, 4, 14, 2] = true := by kernel_rfl
theorem col4_17 : colOK true 7 [12, 1, 0, 13, 8, 5, 7, 2, 14, 4] = true := by kernel_rfl
theorem col4_18 : colOK true 8 [8, 6, 12, 3, 1, 9, 5, 4, 14, 2] = true := by kernel_rfl
theorem col4_19 : colOK true 9 [12, 1, 0, 2, 3, 13, 14, 8, 5, 4] = true := by kernel_rfl
theorem col4_20 : colOK true 0 [8, 6, 12, 3, 1, 9, 5, 4, 14, 2, 7] = true := by kernel_rfl
theorem col4_21 : colOK true 1 [12, 1, 0, 13, 8, 5, 7, 2, 14, 4, 9] = true := by kernel_rfl
theorem col4_22 : colOK true 3 [9, 8, 7, 6, 5, 4, 14, 13, 12, 3, 2] = true := by kernel_rfl
theorem col4_23 : colOK true 4 [12, 1, 0, 13, 8, 5, 7, 2, 14, 4, 9] = true := by kernel_rfl
theorem col4_24 : colOK true 5 [8, 5, 12, 2, 9, 1, 0, 7, 14, 6, 13] = true := by kernel_rfl
theorem col4_25 : colOK true 7 [12, 3, 8, 5, 4, 13, 6, 1, 14, 7, 0] = true := by kernel_rfl
theorem col4_26 : colOK true 8 [12, 1, 0, 2, 3, 13, 14, 8, 5, 4, 6] = true := by kernel_rfl
theorem col4_27 : colOK true 10 [8, 5, 12, 2, 9, 1, 0, 7, 14, 6, 13] = true := by kernel_rfl
theorem col4_28 : colOK true 11 [8, 6, 12, 3, 1, 9, 5, 4, 14, 2, 7] = true := by kernel_rfl
theorem col4_29 : colOK true 12 [12, 3, 8, 5, 4, 13, 6, 1, 14, 7, 0] = true := by kernel_rfl
theorem col4_30 : colOK true 1 [8, 5, 12, 2, 9, 1, 0, 7, 14, 6, 13, 4] = true := by kernel_rfl
theorem col4_31 : colOK true 2 [12, 3, 8, 5, 4, 13, 6, 1, 14, 7, 0, 9] = true := by kernel_rfl
theorem col4_32 : colOK true 3 [8, 6, 12, 3, 1, 9, 5, 4, 14, 2, 7, 13] = true := by kernel_rfl
theorem col4_33 : colOK true 7 [12, 1, 0, 2, 3, 13, 14, 8, 5, 4, 6, 7] = true := by kernel_rfl
theorem col4_34 : colOK true 9 [12, 1, 0, 13, 8, 5, 7, 2, 14, 4, 9, 3] = true := by kernel_rfl
theorem col4_35 : colOK true 12 [12, 1, 0, 13, 8, 5, 7, 2, 14, 4, 9, 3] = true := by kernel_rfl
theorem col4_36 : colOK true 4 [9, 8, 7, 6, 5, 4, 14, 13, 12, 3, 2, 1, 0] = true := by kernel_rfl
theorem col4_37 : colOK true 5 [9, 8, 7, 6, 5, 4, 14, 13, 12, 3, 2, 1, 0] = true := by kernel_rfl
theorem col4_38 : colOK true 6 [8, 5, 12, 2, 9, 1, 0, 7, 14, 6, 13, 4, 3] = true := by kernel_rfl
theorem col4_39 : colOK true 6 [8, 6, 12, 3, 1, 9, 5, 4, 14, 2, 7, 13, 0] = true := by kernel_rfl
theorem col4_40 : colOK true 6 [9, 8, 7, 6, 5, 4, 14, 13, 12, 3, 2, 1, 0] = true := by kernel_rfl
theorem col4_41 : colOK true 6 [12, 1, 0, 2, 3, 13, 14, 8, 5, 4, 6, 7, 9] = true := by kernel_rfl
theorem col4_42 : colOK true 6 [12, 1, 0, 13, 8, 5, 7, 2, 14, 4, 9, 3, 6] = true := by kernel_rfl
end Ev
