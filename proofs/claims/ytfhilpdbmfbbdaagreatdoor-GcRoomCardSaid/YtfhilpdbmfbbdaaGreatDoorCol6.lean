/- A part of the proof that GcRoom returns true: text Col6. -/
import Derived.Test.YtfhilpdbmfbbdaaGreatDoorLpA
namespace Ev
open Go Go.Proofs
theorem col6_0 : colOK true 6 [12, 3, 8, 5, 4, 13, 6, 1, 14, 7, 0, 9, 2, 10] = true := by kernel_rfl
theorem col6_1 : colOK true 7 [8, 5, 12, 2, 9, 1, 0, 7, 14, 6, 13, 4, 3, 10] = true := by kernel_rfl
theorem col6_2 : colOK true 7 [8, 6, 12, 3, 1, 9, 5, 4, 14, 2, 7, 13, 0, 10] = true := by kernel_rfl
theorem col6_3 : colOK true 7 [9, 8, 7, 6, 5, 4, 14, 13, 12, 3, 2, 1, 0, 10] = true := by kernel_rfl
theorem col6_4 : colOK true 7 [12, 1, 0, 2, 3, 13, 14, 8, 5, 4, 6, 7, 9, 10] = true := by kernel_rfl
theorem col6_5 : colOK true 7 [12, 1, 0, 13, 8, 5, 7, 2, 14, 4, 9, 3, 6, 10] = true := by kernel_rfl
theorem col6_6 : colOK true 7 [12, 3, 8, 5, 4, 13, 6, 1, 14, 7, 0, 9, 2, 10] = true := by kernel_rfl
theorem col6_7 : colOK true 8 [8, 5, 12, 2, 9, 1, 0, 7, 14, 6, 13, 4, 3, 10] = true := by kernel_rfl
theorem col6_8 : colOK true 8 [8, 6, 12, 3, 1, 9, 5, 4, 14, 2, 7, 13, 0, 10] = true := by kernel_rfl
theorem col6_9 : colOK true 8 [9, 8, 7, 6, 5, 4, 14, 13, 12, 3, 2, 1, 0, 10] = true := by kernel_rfl
theorem col6_10 : colOK true 8 [12, 1, 0, 2, 3, 13, 14, 8, 5, 4, 6, 7, 9, 10] = true := by kernel_rfl
theorem col6_11 : colOK true 8 [12, 1, 0, 13, 8, 5, 7, 2, 14, 4, 9, 3, 6, 10] = true := by kernel_rfl
theorem col6_12 : colOK true 8 [12, 3, 8, 5, 4, 13, 6, 1, 14, 7, 0, 9, 2, 10] = true := by kernel_rfl
theorem col6_13 : colOK true 9 [8, 5, 12, 2, 9, 1, 0, 7, 14, 6, 13, 4, 3, 10] = true := by kernel_rfl
theorem col6_14 : colOK true 9 [8, 6, 12, 3, 1, 9, 5, 4, 14, 2, 7, 13, 0, 10] = true := by kernel_rfl
theorem col6_15 : colOK true 9 [9, 8, 7, 6, 5, 4, 14, 13, 12, 3, 2, 1, 0, 10] = true := by kernel_rfl
theorem col6_16 : colOK true 9 [12, 1, 0, 2, 3, 13, 14, 8, 5, 4, 6, 7, 9, 10] = true := by kernel_rfl
theorem col6_17 : colOK true 9 [12, 1, 0, 13, 8, 5, 7, 2, 14, 4, 9, 3, 6, 10] = true := by kernel_rfl
theorem col6_18 : colOK true 9 [12, 3, 8, 5, 4, 13, 6, 1, 14, 7, 0, 9, 2, 10] = true := by kernel_rfl
theorem col6_19 : colOK true 10 [8, 5, 12, 2, 9, 1, 0, 7, 14, 6, 13, 4, 3, 10] = true := by kernel_rfl
theorem col6_20 : colOK true 10 [8, 6, 12, 3, 1, 9, 5, 4, 14, 2, 7, 13, 0, 10] = true := by kernel_rfl
theorem col6_21 : colOK true 10 [9, 8, 7, 6, 5, 4, 14, 13, 12, 3, 2, 1, 0, 10] = true := by kernel_rfl
theorem col6_22 : colOK true 10 [12, 1, 0, 2, 3, 13, 14, 8, 5, 4, 6, 7, 9, 10] = true := by kernel_rfl
theorem col6_23 : colOK true 10 [12, 1, 0, 13, 8, 5, 7, 2, 14, 4, 9, 3, 6, 10] = true := by kernel_rfl
theorem col6_24 : colOK true 10 [12, 3, 8, 5, 4, 13, 6, 1, 14, 7, 0, 9, 2, 10] = true := by kernel_rfl
theorem col6_25 : colOK true 11 [8, 5, 12, 2, 9, 1, 0, 7, 14, 6, 13, 4, 3, 10] = true := by kernel_rfl
theorem col6_26 : colOK true 11 [8, 6, 12, 3, 1, 9, 5, 4, 14, 2, 7, 13, 0, 10] = true := by kernel_rfl
theorem col6_27 : colOK true 11 [9, 8, 7, 6, 5, 4, 14, 13, 12, 3, 2, 1, 0, 10] = true := by kernel_rfl
theorem col6_28 : colOK true 11 [12, 1, 0, 2, 3, 13, 14, 8, 5, 4, 6, 7, 9, 10] = true := by kernel_rfl
theorem col6_29 : colOK true 11 [12, 1, 0, 13, 8, 5, 7, 2, 14, 4, 9, 3, 6, 10] = true := by kernel_rfl
theorem col6_30 : colOK true 11 [12, 3, 8, 5, 4, 13, 6, 1, 14, 7, 0, 9, 2, 10] = true := by kernel_rfl
theorem col6_31 : colOK true 12 [8, 5, 12, 2, 9, 1, 0, 7, 14, 6, 13, 4, 3, 10] = true := by kernel_rfl
theorem col6_32 : colOK true 12 [8, 6, 12, 3, 1, 9, 5, 4, 14, 2, 7, 13, 0, 10] = true := by kernel_rfl
theorem col6_33 : colOK true 12 [9, 8, 7, 6, 5, 4, 14, 13, 12, 3, 2, 1, 0, 10] = true := by kernel_rfl
theorem col6_34 : colOK true 12 [12, 1, 0, 2, 3, 13, 14, 8, 5, 4, 6, 7, 9, 10] = true := by kernel_rfl
theorem col6_35 : colOK true 12 [12, 1, 0, 13, 8, 5, 7, 2, 14, 4, 9, 3, 6, 10] = true := by kernel_rfl
theorem col6_36 : colOK true 12 [12, 3, 8, 5, 4, 13, 6, 1, 14, 7, 0, 9, 2, 10] = true := by kernel_rfl
theorem col6_37 : colOK true 13 [8, 5, 12, 2, 9, 1, 0, 7, 14, 6, 13, 4, 3, 10] = true := by kernel_rfl
theorem col6_38 : colOK true 13 [8, 6, 12, 3, 1, 9, 5, 4, 14, 2, 7, 13, 0, 10] = true := by kernel_rfl
theorem col6_39 : colOK true 13 [9, 8, 7, 6, 5, 4, 14, 13, 12, 3, 2, 1, 0, 10] = true := by kernel_rfl
theorem col6_40 : colOK true 13 [12, 1, 0, 2, 3, 13, 14, 8, 5, 4, 6, 7, 9, 10] = true := by kernel_rfl
theorem col6_41 : colOK true 13 [12, 1, 0, 13, 8, 5, 7, 2, 14, 4, 9, 3, 6, 10] = true := by kernel_rfl
theorem col6_42 : colOK true 13 [12, 3, 8, 5, 4, 13, 6, 1, 14, 7, 0, 9, 2, 10] = true := by kernel_rfl
end Ev
