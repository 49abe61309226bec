/- A part of the proof that GcRoom returns true: text Col1. -/
import Derived.Test.YtfhilpdbmfbbdaaGreatDoorLpA
namespace Ev
open Go Go.Proofs
theorem col1_0 : colOK false 0 [] = true := by kernel_rfl
theorem col1_1 : colOK false 1 [] = true := by kernel_rfl
theorem col1_2 : colOK false 2 [] = true := by kernel_rfl
theorem col1_3 : colOK false 3 [] = true := by kernel_rfl
theorem col1_4 : colOK false 4 [] = true := by kernel_rfl
theorem col1_5 : colOK false 5 [] = true := by kernel_rfl
theorem col1_6 : colOK false 6 [] = true := by kernel_rfl
theorem col1_7 : colOK false 7 [] = true := by kernel_rfl
theorem col1_8 : colOK false 8 [] = true := by kernel_rfl
theorem col1_9 : colOK false 9 [] = true := by kernel_rfl
theorem col1_10 : colOK false 10 [] = true := by kernel_rfl
theorem col1_11 : colOK false 11 [] = true := by kernel_rfl
theorem col1_12 : colOK false 12 [] = true := by kernel_rfl
theorem col1_13 : colOK false 13 [] = true := by kernel_rfl
theorem col1_14 : colOK true 4 [8] = true := by kernel_rfl
theorem col1_15 : colOK true 4 [12] = true := by kernel_rfl
theorem col1_16 : colOK true 6 [10] = true := by kernel_rfl
theorem col1_17 : colOK true 6 [14] = true := by kernel_rfl
theorem col1_18 : colOK true 8 [9] = true := by kernel_rfl
theorem col1_19 : colOK true 8 [13] = true := by kernel_rfl
theorem col1_20 : colOK true 1 [8, 6] = true := by kernel_rfl
theorem col1_21 : colOK true 2 [8, 5] = true := by kernel_rfl
theorem col1_22 : colOK true 2 [12, 1] = true := by kernel_rfl
theorem col1_23 : colOK true 3 [12, 1] = true := by kernel_rfl
theorem col1_24 : colOK true 6 [14, 10] = true := by kernel_rfl
theorem col1_25 : colOK true 10 [8, 7] = true := by kernel_rfl
theorem col1_26 : colOK true 10 [12, 3] = true := by kernel_rfl
theorem col1_27 : colOK true 12 [8, 6] = true := by kernel_rfl
theorem col1_28 : colOK true 12 [12, 2] = true := by kernel_rfl
theorem col1_29 : colOK true 13 [14, 10] = true := by kernel_rfl
theorem col1_30 : colOK true 0 [8, 5, 4] = true := by kernel_rfl
theorem col1_31 : colOK true 0 [12, 1, 0] = true := by kernel_rfl
theorem col1_32 : colOK true 0 [12, 1, 2] = true := by kernel_rfl
theorem col1_33 : colOK true 2 [12, 1, 0] = true := by kernel_rfl
theorem col1_34 : colOK true 2 [13, 8, 7] = true := by kernel_rfl
theorem col1_35 : colOK true 8 [12, 2, 8] = true := by kernel_rfl
theorem col1_36 : colOK true 9 [9, 8, 7] = true := by kernel_rfl
theorem col1_37 : colOK true 10 [8, 12, 1] = true := by kernel_rfl
theorem col1_38 : colOK true 0 [8, 7, 5, 4] = true := by kernel_rfl
theorem col1_39 : colOK true 1 [12, 1, 0, 2] = true := by kernel_rfl
theorem col1_40 : colOK true 4 [8, 5, 4, 13] = true := by kernel_rfl
theorem col1_41 : colOK true 4 [8, 6, 12, 3] = true := by kernel_rfl
theorem col1_42 : colOK true 4 [12, 2, 8, 7] = true := by kernel_rfl
end Ev
