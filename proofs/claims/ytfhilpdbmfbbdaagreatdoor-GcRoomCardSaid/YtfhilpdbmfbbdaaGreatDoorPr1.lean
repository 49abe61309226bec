/- A part of the proof that GcRoom returns true: text Pr1. -/
import Derived.Test.YtfhilpdbmfbbdaaGreatDoorLpP
namespace Ev
open Go Go.Proofs
theorem parse_1 : parseR 1 1 255 = true := by kernel_rfl
theorem parse_2 : parseR 2 1 255 = true := by kernel_rfl
theorem parse_3 : parseR 3 1 255 = true := by kernel_rfl
theorem parse_4 : parseR 4 1 255 = true := by kernel_rfl
theorem parse_5 : parseR 5 1 255 = true := by kernel_rfl
theorem parse_6 : parseR 6 1 255 = true := by kernel_rfl
theorem parse_7 : parseR 7 1 255 = true := by kernel_rfl
theorem parse_8 : parseR 8 1 255 = true := by kernel_rfl
theorem parse_9 : parseR 9 1 255 = true := by kernel_rfl
theorem parse_10 : parseR 10 1 255 = true := by kernel_rfl
theorem parse_11 : parseR 11 1 255 = true := by kernel_rfl
theorem parse_12 : parseR 12 1 255 = true := by kernel_rfl
theorem parse_13 : parseR 13 1 255 = true := by kernel_rfl
theorem parse_14 : parseR 14 1 255 = true := by kernel_rfl
theorem parse_15 : parseR 15 1 255 = true := by kernel_rfl
theorem parse_16 : parseR 16 1 255 = true := by kernel_rfl
theorem parse_17 : parseR 17 1 255 = true := by kernel_rfl
theorem parse_18 : parseR 18 1 255 = true := by kernel_rfl
theorem parse_19 : parseR 19 1 255 = true := by kernel_rfl
theorem parse_20 : parseR 20 1 255 = true := by kernel_rfl
theorem parse_21 : parseR 21 1 255 = true := by kernel_rfl
theorem parse_22 : parseR 22 1 255 = true := by kernel_rfl
theorem parse_23 : parseR 23 1 255 = true := by kernel_rfl
theorem parse_24 : parseR 24 1 255 = true := by kernel_rfl
theorem parse_25 : parseR 25 1 255 = true := by kernel_rfl
theorem parse_26 : parseR 26 1 255 = true := by kernel_rfl
theorem parse_27 : parseR 27 1 255 = true := by kernel_rfl
theorem parse_28 : parseR 28 1 255 = true := by kernel_rfl
theorem parse_29 : parseR 29 1 255 = true := by kernel_rfl
theorem parse_30 : parseR 30 1 255 = true := by kernel_rfl
theorem parse_31 : parseR 31 1 255 = true := by kernel_rfl
theorem parse_32 : parseR 32 1 255 = true := by kernel_rfl
theorem parse_33 : parseR 33 1 255 = true := by kernel_rfl
theorem parse_34 : parseR 34 1 255 = true := by kernel_rfl
theorem parse_35 : parseR 35 1 255 = true := by kernel_rfl
theorem parse_36 : parseR 36 1 255 = true := by kernel_rfl
theorem parse_37 : parseR 37 1 255 = true := by kernel_rfl
theorem parse_38 : parseR 38 1 255 = true := by kernel_rfl
theorem parse_39 : parseR 39 1 255 = true := by kernel_rfl
theorem parse_40 : parseR 40 1 255 = true := by kernel_rfl
theorem parse_41 : parseR 41 1 255 = true := by kernel_rfl
theorem parse_42 : parseR 42 1 255 = true := by kernel_rfl
theorem parse_43 : parseR 43 1 255 = true := by kernel_rfl
theorem parse_44 : parseR 44 1 255 = true := by kernel_rfl
theorem parse_45 : parseR 45 1 255 = true := by kernel_rfl
theorem parse_46 : parseR 46 1 255 = true := by kernel_rfl
theorem parse_47 : parseR 47 1 255 = true := by kernel_rfl
theorem parse_48 : parseR 48 1 255 = true := by kernel_rfl
theorem parse_49 : parseR 49 1 255 = true := by kernel_rfl
theorem parse_50 : parseR 50 1 255 = true := by kernel_rfl
theorem parse_51 : parseR 51 1 255 = true := by kernel_rfl
theorem parse_52 : parseR 52 1 255 = true := by kernel_rfl
theorem parse_53 : parseR 53 1 255 = true := by kernel_rfl
theorem parse_54 : parseR 54 1 255 = true := by kernel_rfl
theorem parse_55 : parseR 55 1 255 = true := by kernel_rfl
theorem parse_56 : parseR 56 1 255 = true := by kernel_rfl
theorem parse_57 : parseR 57 1 255 = true := by kernel_rfl
theorem parse_58 : parseR 58 1 255 = true := by kernel_rfl
theorem parse_59 : parseR 59 1 255 = true := by kernel_rfl
theorem parse_60 : parseR 60 1 255 = true := by kernel_rfl
theorem parse_61 : parseR 61 1 255 = true := by kernel_rfl
theorem parse_62 : parseR 62 1 255 = true := by kernel_rfl
theorem parse_63 : parseR 63 1 255 = true := by kernel_rfl
theorem parse_64 : parseR 64 1 255 = true := by kernel_rfl
theorem pr1 : ∀ t, t < 64 → parseR (t + 1) 1 255 = true
  | 0, _ => parse_1
  | 1, _ => parse_2
  | 2, _ => parse_3
  | 3, _ => parse_4
  | 4, _ => parse_5
  | 5, _ => parse_6
  | 6, _ => parse_7
  | 7, _ => parse_8
  | 8, _ => parse_9
  | 9, _ => parse_10
  | 10, _ => parse_11
  | 11, _ => parse_12
  | 12, _ => parse_13
  | 13, _ => parse_14
  | 14, _ => parse_15
  | 15, _ => parse_16
  | 16, _ => parse_17
  | 17, _ => parse_18
  | 18, _ => parse_19
  | 19, _ => parse_20
  | 20, _ => parse_21
  | 21, _ => parse_22
  | 22, _ => parse_23
  | 23, _ => parse_24
  | 24, _ => parse_25
  | 25, _ => parse_26
  | 26, _ => parse_27
  | 27, _ => parse_28
  | 28, _ => parse_29
  | 29, _ => parse_30
  | 30, _ => parse_31
  | 31, _ => parse_32
  | 32, _ => parse_33
  | 33, _ => parse_34
  | 34, _ => parse_35
  | 35, _ => parse_36
  | 36, _ => parse_37
  | 37, _ => parse_38
  | 38, _ => parse_39
  | 39, _ => parse_40
  | 40, _ => parse_41
  | 41, _ => parse_42
  | 42, _ => parse_43
  | 43, _ => parse_44
  | 44, _ => parse_45
  | 45, _ => parse_46
  | 46, _ => parse_47
  | 47, _ => parse_48
  | 48, _ => parse_49
  | 49, _ => parse_50
  | 50, _ => parse_51
  | 51, _ => parse_52
  | 52, _ => parse_53
  | 53, _ => parse_54
  | 54, _ => parse_55
  | 55, _ => parse_56
  | 56, _ => parse_57
  | 57, _ => parse_58
  | 58, _ => parse_59
  | 59, _ => parse_60
  | 60, _ => parse_61
  | 61, _ => parse_62
  | 62, _ => parse_63
  | 63, _ => parse_64
  | t + 64, h => absurd h (by omega)
end Ev
