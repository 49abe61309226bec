/- A part of the proof that GcRoom returns true: text Pr2. -/
import Derived.Test.YtfhilpdbmfbbdaaGreatDoorLpP
namespace Ev
open Go Go.Proofs
theorem parse_65 : parseR 65 1 255 = true := by kernel_rfl
theorem parse_66 : parseR 66 1 255 = true := by kernel_rfl
theorem parse_67 : parseR 67 1 255 = true := by kernel_rfl
theorem parse_68 : parseR 68 1 255 = true := by kernel_rfl
theorem parse_69 : parseR 69 1 255 = true := by kernel_rfl
theorem parse_70 : parseR 70 1 255 = true := by kernel_rfl
theorem parse_71 : parseR 71 1 255 = true := by kernel_rfl
theorem parse_72 : parseR 72 1 255 = true := by kernel_rfl
theorem parse_73 : parseR 73 1 255 = true := by kernel_rfl
theorem parse_74 : parseR 74 1 255 = true := by kernel_rfl
theorem parse_75 : parseR 75 1 255 = true := by kernel_rfl
theorem parse_76 : parseR 76 1 255 = true := by kernel_rfl
theorem parse_77 : parseR 77 1 255 = true := by kernel_rfl
theorem parse_78 : parseR 78 1 255 = true := by kernel_rfl
theorem parse_79 : parseR 79 1 255 = true := by kernel_rfl
theorem parse_80 : parseR 80 1 255 = true := by kernel_rfl
theorem parse_81 : parseR 81 1 255 = true := by kernel_rfl
theorem parse_82 : parseR 82 1 255 = true := by kernel_rfl
theorem parse_83 : parseR 83 1 255 = true := by kernel_rfl
theorem parse_84 : parseR 84 1 255 = true := by kernel_rfl
theorem parse_85 : parseR 85 1 255 = true := by kernel_rfl
theorem parse_86 : parseR 86 1 255 = true := by kernel_rfl
theorem parse_87 : parseR 87 1 255 = true := by kernel_rfl
theorem parse_88 : parseR 88 1 255 = true := by kernel_rfl
theorem parse_89 : parseR 89 1 255 = true := by kernel_rfl
theorem parse_90 : parseR 90 1 255 = true := by kernel_rfl
theorem parse_91 : parseR 91 1 255 = true := by kernel_rfl
theorem parse_92 : parseR 92 1 255 = true := by kernel_rfl
theorem parse_93 : parseR 93 1 255 = true := by kernel_rfl
theorem parse_94 : parseR 94 1 255 = true := by kernel_rfl
theorem parse_95 : parseR 95 1 255 = true := by kernel_rfl
theorem parse_96 : parseR 96 1 255 = true := by kernel_rfl
theorem parse_97 : parseR 97 1 255 = true := by kernel_rfl
theorem parse_98 : parseR 98 1 255 = true := by kernel_rfl
theorem parse_99 : parseR 99 1 255 = true := by kernel_rfl
theorem parse_100 : parseR 100 1 255 = true := by kernel_rfl
theorem parse_101 : parseR 101 1 255 = true := by kernel_rfl
theorem parse_102 : parseR 102 1 255 = true := by kernel_rfl
theorem parse_103 : parseR 103 1 255 = true := by kernel_rfl
theorem parse_104 : parseR 104 1 255 = true := by kernel_rfl
theorem parse_105 : parseR 105 1 255 = true := by kernel_rfl
theorem parse_106 : parseR 106 1 255 = true := by kernel_rfl
theorem parse_107 : parseR 107 1 255 = true := by kernel_rfl
theorem parse_108 : parseR 108 1 255 = true := by kernel_rfl
theorem parse_109 : parseR 109 1 255 = true := by kernel_rfl
theorem parse_110 : parseR 110 1 255 = true := by kernel_rfl
theorem parse_111 : parseR 111 1 255 = true := by kernel_rfl
theorem parse_112 : parseR 112 1 255 = true := by kernel_rfl
theorem parse_113 : parseR 113 1 255 = true := by kernel_rfl
theorem parse_114 : parseR 114 1 255 = true := by kernel_rfl
theorem parse_115 : parseR 115 1 255 = true := by kernel_rfl
theorem parse_116 : parseR 116 1 255 = true := by kernel_rfl
theorem parse_117 : parseR 117 1 255 = true := by kernel_rfl
theorem parse_118 : parseR 118 1 255 = true := by kernel_rfl
theorem parse_119 : parseR 119 1 255 = true := by kernel_rfl
theorem parse_120 : parseR 120 1 255 = true := by kernel_rfl
theorem parse_121 : parseR 121 1 255 = true := by kernel_rfl
theorem parse_122 : parseR 122 1 255 = true := by kernel_rfl
theorem parse_123 : parseR 123 1 255 = true := by kernel_rfl
theorem parse_124 : parseR 124 1 255 = true := by kernel_rfl
theorem parse_125 : parseR 125 1 255 = true := by kernel_rfl
theorem parse_126 : parseR 126 1 255 = true := by kernel_rfl
theorem parse_127 : parseR 127 1 255 = true := by kernel_rfl
theorem parse_128 : parseR 128 1 255 = true := by kernel_rfl
theorem pr2 : ∀ t, t < 64 → parseR (t + 65) 1 255 = true
  | 0, _ => parse_65
  | 1, _ => parse_66
  | 2, _ => parse_67
  | 3, _ => parse_68
  | 4, _ => parse_69
  | 5, _ => parse_70
  | 6, _ => parse_71
  | 7, _ => parse_72
  | 8, _ => parse_73
  | 9, _ => parse_74
  | 10, _ => parse_75
  | 11, _ => parse_76
  | 12, _ => parse_77
  | 13, _ => parse_78
  | 14, _ => parse_79
  | 15, _ => parse_80
  | 16, _ => parse_81
  | 17, _ => parse_82
  | 18, _ => parse_83
  | 19, _ => parse_84
  | 20, _ => parse_85
  | 21, _ => parse_86
  | 22, _ => parse_87
  | 23, _ => parse_88
  | 24, _ => parse_89
  | 25, _ => parse_90
  | 26, _ => parse_91
  | 27, _ => parse_92
  | 28, _ => parse_93
  | 29, _ => parse_94
  | 30, _ => parse_95
  | 31, _ => parse_96
  | 32, _ => parse_97
  | 33, _ => parse_98
  | 34, _ => parse_99
  | 35, _ => parse_100
  | 36, _ => parse_101
  | 37, _ => parse_102
  | 38, _ => parse_103
  | 39, _ => parse_104
  | 40, _ => parse_105
  | 41, _ => parse_106
  | 42, _ => parse_107
  | 43, _ => parse_108
  | 44, _ => parse_109
  | 45, _ => parse_110
  | 46, _ => parse_111
  | 47, _ => parse_112
  | 48, _ => parse_113
  | 49, _ => parse_114
  | 50, _ => parse_115
  | 51, _ => parse_116
  | 52, _ => parse_117
  | 53, _ => parse_118
  | 54, _ => parse_119
  | 55, _ => parse_120
  | 56, _ => parse_121
  | 57, _ => parse_122
  | 58, _ => parse_123
  | 59, _ => parse_124
  | 60, _ => parse_125
  | 61, _ => parse_126
  | 62, _ => parse_127
  | 63, _ => parse_128
  | t + 64, h => absurd h (by omega)
end Ev
