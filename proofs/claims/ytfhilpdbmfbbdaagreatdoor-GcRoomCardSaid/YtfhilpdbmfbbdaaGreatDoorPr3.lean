/- A part of the proof that GcRoom returns true: text Pr3. -/
import Derived.Test.YtfhilpdbmfbbdaaGreatDoorLpP
namespace Ev
open Go Go.Proofs
theorem parse_129 : parseR 129 1 255 = true := by kernel_rfl
theorem parse_130 : parseR 130 1 255 = true := by kernel_rfl
theorem parse_131 : parseR 131 1 255 = true := by kernel_rfl
theorem parse_132 : parseR 132 1 255 = true := by kernel_rfl
theorem parse_133 : parseR 133 1 255 = true := by kernel_rfl
theorem parse_134 : parseR 134 1 255 = true := by kernel_rfl
theorem parse_135 : parseR 135 1 255 = true := by kernel_rfl
theorem parse_136 : parseR 136 1 255 = true := by kernel_rfl
theorem parse_137 : parseR 137 1 255 = true := by kernel_rfl
theorem parse_138 : parseR 138 1 255 = true := by kernel_rfl
theorem parse_139 : parseR 139 1 255 = true := by kernel_rfl
theorem parse_140 : parseR 140 1 255 = true := by kernel_rfl
theorem parse_141 : parseR 141 1 255 = true := by kernel_rfl
theorem parse_142 : parseR 142 1 255 = true := by kernel_rfl
theorem parse_143 : parseR 143 1 255 = true := by kernel_rfl
theorem parse_144 : parseR 144 1 255 = true := by kernel_rfl
theorem parse_145 : parseR 145 1 255 = true := by kernel_rfl
theorem parse_146 : parseR 146 1 255 = true := by kernel_rfl
theorem parse_147 : parseR 147 1 255 = true := by kernel_rfl
theorem parse_148 : parseR 148 1 255 = true := by kernel_rfl
theorem parse_149 : parseR 149 1 255 = true := by kernel_rfl
theorem parse_150 : parseR 150 1 255 = true := by kernel_rfl
theorem parse_151 : parseR 151 1 255 = true := by kernel_rfl
theorem parse_152 : parseR 152 1 255 = true := by kernel_rfl
theorem parse_153 : parseR 153 1 255 = true := by kernel_rfl
theorem parse_154 : parseR 154 1 255 = true := by kernel_rfl
theorem parse_155 : parseR 155 1 255 = true := by kernel_rfl
theorem parse_156 : parseR 156 1 255 = true := by kernel_rfl
theorem parse_157 : parseR 157 1 255 = true := by kernel_rfl
theorem parse_158 : parseR 158 1 255 = true := by kernel_rfl
theorem parse_159 : parseR 159 1 255 = true := by kernel_rfl
theorem parse_160 : parseR 160 1 255 = true := by kernel_rfl
theorem parse_161 : parseR 161 1 255 = true := by kernel_rfl
theorem parse_162 : parseR 162 1 255 = true := by kernel_rfl
theorem parse_163 : parseR 163 1 255 = true := by kernel_rfl
theorem parse_164 : parseR 164 1 255 = true := by kernel_rfl
theorem parse_165 : parseR 165 1 255 = true := by kernel_rfl
theorem parse_166 : parseR 166 1 255 = true := by kernel_rfl
theorem parse_167 : parseR 167 1 255 = true := by kernel_rfl
theorem parse_168 : parseR 168 1 255 = true := by kernel_rfl
theorem parse_169 : parseR 169 1 255 = true := by kernel_rfl
theorem parse_170 : parseR 170 1 255 = true := by kernel_rfl
theorem parse_171 : parseR 171 1 255 = true := by kernel_rfl
theorem parse_172 : parseR 172 1 255 = true := by kernel_rfl
theorem parse_173 : parseR 173 1 255 = true := by kernel_rfl
theorem parse_174 : parseR 174 1 255 = true := by kernel_rfl
theorem parse_175 : parseR 175 1 255 = true := by kernel_rfl
theorem parse_176 : parseR 176 1 255 = true := by kernel_rfl
theorem parse_177 : parseR 177 1 255 = true := by kernel_rfl
theorem parse_178 : parseR 178 1 255 = true := by kernel_rfl
theorem parse_179 : parseR 179 1 255 = true := by kernel_rfl
theorem parse_180 : parseR 180 1 255 = true := by kernel_rfl
theorem parse_181 : parseR 181 1 255 = true := by kernel_rfl
theorem parse_182 : parseR 182 1 255 = true := by kernel_rfl
theorem parse_183 : parseR 183 1 255 = true := by kernel_rfl
theorem parse_184 : parseR 184 1 255 = true := by kernel_rfl
theorem parse_185 : parseR 185 1 255 = true := by kernel_rfl
theorem parse_186 : parseR 186 1 255 = true := by kernel_rfl
theorem parse_187 : parseR 187 1 255 = true := by kernel_rfl
theorem parse_188 : parseR 188 1 255 = true := by kernel_rfl
theorem parse_189 : parseR 189 1 255 = true := by kernel_rfl
theorem parse_190 : parseR 190 1 255 = true := by kernel_rfl
theorem parse_191 : parseR 191 1 255 = true := by kernel_rfl
theorem parse_192 : parseR 192 1 255 = true := by kernel_rfl
theorem pr3 : ∀ t, t < 64 → parseR (t + 129) 1 255 = true
  | 0, _ => parse_129
  | 1, _ => parse_130
  | 2, _ => parse_131
  | 3, _ => parse_132
  | 4, _ => parse_133
  | 5, _ => parse_134
  | 6, _ => parse_135
  | 7, _ => parse_136
  | 8, _ => parse_137
  | 9, _ => parse_138
  | 10, _ => parse_139
  | 11, _ => parse_140
  | 12, _ => parse_141
  | 13, _ => parse_142
  | 14, _ => parse_143
  | 15, _ => parse_144
  | 16, _ => parse_145
  | 17, _ => parse_146
  | 18, _ => parse_147
  | 19, _ => parse_148
  | 20, _ => parse_149
  | 21, _ => parse_150
  | 22, _ => parse_151
  | 23, _ => parse_152
  | 24, _ => parse_153
  | 25, _ => parse_154
  | 26, _ => parse_155
  | 27, _ => parse_156
  | 28, _ => parse_157
  | 29, _ => parse_158
  | 30, _ => parse_159
  | 31, _ => parse_160
  | 32, _ => parse_161
  | 33, _ => parse_162
  | 34, _ => parse_163
  | 35, _ => parse_164
  | 36, _ => parse_165
  | 37, _ => parse_166
  | 38, _ => parse_167
  | 39, _ => parse_168
  | 40, _ => parse_169
  | 41, _ => parse_170
  | 42, _ => parse_171
  | 43, _ => parse_172
  | 44, _ => parse_173
  | 45, _ => parse_174
  | 46, _ => parse_175
  | 47, _ => parse_176
  | 48, _ => parse_177
  | 49, _ => parse_178
  | 50, _ => parse_179
  | 51, _ => parse_180
  | 52, _ => parse_181
  | 53, _ => parse_182
  | 54, _ => parse_183
  | 55, _ => parse_184
  | 56, _ => parse_185
  | 57, _ => parse_186
  | 58, _ => parse_187
  | 59, _ => parse_188
  | 60, _ => parse_189
  | 61, _ => parse_190
  | 62, _ => parse_191
  | 63, _ => parse_192
  | t + 64, h => absurd h (by omega)
end Ev
