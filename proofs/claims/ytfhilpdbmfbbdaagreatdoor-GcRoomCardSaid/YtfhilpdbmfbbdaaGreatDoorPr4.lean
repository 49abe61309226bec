/- A part of the proof that GcRoom returns true: text Pr4. -/
import Derived.Test.YtfhilpdbmfbbdaaGreatDoorLpP
namespace Ev
open Go Go.Proofs
theorem parse_193 : parseR 193 1 255 = true := by kernel_rfl
theorem parse_194 : parseR 194 1 255 = true := by kernel_rfl
theorem parse_195 : parseR 195 1 255 = true := by kernel_rfl
theorem parse_196 : parseR 196 1 255 = true := by kernel_rfl
theorem parse_197 : parseR 197 1 255 = true := by kernel_rfl
theorem parse_198 : parseR 198 1 255 = true := by kernel_rfl
theorem parse_199 : parseR 199 1 255 = true := by kernel_rfl
theorem parse_200 : parseR 200 1 255 = true := by kernel_rfl
theorem parse_201 : parseR 201 1 255 = true := by kernel_rfl
theorem parse_202 : parseR 202 1 255 = true := by kernel_rfl
theorem parse_203 : parseR 203 1 255 = true := by kernel_rfl
theorem parse_204 : parseR 204 1 255 = true := by kernel_rfl
theorem parse_205 : parseR 205 1 255 = true := by kernel_rfl
theorem parse_206 : parseR 206 1 255 = true := by kernel_rfl
theorem parse_207 : parseR 207 1 255 = true := by kernel_rfl
theorem parse_208 : parseR 208 1 255 = true := by kernel_rfl
theorem parse_209 : parseR 209 1 255 = true := by kernel_rfl
theorem parse_210 : parseR 210 1 255 = true := by kernel_rfl
theorem parse_211 : parseR 211 1 255 = true := by kernel_rfl
theorem parse_212 : parseR 212 1 255 = true := by kernel_rfl
theorem parse_213 : parseR 213 1 255 = true := by kernel_rfl
theorem parse_214 : parseR 214 1 255 = true := by kernel_rfl
theorem parse_215 : parseR 215 1 255 = true := by kernel_rfl
theorem parse_216 : parseR 216 1 255 = true := by kernel_rfl
theorem parse_217 : parseR 217 1 255 = true := by kernel_rfl
theorem parse_218 : parseR 218 1 255 = true := by kernel_rfl
theorem parse_219 : parseR 219 1 255 = true := by kernel_rfl
theorem parse_220 : parseR 220 1 255 = true := by kernel_rfl
theorem parse_221 : parseR 221 1 255 = true := by kernel_rfl
theorem parse_222 : parseR 222 1 255 = true := by kernel_rfl
theorem parse_223 : parseR 223 1 255 = true := by kernel_rfl
theorem parse_224 : parseR 224 1 255 = true := by kernel_rfl
theorem parse_225 : parseR 225 1 255 = true := by kernel_rfl
theorem parse_226 : parseR 226 1 255 = true := by kernel_rfl
theorem parse_227 : parseR 227 1 255 = true := by kernel_rfl
theorem parse_228 : parseR 228 1 255 = true := by kernel_rfl
theorem parse_229 : parseR 229 1 255 = true := by kernel_rfl
theorem parse_230 : parseR 230 1 255 = true := by kernel_rfl
theorem parse_231 : parseR 231 1 255 = true := by kernel_rfl
theorem parse_232 : parseR 232 1 255 = true := by kernel_rfl
theorem parse_233 : parseR 233 1 255 = true := by kernel_rfl
theorem parse_234 : parseR 234 1 255 = true := by kernel_rfl
theorem parse_235 : parseR 235 1 255 = true := by kernel_rfl
theorem parse_236 : parseR 236 1 255 = true := by kernel_rfl
theorem parse_237 : parseR 237 1 255 = true := by kernel_rfl
theorem parse_238 : parseR 238 1 255 = true := by kernel_rfl
theorem parse_239 : parseR 239 1 255 = true := by kernel_rfl
theorem parse_240 : parseR 240 1 255 = true := by kernel_rfl
theorem parse_241 : parseR 241 1 255 = true := by kernel_rfl
theorem parse_242 : parseR 242 1 255 = true := by kernel_rfl
theorem parse_243 : parseR 243 1 255 = true := by kernel_rfl
theorem parse_244 : parseR 244 1 255 = true := by kernel_rfl
theorem parse_245 : parseR 245 1 255 = true := by kernel_rfl
theorem parse_246 : parseR 246 1 255 = true := by kernel_rfl
theorem parse_247 : parseR 247 1 255 = true := by kernel_rfl
theorem parse_248 : parseR 248 1 255 = true := by kernel_rfl
theorem parse_249 : parseR 249 1 255 = true := by kernel_rfl
theorem parse_250 : parseR 250 1 255 = true := by kernel_rfl
theorem parse_251 : parseR 251 1 255 = true := by kernel_rfl
theorem parse_252 : parseR 252 1 255 = true := by kernel_rfl
theorem parse_253 : parseR 253 1 255 = true := by kernel_rfl
theorem parse_254 : parseR 254 1 255 = true := by kernel_rfl
theorem parse_255 : parseR 255 1 255 = true := by kernel_rfl
theorem pr4 : ∀ t, t < 63 → parseR (t + 193) 1 255 = true
  | 0, _ => parse_193
  | 1, _ => parse_194
  | 2, _ => parse_195
  | 3, _ => parse_196
  | 4, _ => parse_197
  | 5, _ => parse_198
  | 6, _ => parse_199
  | 7, _ => parse_200
  | 8, _ => parse_201
  | 9, _ => parse_202
  | 10, _ => parse_203
  | 11, _ => parse_204
  | 12, _ => parse_205
  | 13, _ => parse_206
  | 14, _ => parse_207
  | 15, _ => parse_208
  | 16, _ => parse_209
  | 17, _ => parse_210
  | 18, _ => parse_211
  | 19, _ => parse_212
  | 20, _ => parse_213
  | 21, _ => parse_214
  | 22, _ => parse_215
  | 23, _ => parse_216
  | 24, _ => parse_217
  | 25, _ => parse_218
  | 26, _ => parse_219
  | 27, _ => parse_220
  | 28, _ => parse_221
  | 29, _ => parse_222
  | 30, _ => parse_223
  | 31, _ => parse_224
  | 32, _ => parse_225
  | 33, _ => parse_226
  | 34, _ => parse_227
  | 35, _ => parse_228
  | 36, _ => parse_229
  | 37, _ => parse_230
  | 38, _ => parse_231
  | 39, _ => parse_232
  | 40, _ => parse_233
  | 41, _ => parse_234
  | 42, _ => parse_235
  | 43, _ => parse_236
  | 44, _ => parse_237
  | 45, _ => parse_238
  | 46, _ => parse_239
  | 47, _ => parse_240
  | 48, _ => parse_241
  | 49, _ => parse_242
  | 50, _ => parse_243
  | 51, _ => parse_244
  | 52, _ => parse_245
  | 53, _ => parse_246
  | 54, _ => parse_247
  | 55, _ => parse_248
  | 56, _ => parse_249
  | 57, _ => parse_250
  | 58, _ => parse_251
  | 59, _ => parse_252
  | 60, _ => parse_253
  | 61, _ => parse_254
  | 62, _ => parse_255
  | t + 63, h => absurd h (by omega)
end Ev
