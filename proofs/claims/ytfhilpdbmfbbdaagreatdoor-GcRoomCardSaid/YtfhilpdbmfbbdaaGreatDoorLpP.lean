/- A part of the proof that GcRoom returns true: text LpP. -/
import Derived.Test.YtfhilpdbmfbbdaaGreatDoorLpA
namespace Ev
open Go Go.Proofs
/-- The parsed program. -/
noncomputable def stP (lo hi : Nat) : List (Nat × Blk) := (fun r : AV => [
  (8, .cells false true 4 (.c1 ((R.mk (.sl 9 0 22 (.opn 6)) (.sl 10 0 21 (.opn 1)) (I 14) (I 21) .bad .bad .bad .bad) : Tr AV 1))),
  (9, .cells false false 132 (.c3 ((R.mk (R.mk (R.mk (.str 3 7630441) (.sl 11 0 1 (.known 1)) (.str 0 0) (I 0) .nils .nils (.str 2 28783) (.sl 12 0 3 (.opn 1))) (R.mk (.str 1 62) (I 0) .nils .nils (.str 3 7431539) .nils (.str 0 0) (I 0)) (R.mk (.sl 13 0 2 (.opn 1)) .nils (.str 5 465490374508) (.sl 14 0 1 (.opn 1)) (.str 0 0) (I 0) (.sl 15 0 1 (.known 1)) .nils) (R.mk (.str 3 7630441) (.sl 16 0 1 (.known 1)) (.str 0 0) (I 1) .nils .nils (.str 2 28783) (.sl 17 0 3 (.opn 1))) (R.mk (.str 1 45) (I 0) .nils .nils (.str 3 7431539) .nils (.str 0 0) (I 0)) (R.mk (.sl 18 0 2 (.opn 1)) .nils (.str 5 465490374508) (.sl 19 0 1 (.opn 1)) (.str 0 0) (I 0) (.sl 20 0 1 (.known 1)) .nils) (R.mk (.str 5 521510350945) (.sl 21 0 2 (.opn 1)) (.str 0 0) (I 0) .nils .nils (.str 3 7431539) .nils) (R.mk (.str 0 0) (I 0) (.sl 22 0 2 (.opn 1)) .nils (.str 5 465490374508) (.sl 23 0 1 (.opn 1)) (.str 0 0) (I 0))) (R.mk (R.mk (.sl 24 0 1 (.known 1)) .nils (.str 4 1684957538) (.sl 25 0 2 (.known 2)) (.str 0 0) (I 0) .nils .nils) (R.mk (.str 2 26217) (.sl 26 0 1 (.opn 1)) (.str 0 0) (I 0) (.sl 27 0 2 (.known 2)) .nils (.str 3 7431539) .nils) (R.mk (.str 0 0) (I 0) (.sl 28 0 2 (.opn 1)) .nils (.str 5 465490374508) (.sl 29 0 1 (.opn 1)) (.str 0 0) (I 0)) (R.mk (.sl 30 0 1 (.known 1)) .nils (.str 4 1668248176) (.sl 31 0 2 (.opn 1)) (.str 0 0) (I 0) (.sl 32 0 1 (.known 1)) (.sl 33 0 2 (.opn 1))) (R.mk (.str 3 7630441) (.sl 34 0 1 (.known 1)) (.str 0 0) r .nils .nils (.str 5 521510350945) (.sl 35 0 2 (.opn 1))) (R.mk (.str 0 0) (I 0) .nils .nils (.str 3 7431539) .nils (.str 0 0) (I 0)) (R.mk (.sl 36 0 2 (.opn 1)) .nils (.str 5 465490374508) (.sl 37 0 1 (.opn 1)) (.str 0 0) (I 0) (.sl 38 0 1 (.known 1)) .nils) (R.mk (.str 3 7431539) .nils (.str 0 0) (I 0) (.sl 39 0 2 (.opn 1)) .nils (.str 5 465490374508) (.sl 40 0 1 (.opn 1)))) (R.mk (R.mk (.str 0 0) (I 0) (.sl 41 0 1 (.known 1)) .nils .bad .bad .bad .bad) b8 b8 b8 b8 b8 b8 b8) b64 b64 b64 b64 b64) : Tr AV 3))),
  (10, .cells false false 21 (.c2 ((R.mk (R.mk (.str 4 1953063255) (.str 5 499915191113) (.str 7 30518479664145742) (.str 8 7306930285074151493) (.str 7 32776919715374414) (.str 4 1684956499) (.str 4 2003789907) (.str 5 465557414220)) (R.mk (.str 5 448629336407) (.str 3 6779457) (.str 1 88) (.str 1 89) (.str 1 90) (.str 1 70) (.str 1 76) (.str 1 78)) (R.mk (.str 0 0) (.str 0 0) (.str 0 0) (.str 0 0) (.str 0 0) .bad .bad .bad) b8 b8 b8 b8 b8) : Tr AV 2))),
  (11, .cells false true 1 (.c1 ((R.mk (I 17) .bad .bad .bad .bad .bad .bad .bad) : Tr AV 1))),
  (12, .cells false false 3 (.c1 ((R.mk (I 16) (I 15) (I 17) .bad .bad .bad .bad .bad) : Tr AV 1))),
  (13, .cells false false 2 (.c1 ((R.mk (I 0) (I 1) .bad .bad .bad .bad .bad .bad) : Tr AV 1))),
  (14, .cells false false 1 (.c1 ((R.mk (I 17) .bad .bad .bad .bad .bad .bad .bad) : Tr AV 1))),
  (15, .cells false true 1 (.c1 ((R.mk (I 2) .bad .bad .bad .bad .bad .bad .bad) : Tr AV 1))),
  (16, .cells false true 1 (.c1 ((R.mk (I 19) .bad .bad .bad .bad .bad .bad .bad) : Tr AV 1))),
  (17, .cells false false 3 (.c1 ((R.mk (I 18) (I 15) (I 19) .bad .bad .bad .bad .bad) : Tr AV 1))),
  (18, .cells false false 2 (.c1 ((R.mk (I 4) (I 5) .bad .bad .bad .bad .bad .bad) : Tr AV 1))),
  (19, .cells false false 1 (.c1 ((R.mk (I 19) .bad .bad .bad .bad .bad .bad .bad) : Tr AV 1))),
  (20, .cells false true 1 (.c1 ((R.mk (I 6) .bad .bad .bad .bad .bad .bad .bad) : Tr AV 1))),
  (21, .cells false false 2 (.c1 ((R.mk (I 14) (I 18) .bad .bad .bad .bad .bad .bad) : Tr AV 1))),
  (22, .cells false false 2 (.c1 ((R.mk (I 7) (I 8) .bad .bad .bad .bad .bad .bad) : Tr AV 1))),
  (23, .cells false false 1 (.c1 ((R.mk (I 18) .bad .bad .bad .bad .bad .bad .bad) : Tr AV 1))),
  (24, .cells false true 1 (.c1 ((R.mk (I 9) .bad .bad .bad .bad .bad .bad .bad) : Tr AV 1))),
  (25, .cells false true 2 (.c1 ((R.mk (I 10) (I 15) .bad .bad .bad .bad .bad .bad) : Tr AV 1))),
  (26, .cells false false 1 (.c1 ((R.mk (I 16) .bad .bad .bad .bad .bad .bad .bad) : Tr AV 1))),
  (27, .cells false true 2 (.c1 ((R.mk (I 10) (I 11) .bad .bad .bad .bad .bad .bad) : Tr AV 1))),
  (28, .cells false false 2 (.c1 ((R.mk (I 3) (I 12) .bad .bad .bad .bad .bad .bad) : Tr AV 1))),
  (29, .cells false false 1 (.c1 ((R.mk (I 16) .bad .bad .bad .bad .bad .bad .bad) : Tr AV 1))),
  (30, .cells false true 1 (.c1 ((R.mk (I 13) .bad .bad .bad .bad .bad .bad .bad) : Tr AV 1))),
  (31, .cells false false 2 (.c1 ((R.mk (I 14) (I 15) .bad .bad .bad .bad .bad .bad) : Tr AV 1))),
  (32, .cells false true 1 (.c1 ((R.mk (I 14) .bad .bad .bad .bad .bad .bad .bad) : Tr AV 1))),
  (33, .cells false false 2 (.c1 ((R.mk (I 10) (I 14) .bad .bad .bad .bad .bad .bad) : Tr AV 1))),
  (34, .cells false true 1 (.c1 ((R.mk (I 20) .bad .bad .bad .bad .bad .bad .bad) : Tr AV 1))),
  (35, .cells false false 2 (.c1 ((R.mk (I 14) (I 20) .bad .bad .bad .bad .bad .bad) : Tr AV 1))),
  (36, .cells false false 2 (.c1 ((R.mk (I 16) (I 17) .bad .bad .bad .bad .bad .bad) : Tr AV 1))),
  (37, .cells false false 1 (.c1 ((R.mk (I 20) .bad .bad .bad .bad .bad .bad .bad) : Tr AV 1))),
  (38, .cells false true 1 (.c1 ((R.mk (I 18) .bad .bad .bad .bad .bad .bad .bad) : Tr AV 1))),
  (39, .cells false false 2 (.c1 ((R.mk (I 15) (I 19) .bad .bad .bad .bad .bad .bad) : Tr AV 1))),
  (40, .cells false false 1 (.c1 ((R.mk (I 14) .bad .bad .bad .bad .bad .bad .bad) : Tr AV 1))),
  (41, .cells false true 1 (.c1 ((R.mk (I 20) .bad .bad .bad .bad .bad .bad .bad) : Tr AV 1)))]) (.sym (.int 5 lo hi (.ofNat 0)))
noncomputable def runI : Nat → Nat → List AV → Heap → Nat → Kont → Bool
  | 0, _, env, H, n, k => k env H n
  | m + 1, c, env, H, n, k => bodyK false false (I c) env H n fun env H n => runI m (c + 1) env H n k
noncomputable def envP : List AV := .bad :: .opq 4 :: .bad :: .bad :: .bad :: .ptr 8 0 :: .bool true :: List.replicate 102 .bad
/-- From the parsed program to the head of the loop. -/
noncomputable def toLoop (lo hi : Nat) (k : Kont) : Bool := layL H0 (stP lo hi) fun H =>
  evo [1, 1, 0] .leaf envP H 264 fun env H n => evo [1, 1, 1, 0] (.two .leaf (.two (.two .leaf .stop) .leaf)) env H n fun env H n => evo [1, 1, 1, 1, 0] .leaf env H n fun env H n => evo [1, 1, 1, 1, 1, 0, 0] .leaf env H n k
noncomputable def sgS : List Sig := [⟨.lit 30, 24, 3000⟩, ⟨.num 5 (-1), 0, 255⟩, ⟨.lit 22, 0, 4000⟩, ⟨.lit 0, 0, 0⟩, ⟨.same 4, 0, 0⟩, ⟨.num 5 0, 0, 255⟩]
noncomputable def sgS13 : List Sig := [⟨.same 0, 0, 0⟩, ⟨.num 5 0, 1, 255⟩, ⟨.lit 21, 0, 4000⟩, ⟨.lit 0, 0, 0⟩, ⟨.same 4, 0, 0⟩, ⟨.num 5 0, 0, 255⟩]
noncomputable def sgS0 : List Sig := [⟨.same 0, 0, 0⟩, ⟨.num 5 (-1), 0, 255⟩, ⟨.lit 22, 0, 4000⟩, ⟨.lit 0, 0, 0⟩, ⟨.same 4, 0, 0⟩, ⟨.num 5 0, 0, 255⟩]
end Ev
namespace Ev
open Go Go.Proofs
theorem runI_ok {w0 : World} {e : Nat} (he : e < 256) : ∀ (m c : Nat) {env : List AV} {H : Heap} {n : Nat} {k : Kont},
    (∀ t, t < m → (c + t) % (e % 60 + 20) ≠ 0) → c + m ≤ 4000 → runI m c env H n k = true →
    ∃ env' H' n', k env' H' n' = true ∧ ∀ (Fe : Fence) (md : Nat) (Q : Exit → Act → World → Prop) (j : Nat) (θ : Theta) (a : Act) (w : World), Fen true Fe → Head Tryz.prog w0 (hfn H) n env θ a w →
      θ.val 4 = some (.int .u8 e) → (∀ a' w' θ', θ.le θ' → Head Tryz.prog w0 (hfn H') n' env' θ' a' w' → Chain Fe md Tryz.prog bodyC Q j a' w') → Chain Fe md Tryz.prog bodyC Q (j + m) a w
  | 0, c, env, H, n, k, _, _, h => ⟨env, H, n, h, fun Fe md Q j θ a w hL s _ hQ => hQ a w θ (Theta.le_refl _) s⟩
  | m + 1, c, env, H, n, k, hno, hle, h => by
    rw [runI] at h
    have h0 := hno 0 (by omega)
    obtain ⟨env1, H1, n1, g1, _, t1⟩ := bodyK_ok (w0 := w0) (ex := fun _ => none) (i := c) (by omega) he (by rw [Nat.add_zero] at h0; simp [h0]) (fun b x e => by cases e) (fun b x e => by cases e) h
    obtain ⟨env2, H2, n2, g2, t2⟩ := runI_ok (w0 := w0) he m (c + 1) (fun t ht => by have := hno (t + 1) (by omega); rwa [show c + 1 + t = c + (t + 1) from by omega]) (by omega) g1
    refine ⟨env2, H2, n2, g2, fun Fe md Q j θ a w hL s h4 hQ => ?_⟩
    show bodyC.wpIn Fe md Tryz.prog (Exit.then (Chain Fe md Tryz.prog bodyC Q (j + m)) Q) a w
    refine t1 Fe md θ a w _ hL s (by simp [I, conc]) h4 fun a' w' θ' hle' s' => ?_
    exact t2 Fe md Q j θ' a' w' hL s' (hle'.2 _ _ h4) fun a'' w'' θ'' hle'' s'' => hQ a'' w'' θ'' (Theta.le_trans hle' hle'') s''
end Ev
namespace Ev
open Go Go.Proofs
noncomputable def u (n : Nat) : AV := .int .u64 (.ofNat n)
noncomputable def powC : Cells := (.c2 (R.mk (R.mk (u 1) (u 10) (u 100) (u 1000) (u 10000) (u 100000) (u 1000000) (u 10000000)) (R.mk (u 100000000) (u 1000000000) (u 10000000000) (u 100000000000) (u 1000000000000) (u 10000000000000) (u 100000000000000) (u 1000000000000000)) (R.mk (u 10000000000000000) (u 100000000000000000) (u 1000000000000000000) (u 10000000000000000000) .bad .bad .bad .bad) b8 b8 b8 b8 b8 : R (R AV)))
noncomputable def H1 : Heap := Tr.put 5 H0 1 (.cells true true 20 powC)
noncomputable def sgR (r lo hi : Nat) : List Sig := [⟨.lit 0, 0, 0⟩, ⟨.lit 0, 0, 0⟩, ⟨.lit 0, 0, 0⟩, ⟨.lit 0, 0, 0⟩, ⟨.same 4, 0, 0⟩, ⟨.lit r, lo, hi⟩]
noncomputable def envR (r : Nat) : List AV := .int .u8 (.ofNat r) :: .opq 4 :: List.replicate 107 .bad
noncomputable def parseR (r lo hi : Nat) : Bool := evo [0] .leaf (envR r) H1 8 fun env H n => evo [1, 0] .leaf env H n fun env H _ => chkS false (sgR r lo hi) [0, 2] H0 (stP lo hi) envP env H
theorem parse_0 : parseR 0 0 0 = true := by kernel_rfl
end Ev
