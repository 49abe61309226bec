/- A part of the proof that GcRoom returns true: text LpA. -/
import Derived.Test.YtfhilpdbmfbbdaaGreatDoorShT
import Derived.Test.YtfhilpdbmfbbdaaGreatDoorEvJ
namespace Ev
open Go Go.Proofs
noncomputable section
def J (n : Nat) : AV := .int .i64 (.negSucc n)
def O (b n es : Nat) : AV := .sl b 0 n (.opn es)
def Nn {α : Type} (lo hi : Nat) (k : (Nat → AV) → (Nat → AV) → α) : α := k (fun c => .sym (.int 1 lo hi (.ofNat c))) (fun c => .sym (.int 1 lo hi (.negSucc c)))
def Xx {α : Type} (f : Nat) (k : Nat → (Nat → AV) → (Nat → AV) → α) : α := k f (fun c => .sym (.int 0 f 3000 (.ofNat c))) (fun c => .sym (.int 0 f 3000 (.negSucc c)))
def s : AV := .sym (.int 2 0 4000 (.negSucc 0))
def r : AV := .sym (.int 5 0 255 (.ofNat 0))
def i0 : AV := .sym (.int 2 0 4000 (.ofNat 0))
def base : List (Nat × Blk) := [
  (9, .cells false false 132 (.c3 ((R.mk (R.mk (R.mk (.str 3 7630441) (O 14 1 1) (.str 0 0) (I 0) .nils .nils (.str 2 28783) (O 15 3 1)) (R.mk (.str 1 62) (I 0) .nils .nils (.str 3 7431539) .nils (.str 0 0) (I 0)) (R.mk (O 16 2 1) .nils (.str 5 465490374508) (O 17 1 1) (.str 0 0) (I 0) (O 18 1 1) .nils) (R.mk (.str 3 7630441) (O 19 1 1) (.str 0 0) (I 1) .nils .nils (.str 2 28783) (O 20 3 1)) (R.mk (.str 1 45) (I 0) .nils .nils (.str 3 7431539) .nils (.str 0 0) (I 0)) (R.mk (O 21 2 1) .nils (.str 5 465490374508) (O 22 1 1) (.str 0 0) (I 0) (O 23 1 1) .nils) (R.mk (.str 5 521510350945) (O 24 2 1) (.str 0 0) (I 0) .nils .nils (.str 3 7431539) .nils) (R.mk (.str 0 0) (I 0) (O 25 2 1) .nils (.str 5 465490374508) (O 26 1 1) (.str 0 0) (I 0))) (R.mk (R.mk (O 27 1 1) .nils (.str 4 1684957538) (O 28 2 1) (.str 0 0) (I 0) .nils .nils) (R.mk (.str 2 26217) (O 29 1 1) (.str 0 0) (I 0) (O 30 2 1) .nils (.str 3 7431539) .nils) (R.mk (.str 0 0) (I 0) (O 31 2 1) .nils (.str 5 465490374508) (O 32 1 1) (.str 0 0) (I 0)) (R.mk (O 33 1 1) .nils (.str 4 1668248176) (O 34 2 1) (.str 0 0) (I 0) (O 35 1 1) (O 36 2 1)) (R.mk (.str 3 7630441) (O 37 1 1) (.str 0 0) r .nils .nils (.str 5 521510350945) (O 38 2 1)) (R.mk (.str 0 0) (I 0) .nils .nils (.str 3 7431539) .nils (.str 0 0) (I 0)) (R.mk (O 39 2 1) .nils (.str 5 465490374508) (O 40 1 1) (.str 0 0) (I 0) (O 41 1 1) .nils) (R.mk (.str 3 7431539) .nils (.str 0 0) (I 0) (O 42 2 1) .nils (.str 5 465490374508) (O 43 1 1))) (R.mk (R.mk (.str 0 0) (I 0) (O 44 1 1) .nils .bad .bad .bad .bad) b8 b8 b8 b8 b8 b8 b8) b64 b64 b64 b64 b64) : Tr AV 3))),
  (10, .cells false false 21 (.c2 ((R.mk (R.mk (.str 4 1953063255) (.str 5 499915191113) (.str 7 30518479664145742) (.str 8 7306930285074151493) (.str 7 32776919715374414) (.str 4 1684956499) (.str 4 2003789907) (.str 5 465557414220)) (R.mk (.str 5 448629336407) (.str 3 6779457) (.str 1 88) (.str 1 89) (.str 1 90) (.str 1 70) (.str 1 76) (.str 1 78)) (R.mk (.str 0 0) (.str 0 0) (.str 0 0) (.str 0 0) (.str 0 0) .bad .bad .bad) b8 b8 b8 b8 b8) : Tr AV 2))),
  (11, .cells false true 7 (.c1 ((R.mk (.ptr 45 0) (I 14) (O 46 1 2) .nils .nils .nils .nils .bad) : Tr AV 1))),
  (12, .cells false false 1 (.c1 ((R.mk (.ptr 47 0) .bad .bad .bad .bad .bad .bad .bad) : Tr AV 1))),
  (13, .cells false false 14 (.c2 ((R.mk (R.mk (I 0) (I 1) (I 2) (I 3) (I 4) (I 5) (I 6) (I 7)) (R.mk (I 8) (I 9) (I 10) (I 11) (I 12) (I 13) .bad .bad) b8 b8 b8 b8 b8 b8) : Tr AV 2))),
  (14, .cells false false 1 (.c1 ((R.mk (I 17) .bad .bad .bad .bad .bad .bad .bad) : Tr AV 1))),
  (15, .cells false false 3 (.c1 ((R.mk (I 16) (I 15) (I 17) .bad .bad .bad .bad .bad) : Tr AV 1))),
  (16, .cells false false 2 (.c1 ((R.mk (I 0) (I 1) .bad .bad .bad .bad .bad .bad) : Tr AV 1))),
  (17, .cells false false 1 (.c1 ((R.mk (I 17) .bad .bad .bad .bad .bad .bad .bad) : Tr AV 1))),
  (18, .cells false false 1 (.c1 ((R.mk (I 2) .bad .bad .bad .bad .bad .bad .bad) : Tr AV 1))),
  (19, .cells false false 1 (.c1 ((R.mk (I 19) .bad .bad .bad .bad .bad .bad .bad) : Tr AV 1))),
  (20, .cells false false 3 (.c1 ((R.mk (I 18) (I 15) (I 19) .bad .bad .bad .bad .bad) : Tr AV 1))),
  (21, .cells false false 2 (.c1 ((R.mk (I 4) (I 5) .bad .bad .bad .bad .bad .bad) : Tr AV 1))),
  (22, .cells false false 1 (.c1 ((R.mk (I 19) .bad .bad .bad .bad .bad .bad .bad) : Tr AV 1))),
  (23, .cells false false 1 (.c1 ((R.mk (I 6) .bad .bad .bad .bad .bad .bad .bad) : Tr AV 1))),
  (24, .cells false false 2 (.c1 ((R.mk (I 14) (I 18) .bad .bad .bad .bad .bad .bad) : Tr AV 1))),
  (25, .cells false false 2 (.c1 ((R.mk (I 7) (I 8) .bad .bad .bad .bad .bad .bad) : Tr AV 1))),
  (26, .cells false false 1 (.c1 ((R.mk (I 18) .bad .bad .bad .bad .bad .bad .bad) : Tr AV 1))),
  (27, .cells false false 1 (.c1 ((R.mk (I 9) .bad .bad .bad .bad .bad .bad .bad) : Tr AV 1))),
  (28, .cells false false 2 (.c1 ((R.mk (I 10) (I 15) .bad .bad .bad .bad .bad .bad) : Tr AV 1))),
  (29, .cells false false 1 (.c1 ((R.mk (I 16) .bad .bad .bad .bad .bad .bad .bad) : Tr AV 1))),
  (30, .cells false false 2 (.c1 ((R.mk (I 10) (I 11) .bad .bad .bad .bad .bad .bad) : Tr AV 1))),
  (31, .cells false false 2 (.c1 ((R.mk (I 3) (I 12) .bad .bad .bad .bad .bad .bad) : Tr AV 1))),
  (32, .cells false false 1 (.c1 ((R.mk (I 16) .bad .bad .bad .bad .bad .bad .bad) : Tr AV 1))),
  (33, .cells false false 1 (.c1 ((R.mk (I 13) .bad .bad .bad .bad .bad .bad .bad) : Tr AV 1))),
  (34, .cells false false 2 (.c1 ((R.mk (I 14) (I 15) .bad .bad .bad .bad .bad .bad) : Tr AV 1))),
  (35, .cells false false 1 (.c1 ((R.mk (I 14) .bad .bad .bad .bad .bad .bad .bad) : Tr AV 1))),
  (36, .cells false false 2 (.c1 ((R.mk (I 10) (I 14) .bad .bad .bad .bad .bad .bad) : Tr AV 1))),
  (37, .cells false false 1 (.c1 ((R.mk (I 20) .bad .bad .bad .bad .bad .bad .bad) : Tr AV 1))),
  (38, .cells false false 2 (.c1 ((R.mk (I 14) (I 20) .bad .bad .bad .bad .bad .bad) : Tr AV 1))),
  (39, .cells false false 2 (.c1 ((R.mk (I 16) (I 17) .bad .bad .bad .bad .bad .bad) : Tr AV 1))),
  (40, .cells false false 1 (.c1 ((R.mk (I 20) .bad .bad .bad .bad .bad .bad .bad) : Tr AV 1))),
  (41, .cells false false 1 (.c1 ((R.mk (I 18) .bad .bad .bad .bad .bad .bad .bad) : Tr AV 1))),
  (42, .cells false false 2 (.c1 ((R.mk (I 15) (I 19) .bad .bad .bad .bad .bad .bad) : Tr AV 1))),
  (43, .cells false false 1 (.c1 ((R.mk (I 14) .bad .bad .bad .bad .bad .bad .bad) : Tr AV 1))),
  (44, .cells false false 1 (.c1 ((R.mk (I 20) .bad .bad .bad .bad .bad .bad .bad) : Tr AV 1)))]
def stA0 (lo hi : Nat) : List (Nat × Blk) := Nn lo hi fun w _z => Xx 24 fun f x _y => (8, .cells false true 9 (.c2 ((R.mk (R.mk (O 9 22 6) (O 10 21 1) (I 14) (I 21) (.map 200) (.ptr 11 0) (O 12 1 1) (O 13 14 1)) (R.mk s .bad .bad .bad .bad .bad .bad .bad) b8 b8 b8 b8 b8 b8) : Tr AV 2))) :: (base ++ [
  (45, .cells false true 3 (.c1 ((R.mk (.bool true) (.sym (.spl 48 0 f 3000 4 4)) (.sym (.spl 49 0 f 3000 4 1)) .bad .bad .bad .bad .bad) : Tr AV 1))),
  (46, .cells false false 2 (.c1 ((R.mk (I 15) (.ptr 50 0) .bad .bad .bad .bad .bad .bad) : Tr AV 1))),
  (47, .cells false true 3 (.c1 ((R.mk (O 51 1 3) (J 0) (J 0) .bad .bad .bad .bad .bad) : Tr AV 1))),
  (48, .split 0 f 3000 f 4 4 (.c3 ((R.mk (R.mk (R.mk (I 4) (I 0) (.str 4 1668248176) .nils (I 4) (I 1) (.str 4 1668248176) .nils) (R.mk (I 4) (I 2) (.str 4 1668248176) .nils (I 4) (I 3) (.str 4 1668248176) .nils) (R.mk (I 4) (I 4) (.str 4 1668248176) .nils (I 4) (I 5) (.str 4 1668248176) .nils) (R.mk (I 4) (I 6) (.str 4 1668248176) .nils (I 4) (I 7) (.str 4 1668248176) .nils) (R.mk (I 4) (I 8) (.str 4 1668248176) .nils (I 4) (I 9) (.str 4 1668248176) .nils) (R.mk (I 0) (I 10) (.str 0 0) .nils (I 0) (I 11) (.str 0 0) .nils) (R.mk (I 0) (I 12) (.str 0 0) .nils (I 0) (I 13) (.str 0 0) .nils) (R.mk (I 2) (I 0) (.str 7 28554821303361894) .nils (I 2) (I 0) (.str 4 1701869940) .nils)) (R.mk (R.mk (I 2) (I 0) (.str 5 521644110433) .nils (I 2) (I 0) (.str 5 435526984050) .nils) (R.mk (I 2) (I 0) (.str 7 32479991798327412) .nils (I 2) (I 0) (.str 5 461228831859) .nils) (R.mk (I 2) (I 0) (.str 6 133532402673005) .nils (I 2) (I 0) (.str 4 1735290732) .nils) (R.mk (I 0) (I 22) (.str 0 0) .nils (I 4) (I 10) (.str 4 1668248176) .nils) b8 b8 b8 b8) b64 b64 b64 b64 b64 b64) : Tr AV 3)) (.c2 ((R.mk (R.mk (I 0) (x 0) (.str 0 0) .nils (I 0) (x 1) (.str 0 0) .nils) (R.mk (I 1) (I 1) (.str 0 0) .nils (I 1) (w 0) (.str 0 0) .nils) b8 b8 b8 b8 b8 b8) : Tr AV 2))),
  (49, .split 0 f 3000 f 1 4 (.c2 ((R.mk (R.mk (I 0) (I 1) (I 2) (I 3) (I 4) (I 5) (I 6) (I 7)) (R.mk (I 8) (I 9) (I 10) (I 11) (I 12) (I 13) (I 14) (I 15)) (R.mk (I 16) (I 17) (I 18) (I 19) (I 20) (I 21) (I 23) (I 23)) b8 b8 b8 b8 b8) : Tr AV 2)) (.c1 ((R.mk (x 3) (x 2) (x 2) (x 3) .bad .bad .bad .bad) : Tr AV 1))),
  (50, .cells false true 1 (.c1 ((R.mk (.sl 52 0 21 (.known 21)) .bad .bad .bad .bad .bad .bad .bad) : Tr AV 1))),
  (51, .cells false false 3 (.c1 ((R.mk (I 14) (.ptr 53 0) (.bool false) .bad .bad .bad .bad .bad) : Tr AV 1))),
  (52, .cells false true 21 (.c2 ((R.mk (R.mk (J 0) (J 0) (J 0) (J 0) (J 0) (J 0) (J 0) (J 0)) (R.mk (J 0) (J 0) (I 10) (J 0) (J 0) (J 0) (I 22) (J 0)) (R.mk (J 0) (J 0) (J 0) (J 0) (J 0) .bad .bad .bad) b8 b8 b8 b8 b8) : Tr AV 2))),
  (53, .cells false true 1 (.c1 ((R.mk (.sl 54 0 21 (.known 21)) .bad .bad .bad .bad .bad .bad .bad) : Tr AV 1))),
  (54, .cells false true 21 (.c2 ((R.mk (R.mk (J 0) (J 0) (J 0) (J 0) (J 0) (J 0) (J 0) (J 0)) (R.mk (J 0) (J 0) (I 10) (J 0) (J 0) (J 0) (I 22) (x 0)) (R.mk (J 0) (J 0) (J 0) (J 0) (J 0) .bad .bad .bad) b8 b8 b8 b8 b8) : Tr AV 2)))])
def stA1 (lo hi : Nat) : List (Nat × Blk) := Nn lo hi fun w _z => Xx 23 fun f x _y => (8, .cells false true 9 (.c2 ((R.mk (R.mk (O 9 22 6) (O 10 21 1) (I 14) (I 21) (.map 200) (.ptr 11 0) (O 12 1 1) (O 13 14 1)) (R.mk s .bad .bad .bad .bad .bad .bad .bad) b8 b8 b8 b8 b8 b8) : Tr AV 2))) :: (base ++ [
  (45, .cells false true 3 (.c1 ((R.mk (.bool true) (.sym (.spl 48 0 f 3000 4 4)) (.sym (.spl 49 0 f 3000 4 1)) .bad .bad .bad .bad .bad) : Tr AV 1))),
  (46, .cells false false 2 (.c1 ((R.mk (I 15) (.ptr 50 0) .bad .bad .bad .bad .bad .bad) : Tr AV 1))),
  (47, .cells false true 3 (.c1 ((R.mk (O 51 1 3) (J 0) (J 0) .bad .bad .bad .bad .bad) : Tr AV 1))),
  (48, .split 0 f 3000 f 4 4 (.c3 ((R.mk (R.mk (R.mk (I 4) (I 0) (.str 4 1668248176) .nils (I 4) (I 1) (.str 4 1668248176) .nils) (R.mk (I 4) (I 2) (.str 4 1668248176) .nils (I 4) (I 3) (.str 4 1668248176) .nils) (R.mk (I 4) (I 4) (.str 4 1668248176) .nils (I 4) (I 5) (.str 4 1668248176) .nils) (R.mk (I 4) (I 6) (.str 4 1668248176) .nils (I 4) (I 7) (.str 4 1668248176) .nils) (R.mk (I 4) (I 8) (.str 4 1668248176) .nils (I 4) (I 9) (.str 4 1668248176) .nils) (R.mk (I 0) (I 10) (.str 0 0) .nils (I 0) (I 11) (.str 0 0) .nils) (R.mk (I 0) (I 12) (.str 0 0) .nils (I 0) (I 13) (.str 0 0) .nils) (R.mk (I 2) (I 0) (.str 7 28554821303361894) .nils (I 2) (I 0) (.str 4 1701869940) .nils)) (R.mk (R.mk (I 2) (I 0) (.str 5 521644110433) .nils (I 2) (I 0) (.str 5 435526984050) .nils) (R.mk (I 2) (I 0) (.str 7 32479991798327412) .nils (I 2) (I 0) (.str 5 461228831859) .nils) (R.mk (I 2) (I 0) (.str 6 133532402673005) .nils (I 2) (I 0) (.str 4 1735290732) .nils) (R.mk (I 4) (I 10) (.str 4 1668248176) .nils .bad .bad .bad .bad) b8 b8 b8 b8) b64 b64 b64 b64 b64 b64) : Tr AV 3)) (.c2 ((R.mk (R.mk (I 0) (x 0) (.str 0 0) .nils (I 0) (x 1) (.str 0 0) .nils) (R.mk (I 1) (I 1) (.str 0 0) .nils (I 1) (w 0) (.str 0 0) .nils) b8 b8 b8 b8 b8 b8) : Tr AV 2))),
  (49, .split 0 f 3000 f 1 4 (.c2 ((R.mk (R.mk (I 0) (I 1) (I 2) (I 3) (I 4) (I 5) (I 6) (I 7)) (R.mk (I 8) (I 9) (I 10) (I 11) (I 12) (I 13) (I 14) (I 15)) (R.mk (I 16) (I 17) (I 18) (I 19) (I 20) (I 21) (I 22) .bad) b8 b8 b8 b8 b8) : Tr AV 2)) (.c1 ((R.mk (x 3) (x 2) (x 2) (x 3) .bad .bad .bad .bad) : Tr AV 1))),
  (50, .cells false true 1 (.c1 ((R.mk (O 52 21 1) .bad .bad .bad .bad .bad .bad .bad) : Tr AV 1))),
  (51, .cells false false 3 (.c1 ((R.mk (I 14) (.ptr 53 0) (.bool false) .bad .bad .bad .bad .bad) : Tr AV 1))),
  (52, .cells false false 21 (.c2 ((R.mk (R.mk (J 0) (J 0) (J 0) (J 0) (J 0) (J 0) (J 0) (J 0)) (R.mk (J 0) (J 0) (I 10) (J 0) (J 0) (J 0) (I 22) (J 0)) (R.mk (J 0) (J 0) (J 0) (J 0) (J 0) .bad .bad .bad) b8 b8 b8 b8 b8) : Tr AV 2))),
  (53, .cells false true 1 (.c1 ((R.mk (.sl 54 0 21 (.known 21)) .bad .bad .bad .bad .bad .bad .bad) : Tr AV 1))),
  (54, .cells false true 21 (.c2 ((R.mk (R.mk (J 0) (J 0) (J 0) (J 0) (J 0) (J 0) (J 0) (J 0)) (R.mk (J 0) (J 0) (I 10) (J 0) (J 0) (J 0) (I 22) (x 0)) (R.mk (J 0) (J 0) (J 0) (J 0) (J 0) .bad .bad .bad) b8 b8 b8 b8 b8) : Tr AV 2)))])
def stC0 (lo hi : Nat) : List (Nat × Blk) := Nn lo hi fun w _z => (8, .cells false true 9 (.c2 ((R.mk (R.mk (O 9 22 6) (O 10 21 1) (I 14) (I 21) (.map 200) (.ptr 11 0) (O 12 1 1) (O 13 14 1)) (R.mk s .bad .bad .bad .bad .bad .bad .bad) b8 b8 b8 b8 b8 b8) : Tr AV 2))) :: (base ++ [
  (45, .cells false true 3 (.c1 ((R.mk (.bool true) (O 48 24 4) (O 49 24 1) .bad .bad .bad .bad .bad) : Tr AV 1))),
  (46, .cells false false 2 (.c1 ((R.mk (I 15) (.ptr 50 0) .bad .bad .bad .bad .bad .bad) : Tr AV 1))),
  (47, .cells false true 3 (.c1 ((R.mk (O 51 1 3) (J 0) (J 0) .bad .bad .bad .bad .bad) : Tr AV 1))),
  (48, .cells false false 96 (.c3 ((R.mk (R.mk (R.mk (I 4) (I 0) (.str 4 1668248176) .nils (I 4) (I 1) (.str 4 1668248176) .nils) (R.mk (I 4) (I 2) (.str 4 1668248176) .nils (I 4) (I 3) (.str 4 1668248176) .nils) (R.mk (I 4) (I 4) (.str 4 1668248176) .nils (I 4) (I 5) (.str 4 1668248176) .nils) (R.mk (I 4) (I 6) (.str 4 1668248176) .nils (I 4) (I 7) (.str 4 1668248176) .nils) (R.mk (I 4) (I 8) (.str 4 1668248176) .nils (I 4) (I 9) (.str 4 1668248176) .nils) (R.mk (I 0) (I 10) (.str 0 0) .nils (I 0) (I 11) (.str 0 0) .nils) (R.mk (I 0) (I 12) (.str 0 0) .nils (I 0) (I 13) (.str 0 0) .nils) (R.mk (I 2) (I 0) (.str 7 28554821303361894) .nils (I 2) (I 0) (.str 4 1701869940) .nils)) (R.mk (R.mk (I 2) (I 0) (.str 5 521644110433) .nils (I 2) (I 0) (.str 5 435526984050) .nils) (R.mk (I 2) (I 0) (.str 7 32479991798327412) .nils (I 2) (I 0) (.str 5 461228831859) .nils) (R.mk (I 2) (I 0) (.str 6 133532402673005) .nils (I 2) (I 0) (.str 4 1735290732) .nils) (R.mk (I 4) (I 10) (.str 4 1668248176) .nils (I 1) (w 0) (.str 0 0) .nils) b8 b8 b8 b8) b64 b64 b64 b64 b64 b64) : Tr AV 3))),
  (49, .cells false false 24 (.c2 ((R.mk (R.mk (I 0) (I 1) (I 2) (I 3) (I 4) (I 5) (I 6) (I 7)) (R.mk (I 8) (I 9) (I 10) (I 11) (I 12) (I 13) (I 14) (I 15)) (R.mk (I 16) (I 17) (I 18) (I 19) (I 20) (I 21) (I 22) (I 23)) b8 b8 b8 b8 b8) : Tr AV 2))),
  (50, .cells false true 1 (.c1 ((R.mk (O 52 21 1) .bad .bad .bad .bad .bad .bad .bad) : Tr AV 1))),
  (51, .cells false false 3 (.c1 ((R.mk (I 14) (.ptr 53 0) (.bool false) .bad .bad .bad .bad .bad) : Tr AV 1))),
  (52, .cells false false 21 (.c2 ((R.mk (R.mk (J 0) (J 0) (J 0) (J 0) (J 0) (J 0) (J 0) (J 0)) (R.mk (J 0) (J 0) (I 10) (J 0) (J 0) (J 0) (I 22) (J 0)) (R.mk (J 0) (J 0) (J 0) (J 0) (J 0) .bad .bad .bad) b8 b8 b8 b8 b8) : Tr AV 2))),
  (53, .cells false true 1 (.c1 ((R.mk (O 54 21 1) .bad .bad .bad .bad .bad .bad .bad) : Tr AV 1))),
  (54, .cells false false 21 (.c2 ((R.mk (R.mk (J 0) (J 0) (J 0) (J 0) (J 0) (J 0) (J 0) (J 0)) (R.mk (J 0) (J 0) (I 10) (J 0) (J 0) (J 0) (I 22) (I 23)) (R.mk (J 0) (J 0) (J 0) (J 0) (J 0) .bad .bad .bad) b8 b8 b8 b8 b8) : Tr AV 2)))])
def stC1 (lo hi : Nat) : List (Nat × Blk) := Nn lo hi fun w _z => (8, .cells false true 9 (.c2 ((R.mk (R.mk (O 9 22 6) (O 10 21 1) (I 14) (I 21) (.map 200) (.ptr 11 0) (O 12 1 1) (O 13 14 1)) (R.mk s .bad .bad .bad .bad .bad .bad .bad) b8 b8 b8 b8 b8 b8) : Tr AV 2))) :: (base ++ [
  (45, .cells false true 3 (.c1 ((R.mk (.bool true) (O 48 25 4) (O 49 25 1) .bad .bad .bad .bad .bad) : Tr AV 1))),
  (46, .cells false false 2 (.c1 ((R.mk (I 15) (.ptr 50 0) .bad .bad .bad .bad .bad .bad) : Tr AV 1))),
  (47, .cells false true 3 (.c1 ((R.mk (O 51 1 3) (J 0) (J 0) .bad .bad .bad .bad .bad) : Tr AV 1))),
  (48, .cells false false 100 (.c3 ((R.mk (R.mk (R.mk (I 4) (I 0) (.str 4 1668248176) .nils (I 4) (I 1) (.str 4 1668248176) .nils) (R.mk (I 4) (I 2) (.str 4 1668248176) .nils (I 4) (I 3) (.str 4 1668248176) .nils) (R.mk (I 4) (I 4) (.str 4 1668248176) .nils (I 4) (I 5) (.str 4 1668248176) .nils) (R.mk (I 4) (I 6) (.str 4 1668248176) .nils (I 4) (I 7) (.str 4 1668248176) .nils) (R.mk (I 4) (I 8) (.str 4 1668248176) .nils (I 4) (I 9) (.str 4 1668248176) .nils) (R.mk (I 0) (I 10) (.str 0 0) .nils (I 0) (I 11) (.str 0 0) .nils) (R.mk (I 0) (I 12) (.str 0 0) .nils (I 0) (I 13) (.str 0 0) .nils) (R.mk (I 2) (I 0) (.str 7 28554821303361894) .nils (I 2) (I 0) (.str 4 1701869940) .nils)) (R.mk (R.mk (I 2) (I 0) (.str 5 521644110433) .nils (I 2) (I 0) (.str 5 435526984050) .nils) (R.mk (I 2) (I 0) (.str 7 32479991798327412) .nils (I 2) (I 0) (.str 5 461228831859) .nils) (R.mk (I 2) (I 0) (.str 6 133532402673005) .nils (I 2) (I 0) (.str 4 1735290732) .nils) (R.mk (I 4) (I 10) (.str 4 1668248176) .nils (I 1) (w 0) (.str 0 0) .nils) (R.mk (I 0) (I 24) (.str 0 0) .nils .bad .bad .bad .bad) b8 b8 b8) b64 b64 b64 b64 b64 b64) : Tr AV 3))),
  (49, .cells false false 25 (.c2 ((R.mk (R.mk (I 0) (I 1) (I 2) (I 3) (I 4) (I 5) (I 6) (I 7)) (R.mk (I 8) (I 9) (I 10) (I 11) (I 12) (I 13) (I 14) (I 15)) (R.mk (I 16) (I 17) (I 18) (I 19) (I 20) (I 21) (I 22) (I 23)) (R.mk (I 24) .bad .bad .bad .bad .bad .bad .bad) b8 b8 b8 b8) : Tr AV 2))),
  (50, .cells false true 1 (.c1 ((R.mk (O 52 21 1) .bad .bad .bad .bad .bad .bad .bad) : Tr AV 1))),
  (51, .cells false false 3 (.c1 ((R.mk (I 13) (.ptr 53 0) (.bool false) .bad .bad .bad .bad .bad) : Tr AV 1))),
  (52, .cells false false 21 (.c2 ((R.mk (R.mk (J 0) (J 0) (J 0) (J 0) (J 0) (J 0) (J 0) (J 0)) (R.mk (J 0) (J 0) (I 10) (J 0) (J 0) (J 0) (I 22) (J 0)) (R.mk (J 0) (J 0) (J 0) (J 0) (J 0) .bad .bad .bad) b8 b8 b8 b8 b8) : Tr AV 2))),
  (53, .cells false true 1 (.c1 ((R.mk (O 54 21 1) .bad .bad .bad .bad .bad .bad .bad) : Tr AV 1))),
  (54, .cells false false 21 (.c2 ((R.mk (R.mk (J 0) (J 0) (J 0) (J 0) (J 0) (J 0) (J 0) (J 0)) (R.mk (J 0) (J 0) (I 10) (J 0) (J 0) (J 0) (I 22) (I 23)) (R.mk (I 24) (J 0) (J 0) (J 0) (J 0) .bad .bad .bad) b8 b8 b8 b8 b8) : Tr AV 2)))])
def stC2 (lo hi : Nat) : List (Nat × Blk) := Nn lo hi fun w _z => (8, .cells false true 9 (.c2 ((R.mk (R.mk (O 9 22 6) (O 10 21 1) (I 14) (I 21) (.map 200) (.ptr 11 0) (O 12 1 1) (O 13 14 1)) (R.mk s .bad .bad .bad .bad .bad .bad .bad) b8 b8 b8 b8 b8 b8) : Tr AV 2))) :: (base ++ [
  (45, .cells false true 3 (.c1 ((R.mk (.bool true) (O 48 25 4) (O 49 25 1) .bad .bad .bad .bad .bad) : Tr AV 1))),
  (46, .cells false false 2 (.c1 ((R.mk (I 15) (.ptr 50 0) .bad .bad .bad .bad .bad .bad) : Tr AV 1))),
  (47, .cells false true 3 (.c1 ((R.mk (O 51 2 3) (J 0) (J 0) .bad .bad .bad .bad .bad) : Tr AV 1))),
  (48, .cells false false 100 (.c3 ((R.mk (R.mk (R.mk (I 4) (I 0) (.str 4 1668248176) .nils (I 4) (I 1) (.str 4 1668248176) .nils) (R.mk (I 4) (I 2) (.str 4 1668248176) .nils (I 4) (I 3) (.str 4 1668248176) .nils) (R.mk (I 4) (I 4) (.str 4 1668248176) .nils (I 4) (I 5) (.str 4 1668248176) .nils) (R.mk (I 4) (I 6) (.str 4 1668248176) .nils (I 4) (I 7) (.str 4 1668248176) .nils) (R.mk (I 4) (I 8) (.str 4 1668248176) .nils (I 4) (I 9) (.str 4 1668248176) .nils) (R.mk (I 0) (I 10) (.str 0 0) .nils (I 0) (I 11) (.str 0 0) .nils) (R.mk (I 0) (I 12) (.str 0 0) .nils (I 0) (I 13) (.str 0 0) .nils) (R.mk (I 2) (I 0) (.str 7 28554821303361894) .nils (I 2) (I 0) (.str 4 1701869940) .nils)) (R.mk (R.mk (I 2) (I 0) (.str 5 521644110433) .nils (I 2) (I 0) (.str 5 435526984050) .nils) (R.mk (I 2) (I 0) (.str 7 32479991798327412) .nils (I 2) (I 0) (.str 5 461228831859) .nils) (R.mk (I 2) (I 0) (.str 6 133532402673005) .nils (I 2) (I 0) (.str 4 1735290732) .nils) (R.mk (I 4) (I 10) (.str 4 1668248176) .nils (I 1) (w 0) (.str 0 0) .nils) (R.mk (I 0) (I 24) (.str 0 0) .nils .bad .bad .bad .bad) b8 b8 b8) b64 b64 b64 b64 b64 b64) : Tr AV 3))),
  (49, .cells false false 25 (.c2 ((R.mk (R.mk (I 0) (I 1) (I 2) (I 3) (I 4) (I 5) (I 6) (I 7)) (R.mk (I 8) (I 9) (I 10) (I 11) (I 12) (I 13) (I 14) (I 15)) (R.mk (I 16) (I 17) (I 18) (I 19) (I 20) (I 21) (I 22) (I 23)) (R.mk (I 24) .bad .bad .bad .bad .bad .bad .bad) b8 b8 b8 b8) : Tr AV 2))),
  (50, .cells false true 1 (.c1 ((R.mk (O 52 21 1) .bad .bad .bad .bad .bad .bad .bad) : Tr AV 1))),
  (51, .cells false false 6 (.c1 ((R.mk (I 12) (.ptr 53 0) (.bool false) (I 3) (.ptr 53 0) (.bool false) .bad .bad) : Tr AV 1))),
  (52, .cells false false 21 (.c2 ((R.mk (R.mk (J 0) (J 0) (J 0) (J 0) (J 0) (J 0) (J 0) (J 0)) (R.mk (J 0) (J 0) (I 10) (J 0) (J 0) (J 0) (I 22) (J 0)) (R.mk (J 0) (J 0) (J 0) (J 0) (J 0) .bad .bad .bad) b8 b8 b8 b8 b8) : Tr AV 2))),
  (53, .cells false true 1 (.c1 ((R.mk (O 54 21 1) .bad .bad .bad .bad .bad .bad .bad) : Tr AV 1))),
  (54, .cells false false 21 (.c2 ((R.mk (R.mk (J 0) (J 0) (J 0) (J 0) (J 0) (J 0) (J 0) (J 0)) (R.mk (J 0) (J 0) (I 10) (J 0) (J 0) (J 0) (I 22) (I 23)) (R.mk (I 24) (J 0) (J 0) (J 0) (J 0) .bad .bad .bad) b8 b8 b8 b8 b8) : Tr AV 2)))])
def stC3 (lo hi : Nat) : List (Nat × Blk) := Nn lo hi fun w _z => (8, .cells false true 9 (.c2 ((R.mk (R.mk (O 9 22 6) (O 10 21 1) (I 14) (I 21) (.map 200) (.ptr 11 0) (O 12 1 1) (O 13 14 1)) (R.mk s .bad .bad .bad .bad .bad .bad .bad) b8 b8 b8 b8 b8 b8) : Tr AV 2))) :: (base ++ [
  (45, .cells false true 3 (.c1 ((R.mk (.bool true) (O 48 26 4) (O 49 26 1) .bad .bad .bad .bad .bad) : Tr AV 1))),
  (46, .cells false false 2 (.c1 ((R.mk (I 15) (.ptr 50 0) .bad .bad .bad .bad .bad .bad) : Tr AV 1))),
  (47, .cells false true 3 (.c1 ((R.mk (O 51 2 3) (J 0) (J 0) .bad .bad .bad .bad .bad) : Tr AV 1))),
  (48, .cells false false 104 (.c3 ((R.mk (R.mk (R.mk (I 4) (I 0) (.str 4 1668248176) .nils (I 4) (I 1) (.str 4 1668248176) .nils) (R.mk (I 4) (I 2) (.str 4 1668248176) .nils (I 4) (I 3) (.str 4 1668248176) .nils) (R.mk (I 4) (I 4) (.str 4 1668248176) .nils (I 4) (I 5) (.str 4 1668248176) .nils) (R.mk (I 4) (I 6) (.str 4 1668248176) .nils (I 4) (I 7) (.str 4 1668248176) .nils) (R.mk (I 4) (I 8) (.str 4 1668248176) .nils (I 4) (I 9) (.str 4 1668248176) .nils) (R.mk (I 0) (I 10) (.str 0 0) .nils (I 0) (I 11) (.str 0 0) .nils) (R.mk (I 0) (I 12) (.str 0 0) .nils (I 0) (I 13) (.str 0 0) .nils) (R.mk (I 2) (I 0) (.str 7 28554821303361894) .nils (I 2) (I 0) (.str 4 1701869940) .nils)) (R.mk (R.mk (I 2) (I 0) (.str 5 521644110433) .nils (I 2) (I 0) (.str 5 435526984050) .nils) (R.mk (I 2) (I 0) (.str 7 32479991798327412) .nils (I 2) (I 0) (.str 5 461228831859) .nils) (R.mk (I 2) (I 0) (.str 6 133532402673005) .nils (I 2) (I 0) (.str 4 1735290732) .nils) (R.mk (I 4) (I 10) (.str 4 1668248176) .nils (I 1) (w 0) (.str 0 0) .nils) (R.mk (I 0) (I 24) (.str 0 0) .nils (I 0) (I 25) (.str 0 0) .nils) b8 b8 b8) b64 b64 b64 b64 b64 b64) : Tr AV 3))),
  (49, .cells false false 26 (.c2 ((R.mk (R.mk (I 0) (I 1) (I 2) (I 3) (I 4) (I 5) (I 6) (I 7)) (R.mk (I 8) (I 9) (I 10) (I 11) (I 12) (I 13) (I 14) (I 15)) (R.mk (I 16) (I 17) (I 18) (I 19) (I 20) (I 21) (I 22) (I 23)) (R.mk (I 24) (I 25) .bad .bad .bad .bad .bad .bad) b8 b8 b8 b8) : Tr AV 2))),
  (50, .cells false true 1 (.c1 ((R.mk (O 52 21 1) .bad .bad .bad .bad .bad .bad .bad) : Tr AV 1))),
  (51, .cells false false 6 (.c1 ((R.mk (I 12) (.ptr 53 0) (.bool false) (I 2) (.ptr 54 0) (.bool false) .bad .bad) : Tr AV 1))),
  (52, .cells false false 21 (.c2 ((R.mk (R.mk (J 0) (J 0) (J 0) (J 0) (J 0) (J 0) (J 0) (J 0)) (R.mk (J 0) (J 0) (I 10) (J 0) (J 0) (J 0) (I 22) (J 0)) (R.mk (J 0) (J 0) (J 0) (J 0) (J 0) .bad .bad .bad) b8 b8 b8 b8 b8) : Tr AV 2))),
  (53, .cells false true 1 (.c1 ((R.mk (O 55 21 1) .bad .bad .bad .bad .bad .bad .bad) : Tr AV 1))),
  (54, .cells false true 1 (.c1 ((R.mk (O 56 21 1) .bad .bad .bad .bad .bad .bad .bad) : Tr AV 1))),
  (55, .cells false false 21 (.c2 ((R.mk (R.mk (J 0) (J 0) (J 0) (J 0) (J 0) (J 0) (J 0) (J 0)) (R.mk (J 0) (J 0) (I 10) (J 0) (J 0) (J 0) (I 22) (I 23)) (R.mk (I 24) (J 0) (J 0) (J 0) (J 0) .bad .bad .bad) b8 b8 b8 b8 b8) : Tr AV 2))),
  (56, .cells false false 21 (.c2 ((R.mk (R.mk (J 0) (J 0) (J 0) (J 0) (J 0) (J 0) (J 0) (J 0)) (R.mk (J 0) (J 0) (I 10) (J 0) (J 0) (J 0) (I 22) (I 23)) (R.mk (I 24) (I 25) (J 0) (J 0) (J 0) .bad .bad .bad) b8 b8 b8 b8 b8) : Tr AV 2)))])
def stC4 (lo hi : Nat) : List (Nat × Blk) := Nn lo hi fun w _z => (8, .cells false true 9 (.c2 ((R.mk (R.mk (O 9 22 6) (O 10 21 1) (I 14) (I 21) (.map 200) (.ptr 11 0) (O 12 1 1) (O 13 14 1)) (R.mk s .bad .bad .bad .bad .bad .bad .bad) b8 b8 b8 b8 b8 b8) : Tr AV 2))) :: (base ++ [
  (45, .cells false true 3 (.c1 ((R.mk (.bool true) (O 48 26 4) (O 49 26 1) .bad .bad .bad .bad .bad) : Tr AV 1))),
  (46, .cells false false 2 (.c1 ((R.mk (I 15) (.ptr 50 0) .bad .bad .bad .bad .bad .bad) : Tr AV 1))),
  (47, .cells false true 3 (.c1 ((R.mk (O 51 3 3) (J 0) (J 0) .bad .bad .bad .bad .bad) : Tr AV 1))),
  (48, .cells false false 104 (.c3 ((R.mk (R.mk (R.mk (I 4) (I 0) (.str 4 1668248176) .nils (I 4) (I 1) (.str 4 1668248176) .nils) (R.mk (I 4) (I 2) (.str 4 1668248176) .nils (I 4) (I 3) (.str 4 1668248176) .nils) (R.mk (I 4) (I 4) (.str 4 1668248176) .nils (I 4) (I 5) (.str 4 1668248176) .nils) (R.mk (I 4) (I 6) (.str 4 1668248176) .nils (I 4) (I 7) (.str 4 1668248176) .nils) (R.mk (I 4) (I 8) (.str 4 1668248176) .nils (I 4) (I 9) (.str 4 1668248176) .nils) (R.mk (I 0) (I 10) (.str 0 0) .nils (I 0) (I 11) (.str 0 0) .nils) (R.mk (I 0) (I 12) (.str 0 0) .nils (I 0) (I 13) (.str 0 0) .nils) (R.mk (I 2) (I 0) (.str 7 28554821303361894) .nils (I 2) (I 0) (.str 4 1701869940) .nils)) (R.mk (R.mk (I 2) (I 0) (.str 5 521644110433) .nils (I 2) (I 0) (.str 5 435526984050) .nils) (R.mk (I 2) (I 0) (.str 7 32479991798327412) .nils (I 2) (I 0) (.str 5 461228831859) .nils) (R.mk (I 2) (I 0) (.str 6 133532402673005) .nils (I 2) (I 0) (.str 4 1735290732) .nils) (R.mk (I 4) (I 10) (.str 4 1668248176) .nils (I 1) (w 0) (.str 0 0) .nils) (R.mk (I 0) (I 24) (.str 0 0) .nils (I 0) (I 25) (.str 0 0) .nils) b8 b8 b8) b64 b64 b64 b64 b64 b64) : Tr AV 3))),
  (49, .cells false false 26 (.c2 ((R.mk (R.mk (I 0) (I 1) (I 2) (I 3) (I 4) (I 5) (I 6) (I 7)) (R.mk (I 8) (I 9) (I 10) (I 11) (I 12) (I 13) (I 14) (I 15)) (R.mk (I 16) (I 17) (I 18) (I 19) (I 20) (I 21) (I 22) (I 23)) (R.mk (I 24) (I 25) .bad .bad .bad .bad .bad .bad) b8 b8 b8 b8) : Tr AV 2))),
  (50, .cells false true 1 (.c1 ((R.mk (O 52 21 1) .bad .bad .bad .bad .bad .bad .bad) : Tr AV 1))),
  (51, .cells false false 9 (.c2 ((R.mk (R.mk (I 12) (.ptr 53 0) (.bool false) (I 1) (.ptr 54 0) (.bool false) (I 0) (.ptr 54 0)) (R.mk (.bool false) .bad .bad .bad .bad .bad .bad .bad) b8 b8 b8 b8 b8 b8) : Tr AV 2))),
  (52, .cells false false 21 (.c2 ((R.mk (R.mk (J 0) (J 0) (J 0) (J 0) (J 0) (J 0) (J 0) (J 0)) (R.mk (J 0) (J 0) (I 10) (J 0) (J 0) (J 0) (I 22) (J 0)) (R.mk (J 0) (J 0) (J 0) (J 0) (J 0) .bad .bad .bad) b8 b8 b8 b8 b8) : Tr AV 2))),
  (53, .cells false true 1 (.c1 ((R.mk (O 55 21 1) .bad .bad .bad .bad .bad .bad .bad) : Tr AV 1))),
  (54, .cells false true 1 (.c1 ((R.mk (O 56 21 1) .bad .bad .bad .bad .bad .bad .bad) : Tr AV 1))),
  (55, .cells false false 21 (.c2 ((R.mk (R.mk (J 0) (J 0) (J 0) (J 0) (J 0) (J 0) (J 0) (J 0)) (R.mk (J 0) (J 0) (I 10) (J 0) (J 0) (J 0) (I 22) (I 23)) (R.mk (I 24) (J 0) (J 0) (J 0) (J 0) .bad .bad .bad) b8 b8 b8 b8 b8) : Tr AV 2))),
  (56, .cells false false 21 (.c2 ((R.mk (R.mk (J 0) (J 0) (J 0) (J 0) (J 0) (J 0) (J 0) (J 0)) (R.mk (J 0) (J 0) (I 10) (J 0) (J 0) (J 0) (I 22) (I 23)) (R.mk (I 24) (I 25) (J 0) (J 0) (J 0) .bad .bad .bad) b8 b8 b8 b8 b8) : Tr AV 2)))])
def stC5 (lo hi : Nat) : List (Nat × Blk) := Nn lo hi fun w _z => (8, .cells false true 9 (.c2 ((R.mk (R.mk (O 9 22 6) (O 10 21 1) (I 14) (I 21) (.map 200) (.ptr 11 0) (O 12 1 1) (O 13 14 1)) (R.mk s .bad .bad .bad .bad .bad .bad .bad) b8 b8 b8 b8 b8 b8) : Tr AV 2))) :: (base ++ [
  (45, .cells false true 3 (.c1 ((R.mk (.bool true) (O 48 26 4) (O 49 26 1) .bad .bad .bad .bad .bad) : Tr AV 1))),
  (46, .cells false false 2 (.c1 ((R.mk (I 15) (.ptr 50 0) .bad .bad .bad .bad .bad .bad) : Tr AV 1))),
  (47, .cells false true 3 (.c1 ((R.mk (O 51 2 3) (J 0) (J 0) .bad .bad .bad .bad .bad) : Tr AV 1))),
  (48, .cells false false 104 (.c3 ((R.mk (R.mk (R.mk (I 4) (I 0) (.str 4 1668248176) .nils (I 4) (I 1) (.str 4 1668248176) .nils) (R.mk (I 4) (I 2) (.str 4 1668248176) .nils (I 4) (I 3) (.str 4 1668248176) .nils) (R.mk (I 4) (I 4) (.str 4 1668248176) .nils (I 4) (I 5) (.str 4 1668248176) .nils) (R.mk (I 4) (I 6) (.str 4 1668248176) .nils (I 4) (I 7) (.str 4 1668248176) .nils) (R.mk (I 4) (I 8) (.str 4 1668248176) .nils (I 4) (I 9) (.str 4 1668248176) .nils) (R.mk (I 0) (I 10) (.str 0 0) .nils (I 0) (I 11) (.str 0 0) .nils) (R.mk (I 0) (I 12) (.str 0 0) .nils (I 0) (I 13) (.str 0 0) .nils) (R.mk (I 2) (I 0) (.str 7 28554821303361894) .nils (I 2) (I 0) (.str 4 1701869940) .nils)) (R.mk (R.mk (I 2) (I 0) (.str 5 521644110433) .nils (I 2) (I 0) (.str 5 435526984050) .nils) (R.mk (I 2) (I 0) (.str 7 32479991798327412) .nils (I 2) (I 0) (.str 5 461228831859) .nils) (R.mk (I 2) (I 0) (.str 6 133532402673005) .nils (I 2) (I 0) (.str 4 1735290732) .nils) (R.mk (I 4) (I 10) (.str 4 1668248176) .nils (I 1) (w 0) (.str 0 0) .nils) (R.mk (I 0) (I 24) (.str 0 0) .nils (I 1) (I 0) (.str 0 0) .nils) b8 b8 b8) b64 b64 b64 b64 b64 b64) : Tr AV 3))),
  (49, .cells false false 26 (.c2 ((R.mk (R.mk (I 0) (I 1) (I 2) (I 3) (I 4) (I 5) (I 6) (I 7)) (R.mk (I 8) (I 9) (I 10) (I 11) (I 12) (I 13) (I 14) (I 15)) (R.mk (I 16) (I 17) (I 18) (I 19) (I 20) (I 21) (I 22) (I 23)) (R.mk (I 24) (I 25) .bad .bad .bad .bad .bad .bad) b8 b8 b8 b8) : Tr AV 2))),
  (50, .cells false true 1 (.c1 ((R.mk (O 52 21 1) .bad .bad .bad .bad .bad .bad .bad) : Tr AV 1))),
  (51, .cells false false 6 (.c1 ((R.mk (I 12) (.ptr 53 0) (.bool false) (I 1) (.ptr 54 0) (.bool false) .bad .bad) : Tr AV 1))),
  (52, .cells false false 21 (.c2 ((R.mk (R.mk (J 0) (J 0) (J 0) (J 0) (J 0) (J 0) (J 0) (J 0)) (R.mk (J 0) (J 0) (I 10) (J 0) (J 0) (J 0) (I 22) (J 0)) (R.mk (J 0) (J 0) (J 0) (J 0) (J 0) .bad .bad .bad) b8 b8 b8 b8 b8) : Tr AV 2))),
  (53, .cells false true 1 (.c1 ((R.mk (O 55 21 1) .bad .bad .bad .bad .bad .bad .bad) : Tr AV 1))),
  (54, .cells false true 1 (.c1 ((R.mk (O 56 21 1) .bad .bad .bad .bad .bad .bad .bad) : Tr AV 1))),
  (55, .cells false false 21 (.c2 ((R.mk (R.mk (J 0) (J 0) (J 0) (J 0) (J 0) (J 0) (J 0) (J 0)) (R.mk (J 0) (J 0) (I 10) (J 0) (J 0) (J 0) (I 22) (I 23)) (R.mk (I 24) (J 0) (J 0) (J 0) (J 0) .bad .bad .bad) b8 b8 b8 b8 b8) : Tr AV 2))),
  (56, .cells false false 21 (.c2 ((R.mk (R.mk (J 0) (J 0) (J 0) (J 0) (J 0) (J 0) (J 0) (J 0)) (R.mk (J 0) (J 0) (I 10) (J 0) (J 0) (J 0) (I 22) (I 23)) (R.mk (I 24) (I 25) (J 0) (J 0) (J 0) .bad .bad .bad) b8 b8 b8 b8 b8) : Tr AV 2)))])
def stC6 (lo hi : Nat) : List (Nat × Blk) := Nn lo hi fun w _z => (8, .cells false true 9 (.c2 ((R.mk (R.mk (O 9 22 6) (O 10 21 1) (I 14) (I 21) (.map 200) (.ptr 11 0) (O 12 1 1) (O 13 14 1)) (R.mk s .bad .bad .bad .bad .bad .bad .bad) b8 b8 b8 b8 b8 b8) : Tr AV 2))) :: (base ++ [
  (45, .cells false true 3 (.c1 ((R.mk (.bool true) (O 48 25 4) (O 49 25 1) .bad .bad .bad .bad .bad) : Tr AV 1))),
  (46, .cells false false 2 (.c1 ((R.mk (I 15) (.ptr 50 0) .bad .bad .bad .bad .bad .bad) : Tr AV 1))),
  (47, .cells false true 3 (.c1 ((R.mk (O 51 1 3) (J 0) (J 0) .bad .bad .bad .bad .bad) : Tr AV 1))),
  (48, .cells false false 100 (.c3 ((R.mk (R.mk (R.mk (I 4) (I 0) (.str 4 1668248176) .nils (I 4) (I 1) (.str 4 1668248176) .nils) (R.mk (I 4) (I 2) (.str 4 1668248176) .nils (I 4) (I 3) (.str 4 1668248176) .nils) (R.mk (I 4) (I 4) (.str 4 1668248176) .nils (I 4) (I 5) (.str 4 1668248176) .nils) (R.mk (I 4) (I 6) (.str 4 1668248176) .nils (I 4) (I 7) (.str 4 1668248176) .nils) (R.mk (I 4) (I 8) (.str 4 1668248176) .nils (I 4) (I 9) (.str 4 1668248176) .nils) (R.mk (I 0) (I 10) (.str 0 0) .nils (I 0) (I 11) (.str 0 0) .nils) (R.mk (I 0) (I 12) (.str 0 0) .nils (I 0) (I 13) (.str 0 0) .nils) (R.mk (I 2) (I 0) (.str 7 28554821303361894) .nils (I 2) (I 0) (.str 4 1701869940) .nils)) (R.mk (R.mk (I 2) (I 0) (.str 5 521644110433) .nils (I 2) (I 0) (.str 5 435526984050) .nils) (R.mk (I 2) (I 0) (.str 7 32479991798327412) .nils (I 2) (I 0) (.str 5 461228831859) .nils) (R.mk (I 2) (I 0) (.str 6 133532402673005) .nils (I 2) (I 0) (.str 4 1735290732) .nils) (R.mk (I 4) (I 10) (.str 4 1668248176) .nils (I 1) (w 0) (.str 0 0) .nils) (R.mk (I 2) (I 0) (.str 4 1702195828) .nils .bad .bad .bad .bad) b8 b8 b8) b64 b64 b64 b64 b64 b64) : Tr AV 3))),
  (49, .cells false false 25 (.c2 ((R.mk (R.mk (I 0) (I 1) (I 2) (I 3) (I 4) (I 5) (I 6) (I 7)) (R.mk (I 8) (I 9) (I 10) (I 11) (I 12) (I 13) (I 14) (I 15)) (R.mk (I 16) (I 17) (I 18) (I 19) (I 20) (I 21) (I 22) (I 23)) (R.mk (I 24) .bad .bad .bad .bad .bad .bad .bad) b8 b8 b8 b8) : Tr AV 2))),
  (50, .cells false true 1 (.c1 ((R.mk (O 52 21 1) .bad .bad .bad .bad .bad .bad .bad) : Tr AV 1))),
  (51, .cells false false 3 (.c1 ((R.mk (I 12) (.ptr 53 0) (.bool false) .bad .bad .bad .bad .bad) : Tr AV 1))),
  (52, .cells false false 21 (.c2 ((R.mk (R.mk (J 0) (J 0) (J 0) (J 0) (J 0) (J 0) (J 0) (J 0)) (R.mk (J 0) (J 0) (I 10) (J 0) (J 0) (J 0) (I 22) (J 0)) (R.mk (J 0) (J 0) (J 0) (J 0) (J 0) .bad .bad .bad) b8 b8 b8 b8 b8) : Tr AV 2))),
  (53, .cells false true 1 (.c1 ((R.mk (O 54 21 1) .bad .bad .bad .bad .bad .bad .bad) : Tr AV 1))),
  (54, .cells false false 21 (.c2 ((R.mk (R.mk (J 0) (J 0) (J 0) (J 0) (J 0) (J 0) (J 0) (J 0)) (R.mk (J 0) (J 0) (I 10) (J 0) (J 0) (J 0) (I 22) (I 23)) (R.mk (I 24) (J 0) (J 0) (J 0) (J 0) .bad .bad .bad) b8 b8 b8 b8 b8) : Tr AV 2)))])
def stC7 (lo hi : Nat) : List (Nat × Blk) := Nn lo hi fun w _z => (8, .cells false true 9 (.c2 ((R.mk (R.mk (O 9 22 6) (O 10 21 1) (I 14) (I 21) (.map 200) (.ptr 11 0) (O 12 1 1) (O 13 14 1)) (R.mk s .bad .bad .bad .bad .bad .bad .bad) b8 b8 b8 b8 b8 b8) : Tr AV 2))) :: (base ++ [
  (45, .cells false true 3 (.c1 ((R.mk (.bool true) (O 48 24 4) (O 49 24 1) .bad .bad .bad .bad .bad) : Tr AV 1))),
  (46, .cells false false 2 (.c1 ((R.mk (I 15) (.ptr 50 0) .bad .bad .bad .bad .bad .bad) : Tr AV 1))),
  (47, .cells false true 3 (.c1 ((R.mk (O 51 1 3) (J 0) (J 0) .bad .bad .bad .bad .bad) : Tr AV 1))),
  (48, .cells false false 96 (.c3 ((R.mk (R.mk (R.mk (I 4) (I 0) (.str 4 1668248176) .nils (I 4) (I 1) (.str 4 1668248176) .nils) (R.mk (I 4) (I 2) (.str 4 1668248176) .nils (I 4) (I 3) (.str 4 1668248176) .nils) (R.mk (I 4) (I 4) (.str 4 1668248176) .nils (I 4) (I 5) (.str 4 1668248176) .nils) (R.mk (I 4) (I 6) (.str 4 1668248176) .nils (I 4) (I 7) (.str 4 1668248176) .nils) (R.mk (I 4) (I 8) (.str 4 1668248176) .nils (I 4) (I 9) (.str 4 1668248176) .nils) (R.mk (I 0) (I 10) (.str 0 0) .nils (I 0) (I 11) (.str 0 0) .nils) (R.mk (I 0) (I 12) (.str 0 0) .nils (I 0) (I 13) (.str 0 0) .nils) (R.mk (I 2) (I 0) (.str 7 28554821303361894) .nils (I 2) (I 0) (.str 4 1701869940) .nils)) (R.mk (R.mk (I 2) (I 0) (.str 5 521644110433) .nils (I 2) (I 0) (.str 5 435526984050) .nils) (R.mk (I 2) (I 0) (.str 7 32479991798327412) .nils (I 2) (I 0) (.str 5 461228831859) .nils) (R.mk (I 2) (I 0) (.str 6 133532402673005) .nils (I 2) (I 0) (.str 4 1735290732) .nils) (R.mk (I 4) (I 10) (.str 4 1668248176) .nils (I 1) (w 0) (.str 0 0) .nils) b8 b8 b8 b8) b64 b64 b64 b64 b64 b64) : Tr AV 3))),
  (49, .cells false false 24 (.c2 ((R.mk (R.mk (I 0) (I 1) (I 2) (I 3) (I 4) (I 5) (I 6) (I 7)) (R.mk (I 8) (I 9) (I 10) (I 11) (I 12) (I 13) (I 14) (I 15)) (R.mk (I 16) (I 17) (I 18) (I 19) (I 20) (I 21) (I 22) (I 23)) b8 b8 b8 b8 b8) : Tr AV 2))),
  (50, .cells false true 1 (.c1 ((R.mk (O 52 21 1) .bad .bad .bad .bad .bad .bad .bad) : Tr AV 1))),
  (51, .cells false false 3 (.c1 ((R.mk (I 10) (.ptr 53 0) (.bool false) .bad .bad .bad .bad .bad) : Tr AV 1))),
  (52, .cells false false 21 (.c2 ((R.mk (R.mk (J 0) (J 0) (J 0) (J 0) (J 0) (J 0) (J 0) (J 0)) (R.mk (J 0) (J 0) (I 10) (J 0) (J 0) (J 0) (I 22) (J 0)) (R.mk (J 0) (J 0) (J 0) (J 0) (J 0) .bad .bad .bad) b8 b8 b8 b8 b8) : Tr AV 2))),
  (53, .cells false true 1 (.c1 ((R.mk (O 54 21 1) .bad .bad .bad .bad .bad .bad .bad) : Tr AV 1))),
  (54, .cells false false 21 (.c2 ((R.mk (R.mk (J 0) (J 0) (J 0) (J 0) (J 0) (J 0) (J 0) (J 0)) (R.mk (J 0) (J 0) (I 10) (J 0) (J 0) (J 0) (I 22) (I 23)) (R.mk (J 0) (J 0) (J 0) (J 0) (J 0) .bad .bad .bad) b8 b8 b8 b8 b8) : Tr AV 2)))])
def stC8 (lo hi : Nat) : List (Nat × Blk) := Nn lo hi fun w _z => (8, .cells false true 9 (.c2 ((R.mk (R.mk (O 9 22 6) (O 10 21 1) (I 14) (I 21) (.map 200) (.ptr 11 0) (O 12 1 1) (O 13 14 1)) (R.mk s .bad .bad .bad .bad .bad .bad .bad) b8 b8 b8 b8 b8 b8) : Tr AV 2))) :: (base ++ [
  (45, .cells false true 3 (.c1 ((R.mk (.bool true) (O 48 25 4) (O 49 25 1) .bad .bad .bad .bad .bad) : Tr AV 1))),
  (46, .cells false false 2 (.c1 ((R.mk (I 15) (.ptr 50 0) .bad .bad .bad .bad .bad .bad) : Tr AV 1))),
  (47, .cells false true 3 (.c1 ((R.mk (O 51 1 3) (J 0) (J 0) .bad .bad .bad .bad .bad) : Tr AV 1))),
  (48, .cells false false 100 (.c3 ((R.mk (R.mk (R.mk (I 4) (I 0) (.str 4 1668248176) .nils (I 4) (I 1) (.str 4 1668248176) .nils) (R.mk (I 4) (I 2) (.str 4 1668248176) .nils (I 4) (I 3) (.str 4 1668248176) .nils) (R.mk (I 4) (I 4) (.str 4 1668248176) .nils (I 4) (I 5) (.str 4 1668248176) .nils) (R.mk (I 4) (I 6) (.str 4 1668248176) .nils (I 4) (I 7) (.str 4 1668248176) .nils) (R.mk (I 4) (I 8) (.str 4 1668248176) .nils (I 4) (I 9) (.str 4 1668248176) .nils) (R.mk (I 0) (I 10) (.str 0 0) .nils (I 0) (I 11) (.str 0 0) .nils) (R.mk (I 0) (I 12) (.str 0 0) .nils (I 0) (I 13) (.str 0 0) .nils) (R.mk (I 2) (I 0) (.str 7 28554821303361894) .nils (I 2) (I 0) (.str 4 1701869940) .nils)) (R.mk (R.mk (I 2) (I 0) (.str 5 521644110433) .nils (I 2) (I 0) (.str 5 435526984050) .nils) (R.mk (I 2) (I 0) (.str 7 32479991798327412) .nils (I 2) (I 0) (.str 5 461228831859) .nils) (R.mk (I 2) (I 0) (.str 6 133532402673005) .nils (I 2) (I 0) (.str 4 1735290732) .nils) (R.mk (I 4) (I 10) (.str 4 1668248176) .nils (I 1) (w 0) (.str 0 0) .nils) (R.mk (I 0) (I 24) (.str 0 0) .nils .bad .bad .bad .bad) b8 b8 b8) b64 b64 b64 b64 b64 b64) : Tr AV 3))),
  (49, .cells false false 25 (.c2 ((R.mk (R.mk (I 0) (I 1) (I 2) (I 3) (I 4) (I 5) (I 6) (I 7)) (R.mk (I 8) (I 9) (I 10) (I 11) (I 12) (I 13) (I 14) (I 15)) (R.mk (I 16) (I 17) (I 18) (I 19) (I 20) (I 21) (I 22) (I 23)) (R.mk (I 24) .bad .bad .bad .bad .bad .bad .bad) b8 b8 b8 b8) : Tr AV 2))),
  (50, .cells false true 1 (.c1 ((R.mk (O 52 21 1) .bad .bad .bad .bad .bad .bad .bad) : Tr AV 1))),
  (51, .cells false false 3 (.c1 ((R.mk (I 9) (.ptr 53 0) (.bool false) .bad .bad .bad .bad .bad) : Tr AV 1))),
  (52, .cells false false 21 (.c2 ((R.mk (R.mk (J 0) (J 0) (J 0) (J 0) (J 0) (J 0) (J 0) (J 0)) (R.mk (J 0) (J 0) (I 10) (J 0) (J 0) (J 0) (I 22) (J 0)) (R.mk (J 0) (J 0) (J 0) (J 0) (J 0) .bad .bad .bad) b8 b8 b8 b8 b8) : Tr AV 2))),
  (53, .cells false true 1 (.c1 ((R.mk (O 54 21 1) .bad .bad .bad .bad .bad .bad .bad) : Tr AV 1))),
  (54, .cells false false 21 (.c2 ((R.mk (R.mk (J 0) (J 0) (J 0) (J 0) (J 0) (J 0) (J 0) (J 0)) (R.mk (J 0) (J 0) (I 10) (J 0) (J 0) (J 0) (I 22) (I 23)) (R.mk (J 0) (J 0) (I 24) (J 0) (J 0) .bad .bad .bad) b8 b8 b8 b8 b8) : Tr AV 2)))])
def stC9 (lo hi : Nat) : List (Nat × Blk) := Nn lo hi fun w _z => (8, .cells false true 9 (.c2 ((R.mk (R.mk (O 9 22 6) (O 10 21 1) (I 14) (I 21) (.map 200) (.ptr 11 0) (O 12 1 1) (O 13 14 1)) (R.mk s .bad .bad .bad .bad .bad .bad .bad) b8 b8 b8 b8 b8 b8) : Tr AV 2))) :: (base ++ [
  (45, .cells false true 3 (.c1 ((R.mk (.bool true) (O 48 25 4) (O 49 25 1) .bad .bad .bad .bad .bad) : Tr AV 1))),
  (46, .cells false false 2 (.c1 ((R.mk (I 15) (.ptr 50 0) .bad .bad .bad .bad .bad .bad) : Tr AV 1))),
  (47, .cells false true 3 (.c1 ((R.mk (O 51 2 3) (J 0) (J 0) .bad .bad .bad .bad .bad) : Tr AV 1))),
  (48, .cells false false 100 (.c3 ((R.mk (R.mk (R.mk (I 4) (I 0) (.str 4 1668248176) .nils (I 4) (I 1) (.str 4 1668248176) .nils) (R.mk (I 4) (I 2) (.str 4 1668248176) .nils (I 4) (I 3) (.str 4 1668248176) .nils) (R.mk (I 4) (I 4) (.str 4 1668248176) .nils (I 4) (I 5) (.str 4 1668248176) .nils) (R.mk (I 4) (I 6) (.str 4 1668248176) .nils (I 4) (I 7) (.str 4 1668248176) .nils) (R.mk (I 4) (I 8) (.str 4 1668248176) .nils (I 4) (I 9) (.str 4 1668248176) .nils) (R.mk (I 0) (I 10) (.str 0 0) .nils (I 0) (I 11) (.str 0 0) .nils) (R.mk (I 0) (I 12) (.str 0 0) .nils (I 0) (I 13) (.str 0 0) .nils) (R.mk (I 2) (I 0) (.str 7 28554821303361894) .nils (I 2) (I 0) (.str 4 1701869940) .nils)) (R.mk (R.mk (I 2) (I 0) (.str 5 521644110433) .nils (I 2) (I 0) (.str 5 435526984050) .nils) (R.mk (I 2) (I 0) (.str 7 32479991798327412) .nils (I 2) (I 0) (.str 5 461228831859) .nils) (R.mk (I 2) (I 0) (.str 6 133532402673005) .nils (I 2) (I 0) (.str 4 1735290732) .nils) (R.mk (I 4) (I 10) (.str 4 1668248176) .nils (I 1) (w 0) (.str 0 0) .nils) (R.mk (I 0) (I 24) (.str 0 0) .nils .bad .bad .bad .bad) b8 b8 b8) b64 b64 b64 b64 b64 b64) : Tr AV 3))),
  (49, .cells false false 25 (.c2 ((R.mk (R.mk (I 0) (I 1) (I 2) (I 3) (I 4) (I 5) (I 6) (I 7)) (R.mk (I 8) (I 9) (I 10) (I 11) (I 12) (I 13) (I 14) (I 15)) (R.mk (I 16) (I 17) (I 18) (I 19) (I 20) (I 21) (I 22) (I 23)) (R.mk (I 24) .bad .bad .bad .bad .bad .bad .bad) b8 b8 b8 b8) : Tr AV 2))),
  (50, .cells false true 1 (.c1 ((R.mk (O 52 21 1) .bad .bad .bad .bad .bad .bad .bad) : Tr AV 1))),
  (51, .cells false false 6 (.c1 ((R.mk (I 8) (.ptr 53 0) (.bool false) (I 7) (.ptr 53 0) (.bool false) .bad .bad) : Tr AV 1))),
  (52, .cells false false 21 (.c2 ((R.mk (R.mk (J 0) (J 0) (J 0) (J 0) (J 0) (J 0) (J 0) (J 0)) (R.mk (J 0) (J 0) (I 10) (J 0) (J 0) (J 0) (I 22) (J 0)) (R.mk (J 0) (J 0) (J 0) (J 0) (J 0) .bad .bad .bad) b8 b8 b8 b8 b8) : Tr AV 2))),
  (53, .cells false true 1 (.c1 ((R.mk (O 54 21 1) .bad .bad .bad .bad .bad .bad .bad) : Tr AV 1))),
  (54, .cells false false 21 (.c2 ((R.mk (R.mk (J 0) (J 0) (J 0) (J 0) (J 0) (J 0) (J 0) (J 0)) (R.mk (J 0) (J 0) (I 10) (J 0) (J 0) (J 0) (I 22) (I 23)) (R.mk (J 0) (J 0) (I 24) (J 0) (J 0) .bad .bad .bad) b8 b8 b8 b8 b8) : Tr AV 2)))])
def stC10 (lo hi : Nat) : List (Nat × Blk) := Nn lo hi fun w _z => (8, .cells false true 9 (.c2 ((R.mk (R.mk (O 9 22 6) (O 10 21 1) (I 14) (I 21) (.map 200) (.ptr 11 0) (O 12 1 1) (O 13 14 1)) (R.mk s .bad .bad .bad .bad .bad .bad .bad) b8 b8 b8 b8 b8 b8) : Tr AV 2))) :: (base ++ [
  (45, .cells false true 3 (.c1 ((R.mk (.bool true) (O 48 26 4) (O 49 26 1) .bad .bad .bad .bad .bad) : Tr AV 1))),
  (46, .cells false false 2 (.c1 ((R.mk (I 15) (.ptr 50 0) .bad .bad .bad .bad .bad .bad) : Tr AV 1))),
  (47, .cells false true 3 (.c1 ((R.mk (O 51 2 3) (J 0) (J 0) .bad .bad .bad .bad .bad) : Tr AV 1))),
  (48, .cells false false 104 (.c3 ((R.mk (R.mk (R.mk (I 4) (I 0) (.str 4 1668248176) .nils (I 4) (I 1) (.str 4 1668248176) .nils) (R.mk (I 4) (I 2) (.str 4 1668248176) .nils (I 4) (I 3) (.str 4 1668248176) .nils) (R.mk (I 4) (I 4) (.str 4 1668248176) .nils (I 4) (I 5) (.str 4 1668248176) .nils) (R.mk (I 4) (I 6) (.str 4 1668248176) .nils (I 4) (I 7) (.str 4 1668248176) .nils) (R.mk (I 4) (I 8) (.str 4 1668248176) .nils (I 4) (I 9) (.str 4 1668248176) .nils) (R.mk (I 0) (I 10) (.str 0 0) .nils (I 0) (I 11) (.str 0 0) .nils) (R.mk (I 0) (I 12) (.str 0 0) .nils (I 0) (I 13) (.str 0 0) .nils) (R.mk (I 2) (I 0) (.str 7 28554821303361894) .nils (I 2) (I 0) (.str 4 1701869940) .nils)) (R.mk (R.mk (I 2) (I 0) (.str 5 521644110433) .nils (I 2) (I 0) (.str 5 435526984050) .nils) (R.mk (I 2) (I 0) (.str 7 32479991798327412) .nils (I 2) (I 0) (.str 5 461228831859) .nils) (R.mk (I 2) (I 0) (.str 6 133532402673005) .nils (I 2) (I 0) (.str 4 1735290732) .nils) (R.mk (I 4) (I 10) (.str 4 1668248176) .nils (I 1) (w 0) (.str 0 0) .nils) (R.mk (I 0) (I 24) (.str 0 0) .nils (I 0) (I 25) (.str 0 0) .nils) b8 b8 b8) b64 b64 b64 b64 b64 b64) : Tr AV 3))),
  (49, .cells false false 26 (.c2 ((R.mk (R.mk (I 0) (I 1) (I 2) (I 3) (I 4) (I 5) (I 6) (I 7)) (R.mk (I 8) (I 9) (I 10) (I 11) (I 12) (I 13) (I 14) (I 15)) (R.mk (I 16) (I 17) (I 18) (I 19) (I 20) (I 21) (I 22) (I 23)) (R.mk (I 24) (I 25) .bad .bad .bad .bad .bad .bad) b8 b8 b8 b8) : Tr AV 2))),
  (50, .cells false true 1 (.c1 ((R.mk (O 52 21 1) .bad .bad .bad .bad .bad .bad .bad) : Tr AV 1))),
  (51, .cells false false 6 (.c1 ((R.mk (I 8) (.ptr 53 0) (.bool false) (I 6) (.ptr 54 0) (.bool false) .bad .bad) : Tr AV 1))),
  (52, .cells false false 21 (.c2 ((R.mk (R.mk (J 0) (J 0) (J 0) (J 0) (J 0) (J 0) (J 0) (J 0)) (R.mk (J 0) (J 0) (I 10) (J 0) (J 0) (J 0) (I 22) (J 0)) (R.mk (J 0) (J 0) (J 0) (J 0) (J 0) .bad .bad .bad) b8 b8 b8 b8 b8) : Tr AV 2))),
  (53, .cells false true 1 (.c1 ((R.mk (O 55 21 1) .bad .bad .bad .bad .bad .bad .bad) : Tr AV 1))),
  (54, .cells false true 1 (.c1 ((R.mk (O 56 21 1) .bad .bad .bad .bad .bad .bad .bad) : Tr AV 1))),
  (55, .cells false false 21 (.c2 ((R.mk (R.mk (J 0) (J 0) (J 0) (J 0) (J 0) (J 0) (J 0) (J 0)) (R.mk (J 0) (J 0) (I 10) (J 0) (J 0) (J 0) (I 22) (I 23)) (R.mk (J 0) (J 0) (I 24) (J 0) (J 0) .bad .bad .bad) b8 b8 b8 b8 b8) : Tr AV 2))),
  (56, .cells false false 21 (.c2 ((R.mk (R.mk (J 0) (J 0) (J 0) (J 0) (J 0) (J 0) (J 0) (J 0)) (R.mk (J 0) (J 0) (I 10) (J 0) (J 0) (J 0) (I 22) (I 23)) (R.mk (J 0) (J 0) (I 24) (I 25) (J 0) .bad .bad .bad) b8 b8 b8 b8 b8) : Tr AV 2)))])
def stC11 (lo hi : Nat) : List (Nat × Blk) := Nn lo hi fun w _z => (8, .cells false true 9 (.c2 ((R.mk (R.mk (O 9 22 6) (O 10 21 1) (I 14) (I 21) (.map 200) (.ptr 11 0) (O 12 1 1) (O 13 14 1)) (R.mk s .bad .bad .bad .bad .bad .bad .bad) b8 b8 b8 b8 b8 b8) : Tr AV 2))) :: (base ++ [
  (45, .cells false true 3 (.c1 ((R.mk (.bool true) (O 48 26 4) (O 49 26 1) .bad .bad .bad .bad .bad) : Tr AV 1))),
  (46, .cells false false 2 (.c1 ((R.mk (I 15) (.ptr 50 0) .bad .bad .bad .bad .bad .bad) : Tr AV 1))),
  (47, .cells false true 3 (.c1 ((R.mk (O 51 3 3) (J 0) (J 0) .bad .bad .bad .bad .bad) : Tr AV 1))),
  (48, .cells false false 104 (.c3 ((R.mk (R.mk (R.mk (I 4) (I 0) (.str 4 1668248176) .nils (I 4) (I 1) (.str 4 1668248176) .nils) (R.mk (I 4) (I 2) (.str 4 1668248176) .nils (I 4) (I 3) (.str 4 1668248176) .nils) (R.mk (I 4) (I 4) (.str 4 1668248176) .nils (I 4) (I 5) (.str 4 1668248176) .nils) (R.mk (I 4) (I 6) (.str 4 1668248176) .nils (I 4) (I 7) (.str 4 1668248176) .nils) (R.mk (I 4) (I 8) (.str 4 1668248176) .nils (I 4) (I 9) (.str 4 1668248176) .nils) (R.mk (I 0) (I 10) (.str 0 0) .nils (I 0) (I 11) (.str 0 0) .nils) (R.mk (I 0) (I 12) (.str 0 0) .nils (I 0) (I 13) (.str 0 0) .nils) (R.mk (I 2) (I 0) (.str 7 28554821303361894) .nils (I 2) (I 0) (.str 4 1701869940) .nils)) (R.mk (R.mk (I 2) (I 0) (.str 5 521644110433) .nils (I 2) (I 0) (.str 5 435526984050) .nils) (R.mk (I 2) (I 0) (.str 7 32479991798327412) .nils (I 2) (I 0) (.str 5 461228831859) .nils) (R.mk (I 2) (I 0) (.str 6 133532402673005) .nils (I 2) (I 0) (.str 4 1735290732) .nils) (R.mk (I 4) (I 10) (.str 4 1668248176) .nils (I 1) (w 0) (.str 0 0) .nils) (R.mk (I 0) (I 24) (.str 0 0) .nils (I 0) (I 25) (.str 0 0) .nils) b8 b8 b8) b64 b64 b64 b64 b64 b64) : Tr AV 3))),
  (49, .cells false false 26 (.c2 ((R.mk (R.mk (I 0) (I 1) (I 2) (I 3) (I 4) (I 5) (I 6) (I 7)) (R.mk (I 8) (I 9) (I 10) (I 11) (I 12) (I 13) (I 14) (I 15)) (R.mk (I 16) (I 17) (I 18) (I 19) (I 20) (I 21) (I 22) (I 23)) (R.mk (I 24) (I 25) .bad .bad .bad .bad .bad .bad) b8 b8 b8 b8) : Tr AV 2))),
  (50, .cells false true 1 (.c1 ((R.mk (O 52 21 1) .bad .bad .bad .bad .bad .bad .bad) : Tr AV 1))),
  (51, .cells false false 9 (.c2 ((R.mk (R.mk (I 8) (.ptr 53 0) (.bool false) (I 5) (.ptr 54 0) (.bool false) (I 4) (.ptr 54 0)) (R.mk (.bool false) .bad .bad .bad .bad .bad .bad .bad) b8 b8 b8 b8 b8 b8) : Tr AV 2))),
  (52, .cells false false 21 (.c2 ((R.mk (R.mk (J 0) (J 0) (J 0) (J 0) (J 0) (J 0) (J 0) (J 0)) (R.mk (J 0) (J 0) (I 10) (J 0) (J 0) (J 0) (I 22) (J 0)) (R.mk (J 0) (J 0) (J 0) (J 0) (J 0) .bad .bad .bad) b8 b8 b8 b8 b8) : Tr AV 2))),
  (53, .cells false true 1 (.c1 ((R.mk (O 55 21 1) .bad .bad .bad .bad .bad .bad .bad) : Tr AV 1))),
  (54, .cells false true 1 (.c1 ((R.mk (O 56 21 1) .bad .bad .bad .bad .bad .bad .bad) : Tr AV 1))),
  (55, .cells false false 21 (.c2 ((R.mk (R.mk (J 0) (J 0) (J 0) (J 0) (J 0) (J 0) (J 0) (J 0)) (R.mk (J 0) (J 0) (I 10) (J 0) (J 0) (J 0) (I 22) (I 23)) (R.mk (J 0) (J 0) (I 24) (J 0) (J 0) .bad .bad .bad) b8 b8 b8 b8 b8) : Tr AV 2))),
  (56, .cells false false 21 (.c2 ((R.mk (R.mk (J 0) (J 0) (J 0) (J 0) (J 0) (J 0) (J 0) (J 0)) (R.mk (J 0) (J 0) (I 10) (J 0) (J 0) (J 0) (I 22) (I 23)) (R.mk (J 0) (J 0) (I 24) (I 25) (J 0) .bad .bad .bad) b8 b8 b8 b8 b8) : Tr AV 2)))])
def stC12 (lo hi : Nat) : List (Nat × Blk) := Nn lo hi fun w _z => (8, .cells false true 9 (.c2 ((R.mk (R.mk (O 9 22 6) (O 10 21 1) (I 14) (I 21) (.map 200) (.ptr 11 0) (O 12 1 1) (O 13 14 1)) (R.mk s .bad .bad .bad .bad .bad .bad .bad) b8 b8 b8 b8 b8 b8) : Tr AV 2))) :: (base ++ [
  (45, .cells false true 3 (.c1 ((R.mk (.bool true) (O 48 26 4) (O 49 26 1) .bad .bad .bad .bad .bad) : Tr AV 1))),
  (46, .cells false false 2 (.c1 ((R.mk (I 15) (.ptr 50 0) .bad .bad .bad .bad .bad .bad) : Tr AV 1))),
  (47, .cells false true 3 (.c1 ((R.mk (O 51 2 3) (J 0) (J 0) .bad .bad .bad .bad .bad) : Tr AV 1))),
  (48, .cells false false 104 (.c3 ((R.mk (R.mk (R.mk (I 4) (I 0) (.str 4 1668248176) .nils (I 4) (I 1) (.str 4 1668248176) .nils) (R.mk (I 4) (I 2) (.str 4 1668248176) .nils (I 4) (I 3) (.str 4 1668248176) .nils) (R.mk (I 4) (I 4) (.str 4 1668248176) .nils (I 4) (I 5) (.str 4 1668248176) .nils) (R.mk (I 4) (I 6) (.str 4 1668248176) .nils (I 4) (I 7) (.str 4 1668248176) .nils) (R.mk (I 4) (I 8) (.str 4 1668248176) .nils (I 4) (I 9) (.str 4 1668248176) .nils) (R.mk (I 0) (I 10) (.str 0 0) .nils (I 0) (I 11) (.str 0 0) .nils) (R.mk (I 0) (I 12) (.str 0 0) .nils (I 0) (I 13) (.str 0 0) .nils) (R.mk (I 2) (I 0) (.str 7 28554821303361894) .nils (I 2) (I 0) (.str 4 1701869940) .nils)) (R.mk (R.mk (I 2) (I 0) (.str 5 521644110433) .nils (I 2) (I 0) (.str 5 435526984050) .nils) (R.mk (I 2) (I 0) (.str 7 32479991798327412) .nils (I 2) (I 0) (.str 5 461228831859) .nils) (R.mk (I 2) (I 0) (.str 6 133532402673005) .nils (I 2) (I 0) (.str 4 1735290732) .nils) (R.mk (I 4) (I 10) (.str 4 1668248176) .nils (I 1) (w 0) (.str 0 0) .nils) (R.mk (I 0) (I 24) (.str 0 0) .nils (I 1) (I 1) (.str 0 0) .nils) b8 b8 b8) b64 b64 b64 b64 b64 b64) : Tr AV 3))),
  (49, .cells false false 26 (.c2 ((R.mk (R.mk (I 0) (I 1) (I 2) (I 3) (I 4) (I 5) (I 6) (I 7)) (R.mk (I 8) (I 9) (I 10) (I 11) (I 12) (I 13) (I 14) (I 15)) (R.mk (I 16) (I 17) (I 18) (I 19) (I 20) (I 21) (I 22) (I 23)) (R.mk (I 24) (I 25) .bad .bad .bad .bad .bad .bad) b8 b8 b8 b8) : Tr AV 2))),
  (50, .cells false true 1 (.c1 ((R.mk (O 52 21 1) .bad .bad .bad .bad .bad .bad .bad) : Tr AV 1))),
  (51, .cells false false 6 (.c1 ((R.mk (I 8) (.ptr 53 0) (.bool false) (I 5) (.ptr 54 0) (.bool false) .bad .bad) : Tr AV 1))),
  (52, .cells false false 21 (.c2 ((R.mk (R.mk (J 0) (J 0) (J 0) (J 0) (J 0) (J 0) (J 0) (J 0)) (R.mk (J 0) (J 0) (I 10) (J 0) (J 0) (J 0) (I 22) (J 0)) (R.mk (J 0) (J 0) (J 0) (J 0) (J 0) .bad .bad .bad) b8 b8 b8 b8 b8) : Tr AV 2))),
  (53, .cells false true 1 (.c1 ((R.mk (O 55 21 1) .bad .bad .bad .bad .bad .bad .bad) : Tr AV 1))),
  (54, .cells false true 1 (.c1 ((R.mk (O 56 21 1) .bad .bad .bad .bad .bad .bad .bad) : Tr AV 1))),
  (55, .cells false false 21 (.c2 ((R.mk (R.mk (J 0) (J 0) (J 0) (J 0) (J 0) (J 0) (J 0) (J 0)) (R.mk (J 0) (J 0) (I 10) (J 0) (J 0) (J 0) (I 22) (I 23)) (R.mk (J 0) (J 0) (I 24) (J 0) (J 0) .bad .bad .bad) b8 b8 b8 b8 b8) : Tr AV 2))),
  (56, .cells false false 21 (.c2 ((R.mk (R.mk (J 0) (J 0) (J 0) (J 0) (J 0) (J 0) (J 0) (J 0)) (R.mk (J 0) (J 0) (I 10) (J 0) (J 0) (J 0) (I 22) (I 23)) (R.mk (J 0) (J 0) (I 24) (I 25) (J 0) .bad .bad .bad) b8 b8 b8 b8 b8) : Tr AV 2)))])
def stC13 (lo hi : Nat) : List (Nat × Blk) := Nn lo hi fun _w z => (8, .cells false true 9 (.c2 ((R.mk (R.mk (O 9 22 6) (O 10 21 1) (I 14) (I 21) (.map 200) (.ptr 11 0) (O 12 1 1) (O 13 14 1)) (R.mk s .bad .bad .bad .bad .bad .bad .bad) b8 b8 b8 b8 b8 b8) : Tr AV 2))) :: (base ++ [
  (45, .cells false true 3 (.c1 ((R.mk (.bool true) (O 48 24 4) (O 49 24 1) .bad .bad .bad .bad .bad) : Tr AV 1))),
  (46, .cells false false 2 (.c1 ((R.mk (I 15) (.ptr 50 0) .bad .bad .bad .bad .bad .bad) : Tr AV 1))),
  (47, .cells false true 3 (.c1 ((R.mk (O 51 1 3) (J 0) (J 0) .bad .bad .bad .bad .bad) : Tr AV 1))),
  (48, .cells false false 96 (.c3 ((R.mk (R.mk (R.mk (I 4) (I 0) (.str 4 1668248176) .nils (I 4) (I 1) (.str 4 1668248176) .nils) (R.mk (I 4) (I 2) (.str 4 1668248176) .nils (I 4) (I 3) (.str 4 1668248176) .nils) (R.mk (I 4) (I 4) (.str 4 1668248176) .nils (I 4) (I 5) (.str 4 1668248176) .nils) (R.mk (I 4) (I 6) (.str 4 1668248176) .nils (I 4) (I 7) (.str 4 1668248176) .nils) (R.mk (I 4) (I 8) (.str 4 1668248176) .nils (I 4) (I 9) (.str 4 1668248176) .nils) (R.mk (I 0) (I 10) (.str 0 0) .nils (I 0) (I 11) (.str 0 0) .nils) (R.mk (I 0) (I 12) (.str 0 0) .nils (I 0) (I 13) (.str 0 0) .nils) (R.mk (I 2) (I 0) (.str 7 28554821303361894) .nils (I 2) (I 0) (.str 4 1701869940) .nils)) (R.mk (R.mk (I 2) (I 0) (.str 5 521644110433) .nils (I 2) (I 0) (.str 5 435526984050) .nils) (R.mk (I 2) (I 0) (.str 7 32479991798327412) .nils (I 2) (I 0) (.str 5 461228831859) .nils) (R.mk (I 2) (I 0) (.str 6 133532402673005) .nils (I 2) (I 0) (.str 4 1735290732) .nils) (R.mk (I 4) (I 10) (.str 4 1668248176) .nils (I 1) (z 0) (.str 0 0) .nils) b8 b8 b8 b8) b64 b64 b64 b64 b64 b64) : Tr AV 3))),
  (49, .cells false false 24 (.c2 ((R.mk (R.mk (I 0) (I 1) (I 2) (I 3) (I 4) (I 5) (I 6) (I 7)) (R.mk (I 8) (I 9) (I 10) (I 11) (I 12) (I 13) (I 14) (I 15)) (R.mk (I 16) (I 17) (I 18) (I 19) (I 20) (I 21) (I 22) (I 23)) b8 b8 b8 b8 b8) : Tr AV 2))),
  (50, .cells false true 1 (.c1 ((R.mk (O 52 21 1) .bad .bad .bad .bad .bad .bad .bad) : Tr AV 1))),
  (51, .cells false false 3 (.c1 ((R.mk (I 8) (.ptr 53 0) (.bool false) .bad .bad .bad .bad .bad) : Tr AV 1))),
  (52, .cells false false 21 (.c2 ((R.mk (R.mk (J 0) (J 0) (J 0) (J 0) (J 0) (J 0) (J 0) (J 0)) (R.mk (J 0) (J 0) (I 10) (J 0) (J 0) (J 0) (I 22) (J 0)) (R.mk (J 0) (J 0) (J 0) (J 0) (J 0) .bad .bad .bad) b8 b8 b8 b8 b8) : Tr AV 2))),
  (53, .cells false true 1 (.c1 ((R.mk (O 54 21 1) .bad .bad .bad .bad .bad .bad .bad) : Tr AV 1))),
  (54, .cells false false 21 (.c2 ((R.mk (R.mk (J 0) (J 0) (J 0) (J 0) (J 0) (J 0) (J 0) (J 0)) (R.mk (J 0) (J 0) (I 10) (J 0) (J 0) (J 0) (I 22) (J 0)) (R.mk (J 0) (J 0) (I 23) (J 0) (J 0) .bad .bad .bad) b8 b8 b8 b8 b8) : Tr AV 2)))])
def K1 (a b c : AV) (_n : Nat) : Cells := .c1 (R.mk a b c .bad .bad .bad .bad .bad : Tr AV 1)
/-- The statements whose free names are known, in the order in which they were asked for. -/
def freeL : Nat → List Nat
  | 0 => [17]
  | 1 => [15, 16, 17]
  | 2 => [15, 16, 17]
  | 3 => [15, 16]
  | 4 => [19]
  | 5 => [15, 18, 19]
  | 6 => [15, 18, 19]
  | 7 => [15, 18]
  | 8 => [14, 18]
  | 9 => [14, 15, 18]
  | 10 => [14, 15]
  | 11 => [10, 15]
  | 12 => [10, 14, 15, 16]
  | 13 => [10, 14, 15, 16]
  | 14 => [10, 14, 15]
  | _ => []
def mkC1 (l : List Nat) : Cells := match l with
  | [a] => .c1 (R.mk (I a) .bad .bad .bad .bad .bad .bad .bad : Tr AV 1)
  | [a, b] => .c1 (R.mk (I a) (I b) .bad .bad .bad .bad .bad .bad : Tr AV 1)
  | [a, b, c] => .c1 (R.mk (I a) (I b) (I c) .bad .bad .bad .bad .bad : Tr AV 1)
  | [a, b, c, d] => .c1 (R.mk (I a) (I b) (I c) (I d) .bad .bad .bad .bad : Tr AV 1)
  | _ => .c1 b8
def capE : Nat → List Nat → Ents
  | _, [] => .nil
  | j, s :: l => .cons (I s) (O (201 + j) (freeL s).length 1) j (capE (j + 1) l)
def capB : Nat → List Nat → List (Nat × Blk)
  | _, [] => []
  | j, s :: l => (201 + j, .cells false false (freeL s).length (mkC1 (freeL s))) :: capB (j + 1) l
/-- What Free has learnt. -/
def cap (l : List Nat) : List (Nat × Blk) := (200, .map (capE 0 l) l.length) :: capB 0 l
end
end Ev
namespace Ev
open Go Go.Proofs
noncomputable def root3 : Code := (Tryz.f3.body).getD .skip
noncomputable def cAt (p : List Nat) : Code := (codeAt root3 p).getD .skip
abbrev pA : List Nat := [1, 1, 1, 1, 1, 0, 1, 0, 0, 0]
abbrev p9 : List Nat := [1, 1, 1, 1, 1, 0, 1, 0, 0, 1, 0, 0, 0]
abbrev p10 : List Nat := [1, 1, 1, 1, 1, 0, 1, 0, 0, 1, 0, 0, 1, 0, 0]
abbrev pC : List Nat := [1, 1, 1, 1, 1, 0, 1, 0, 0, 1, 0, 0, 1, 0, 1]
abbrev pD : List Nat := [1, 1, 1, 1, 1, 0, 1, 0, 0, 1, 0, 0, 1, 1]
abbrev p8 : List Nat := [1, 1, 1, 1, 1, 0, 1, 0, 0, 1, 1]
noncomputable def Fo : Orac := orac (tbl 1000000) (rtbl 1000000) 3000 false
noncomputable def Go_ : Orac := orac (tbl 1000000) (rtbl 1000000) 3000 true
noncomputable def Xo : Side := sideOf Tryz.prog calmC Fo Go_ 3 1000000
noncomputable def kF : Kont := fun _ _ _ => false
noncomputable def evo (p : List Nat) (an : An) (env : List AV) (H : Heap) (n : Nat) (k : Kont) : Bool := evCode Tryz.prog Fo Go_ Xo (cAt p) an p env H n [] kF k
noncomputable def isDead (b : Blk) (x : Bool) : Bool := Blk.rec (motive := fun _ => Bool) x (fun _ _ _ _ => false) (fun _ _ => false) (fun _ _ _ _ => false) (fun _ _ _ => false) false (fun _ _ _ _ _ _ _ _ => false) b
noncomputable def allDead (H : Heap) : List Nat → Bool → Bool
  | [], x => x
  | i :: l, x => at_ H i fun b => isDead b (allDead H l x)
noncomputable def deadIf (d : Bool) (H : Heap) (x : Bool) : Bool := Bool.rec (motive := fun _ => Bool) x (allDead H [200, 201, 202, 203, 204, 205, 206, 207, 208, 209, 210, 211, 212, 213, 214, 215] x) d
noncomputable def b40 (l : List AV) : List AV := .bad :: .bad :: .bad :: .bad :: .bad :: .bad :: .bad :: .bad :: .bad :: .bad :: .bad :: .bad :: .bad :: .bad :: .bad :: .bad :: .bad :: .bad :: .bad :: .bad :: .bad :: .bad :: .bad :: .bad :: .bad :: .bad :: .bad :: .bad :: .bad :: .bad :: .bad :: .bad :: .bad :: .bad :: .bad :: .bad :: .bad :: l
/-- The temporaries: those at 1, 7, 9, 10 and 48 to 54. -/
noncomputable def mid (a1 a7 a9 a10 c48 c49 c50 c51 c52 c53 c54 : AV) : List AV :=
  .bad :: a1 :: .bad :: .bad :: .bad :: .bad :: .bad :: a7 :: .bad :: a9 :: a10 :: b40 (c48 :: c49 :: c50 :: c51 :: c52 :: c53 :: c54 :: b40 (.bad :: .bad :: .bad :: .bad :: .bad :: .bad :: .bad :: .bad :: .bad :: .bad :: .bad :: .bad :: .bad :: .bad :: .bad :: .bad :: .bad :: []))
noncomputable def mids (a1 a7 a9 a10 c54 : AV) : List AV := mid a1 a7 a9 a10 .bad .bad .bad .bad .bad .bad c54
noncomputable def midK (v10 : AV) (env : List AV) (k : AV → AV → Bool) : Bool :=
  ifB (Nat.beq env.length 109) (getK env 10 fun a => ifB (sameF 8 a v10) (getK env 1 fun b => ifB (sameF 8 b (.opq 4)) (getK env 7 fun v7 => getK env 9 fun v9 => k v7 v9)))
noncomputable def bodyK (d cb : Bool) (v10 : AV) (env : List AV) (H : Heap) (n : Nat) (k : Kont) : Bool :=
  evo pA (.two .leaf (.two .leaf .leaf)) env H n fun env H n => deadIf d H (
  evo p9 .leaf env H n fun env H n => deadIf d H (
  midK v10 env fun v7 v9 =>
  evo pC (.two (.two .leaf (.two (.two .leaf (.two .stop .leaf)) .leaf)) .leaf) (mids (.opq 4) v7 v9 v10 (.bool cb)) H n fun env H n => deadIf d H (
  evo pD (.two .leaf (.two .stop .leaf)) env H n fun env H n => deadIf d H (
  evo p8 .leaf env H n fun env H n => deadIf d H (k env H n)))))
noncomputable def iAt (c : Nat) : AV := .sym (.int 2 0 4000 (.ofNat c))
/-- So many rounds without a collection, i being so much more than at the start. -/
noncomputable def runK (d : Bool) : Nat → Nat → List AV → Heap → Nat → Kont → Bool
  | 0, _, env, H, n, k => k env H n
  | m + 1, c, env, H, n, k => bodyK d false (iAt c) env H n fun env H n => runK d m (c + 1) env H n k
noncomputable def colK (c : Nat) (env : List AV) (H : Heap) (n : Nat) (k : Kont) : Bool := runK false c 0 env H n fun env H n => bodyK false true (iAt c) env H n k
noncomputable def env0 : List AV := mids (.opq 4) (.ptr 8 0) (I 22) i0 .bad
end Ev
namespace Ev
open Go Go.Proofs
abbrev pR : List Nat := [1, 1, 1, 1, 1, 1]
noncomputable def kRet : Kont := fun env _ _ => getK env 4 fun v => v.ckBool fun b => b
/-- The loop is left, the rest answers true. -/
noncomputable def endK (env : List AV) (H : Heap) (n : Nat) : Bool :=
  evCode Tryz.prog Fo Go_ Xo (cAt pA) (.two .leaf (.two .leaf .leaf)) pA env H n [(0, fun env H n => evCode Tryz.prog Fo Go_ Xo (cAt pR) (.two .leaf (.two .leaf (.two .leaf .leaf))) pR env H n [] kRet kF)] kF kF
/-- The thread's stack. -/
def stk : Nat → List Nat
  | 0 => [14] | 1 => [13] | 2 => [12, 3] | 3 => [12, 2] | 4 => [12, 1, 0] | 5 => [12, 1] | 6 => [12]
  | 7 => [10] | 8 => [9] | 9 => [8, 7] | 10 => [8, 6] | 11 => [8, 5, 4] | 12 => [8, 5] | 13 => [8] | _ => []
def memX (x : Nat) : List Nat → Bool
  | [] => false
  | y :: l => bif Nat.beq x y then true else memX x l
def addN : List Nat → List Nat → List Nat
  | κ, [] => κ
  | κ, x :: l => bif memX x κ then addN κ l else addN (κ ++ [x]) l
noncomputable def stC : Nat → Nat → Nat → List (Nat × Blk)
  | 0 => stC0 | 1 => stC1 | 2 => stC2 | 3 => stC3 | 4 => stC4 | 5 => stC5 | 6 => stC6 | 7 => stC7 | 8 => stC8 | 9 => stC9 | 10 => stC10 | 11 => stC11 | 12 => stC12 | _ => stC13
noncomputable def stA (fam : Bool) (lo hi : Nat) : List (Nat × Blk) := bif fam then stA1 lo hi else stA0 lo hi
def sg (o : Orig) (f : Nat) (dN : Int) (lo hi : Nat) (dI : Nat) : List Sig := [⟨o, f, 3000⟩, ⟨.num 1 dN, lo, hi⟩, ⟨.num 2 dI, 0, 4000⟩, ⟨.lit 0, 0, 0⟩, ⟨.same 4, 0, 0⟩, ⟨.num 5 0, 0, 255⟩]
def loS (j : Nat) : Nat := bif Nat.blt j 5 then 0 else 1
def loT (j : Nat) : Nat := bif Nat.blt j 5 then 0 else bif Nat.beq j 13 then 0 else 1
def dNT (j : Nat) : Int := bif Nat.beq j 13 then -1 else 0
def qT (j : Nat) : Nat := bif Nat.beq j 13 then 0 else j + 1
/-- From the start of a round j steps, and one with a collection after it. -/
noncomputable def colOK (fam : Bool) (j : Nat) (κ : List Nat) : Bool := layL H0 (stA fam (loS j) 255 ++ cap κ) fun H => colK j env0 H 264 fun env H _ =>
  chkS false (sg (.same 0) 0 (dNT j) (loT j) 255 (j + 1)) [0, 2] H0 (stC (qT j) (loT j) 255 ++ cap (addN κ (stk (qT j)))) env0 env H
/-- The last round, with a collection after its step j. -/
noncomputable def colZ (fam : Bool) (j : Nat) (κ : List Nat) : Bool := layL H0 (stA fam 0 0 ++ cap κ) fun H => colK j env0 H 264 fun env H n => runK false (7 - j) (j + 1) env H n endK
/-- A whole round; the last round and what comes after it. -/
noncomputable def rndOK (fam : Bool) : Bool := layL H0 (stA fam 1 255) fun H => runK true 14 0 env0 H 264 fun env H _ => chkS true (sg (.num 0 8) (bif fam then 23 else 24) (-1) 0 255 14) [0, 2] H0 (stA fam 0 255) env0 env H
noncomputable def rndZ (fam : Bool) : Bool := layL H0 (stA fam 0 0) fun H => runK true 8 0 env0 H 264 endK
/-- From a collected state to the start of the next round (z: where the window begins), and to the end. -/
noncomputable def segOK (q : Nat) (z : Nat) : Bool := layL H0 (stC q 1 255) fun H => runK true (14 - q) 0 env0 H 264 fun env H _ => chkS true (sg (.lit z) 23 (-1) 0 255 (14 - q)) [0, 2] H0 (stA true 0 255) env0 env H
noncomputable def segZ (q : Nat) : Bool := layL H0 (stC q 0 0) fun H => runK true (8 - q) 0 env0 H 264 endK
end Ev
namespace Ev
open Go Go.Proofs
theorem r10_eq (a1 v7 v9 a10 : AV) (H : Heap) (n : Nat) (k : Kont) : evo p10 .leaf (mids a1 v7 v9 a10 .bad) H n k =
  (convI .i64 a1 fun v50 => remI v50 (.int .i64 (.ofNat 60)) fun v51 => addI v51 (.int .i64 (.ofNat 20)) fun v52 => remI a10 v52 fun v53 => eqlI v53 (.int .i64 (.ofNat 0)) fun v54 => k (mid a1 v7 v9 a10 a10 a1 v50 v51 v52 v53 v54) H n) := by kernel_rfl
theorem fA : codeAt root3 pA = some (cAt pA) := by kernel_rfl
theorem f9 : codeAt root3 p9 = some (cAt p9) := by kernel_rfl
theorem f10 : codeAt root3 p10 = some (cAt p10) := by kernel_rfl
theorem fC : codeAt root3 pC = some (cAt pC) := by kernel_rfl
theorem fD : codeAt root3 pD = some (cAt pD) := by kernel_rfl
theorem f8 : codeAt root3 p8 = some (cAt p8) := by kernel_rfl
noncomputable def bodyC : Code := .seq (cAt pA) (.seq (.block 1 (.seq (cAt p9) (.seq (.seq (cAt p10) (cAt pC)) (cAt pD)))) (cAt p8))
theorem loop_eq : cAt [1, 1, 1, 1, 1, 0, 1, 0] = .loop bodyC := by kernel_rfl
theorem oracs : CallSound Tryz.prog Fo ∧ RoundSound Tryz.prog Go_ := by
  have h := orac_ok (tbl_ok 1000000) (rtbl_ok 1000000) 3000
  exact h
theorem sideO : SideOK true Tryz.prog root3 Xo := sideOf_ok calm_ok oracs.1 oracs.2 (by rw [Tryz.func3]; rfl)

theorem evo_ok {p : List Nat} (hp : codeAt root3 p = some (cAt p)) {an : An} {env : List AV} {H : Heap} {n : Nat} {k : Kont} (h : evo p an env H n k = true) :
    ∃ env' H' n', k env' H' n' = true ∧ CodeTo true Tryz.prog (cAt p) env H n .normal env' H' n' := by
  obtain ⟨x, env', H', n', he, _, hto⟩ := evCode_ok oracs.1 oracs.2 sideO _ _ _ _ _ _ _ _ _ h hp
  cases x with
  | normal => exact ⟨env', H', n', he, hto⟩
  | ret => exact (Bool.false_ne_true he).elim
  | exit i => exact (Bool.false_ne_true he).elim
  | _ => exact (Bool.false_ne_true he).elim

theorem isDead_iff {b : Blk} {x : Bool} : isDead b x = true ↔ b = .dead ∧ x = true := by
  cases b <;> simp [isDead]

theorem allDead_ok {H : Heap} {x : Bool} : ∀ {l : List Nat}, allDead H l x = true → x = true ∧ ∀ i ∈ l, hfn H i = .dead
  | [], h => ⟨h, fun i hi => by simp at hi⟩
  | i :: l, h => by
    rw [allDead] at h
    obtain ⟨_, h⟩ := at_iff.1 h
    obtain ⟨h1, h⟩ := isDead_iff.1 h
    obtain ⟨h2, h3⟩ := allDead_ok h
    refine ⟨h2, fun j hj => ?_⟩
    rcases List.mem_cons.1 hj with rfl | hj
    · exact h1
    · exact h3 j hj

theorem deadIf_ok {d : Bool} {H : Heap} {x : Bool} (h : deadIf d H x = true) : x = true ∧ (d = true → ∀ b, 200 ≤ b → b ≤ 215 → hfn H b = .dead) := by
  cases d with
  | false => exact ⟨h, fun h => by cases h⟩
  | true =>
    have h : allDead H _ x = true := h
    obtain ⟨h1, h2⟩ := allDead_ok h
    refine ⟨h1, fun _ b g1 g2 => h2 b ?_⟩
    have : b = 200 ∨ b = 201 ∨ b = 202 ∨ b = 203 ∨ b = 204 ∨ b = 205 ∨ b = 206 ∨ b = 207 ∨ b = 208 ∨ b = 209 ∨ b = 210 ∨ b = 211 ∨ b = 212 ∨ b = 213 ∨ b = 214 ∨ b = 215 := by omega
    simp only [List.mem_cons]
    omega

theorem midK_ok {v10 : AV} {env : List AV} {k : AV → AV → Bool} (h : midK v10 env k = true) :
    env.length = 109 ∧ env.getD 10 .bad = v10 ∧ env.getD 1 .bad = .opq 4 ∧ k (env.getD 7 .bad) (env.getD 9 .bad) = true := by
  unfold midK at h
  obtain ⟨h1, h⟩ := ifB_iff.1 h
  rw [getK_eq] at h
  obtain ⟨h2, h⟩ := ifB_iff.1 h
  rw [getK_eq] at h
  obtain ⟨h3, h⟩ := ifB_iff.1 h
  rw [getK_eq, getK_eq] at h
  exact ⟨Nat.eq_of_beq_eq_true h1, sameF_ok h2, sameF_ok h3, h⟩

theorem Head.env {P : Program} {w0 : World} {f : Nat → Blk} {n : Nat} {env env' : List AV} {θ : Theta} {a : Act} {w : World} (h : Head P w0 f n env θ a w) (hl : env'.length = env.length) (hv : ∀ t, VR θ (env'.getD t .bad) (a.tmps.getD t undef)) : Head P w0 f n env' θ a w :=
  { h with tmps := hv, len := by rw [hl]; exact h.len }

theorem b40_length (l : List AV) : (b40 l).length = l.length + 37 := by simp [b40]
theorem mid_length (a1 a7 a9 a10 a b c d e f g : AV) : (mid a1 a7 a9 a10 a b c d e f g).length = 109 := by simp [mid, b40]
theorem b40_get (l : List AV) (t : Nat) : (b40 l).getD t .bad = if t < 37 then .bad else l.getD (t - 37) .bad := by
  have : b40 l = List.replicate 37 .bad ++ l := rfl
  rw [this]
  simp only [List.getD_eq_getElem?_getD, List.getElem?_append, List.length_replicate, List.getElem?_replicate]
  split <;> simp_all

/-- What is told at each temporary. -/
theorem mid_get {P : AV → Nat → Prop} {a1 a7 a9 a10 a b c d e f g : AV} (hb : ∀ t, P .bad t) (h1 : P a1 1) (h7 : P a7 7) (h9 : P a9 9) (h10 : P a10 10) (ha : P a 48) (hbb : P b 49) (hc : P c 50) (hd : P d 51) (he : P e 52) (hf : P f 53) (hg : P g 54) :
    ∀ t, P ((mid a1 a7 a9 a10 a b c d e f g).getD t .bad) t := by
  intro t
  unfold mid
  match t with
  | 0 => exact hb _
  | 1 => exact h1
  | 2 => exact hb _
  | 3 => exact hb _
  | 4 => exact hb _
  | 5 => exact hb _
  | 6 => exact hb _
  | 7 => exact h7
  | 8 => exact hb _
  | 9 => exact h9
  | 10 => exact h10
  | t + 11 =>
    show P ((b40 _).getD t .bad) (t + 11)
    rw [b40_get]
    split
    · exact hb _
    · rename_i ht
      obtain ⟨u, rfl⟩ : ∃ u, t = u + 37 := ⟨t - 37, by omega⟩
      rw [Nat.add_sub_cancel]
      match u with
      | 0 => exact ha
      | 1 => exact hbb
      | 2 => exact hc
      | 3 => exact hd
      | 4 => exact he
      | 5 => exact hf
      | 6 => exact hg
      | u + 7 =>
        show P ((b40 _).getD u .bad) _
        rw [b40_get]
        split
        · exact hb _
        · generalize u - 37 = v
          match v with
          | 0 | 1 | 2 | 3 | 4 | 5 | 6 | 7 | 8 | 9 | 10 | 11 | 12 | 13 | 14 | 15 | 16 => exact hb _
          | v + 17 => exact hb _

theorem intK_small {n : Nat} (h : n < 1048576) (k : AV → Bool) : intK .i64 (.ofNat n) k = k (.int .i64 (.ofNat n)) := by
  have hl : Nat.blt n (lim .i64) = true := by rw [Nat.blt_eq]; exact Nat.lt_of_lt_of_le h (by decide)
  show Bool.rec (motive := fun _ => Bool) _ _ (Nat.blt n (lim .i64)) = _
  rw [hl]
  exact forceN_eq _ _

theorem r10_val {e i : Nat} (he : e < 256) (_hi : i < 4096) (v7 v9 : AV) (H : Heap) (n : Nat) (k : Kont) : evo p10 .leaf (mids (.int .u8 (.ofNat e)) v7 v9 (.int .i64 (.ofNat i)) .bad) H n k =
    k (mid (.int .u8 (.ofNat e)) v7 v9 (.int .i64 (.ofNat i)) (.int .i64 (.ofNat i)) (.int .u8 (.ofNat e)) (.int .i64 (.ofNat e)) (.int .i64 (.ofNat (e % 60))) (.int .i64 (.ofNat (e % 60 + 20))) (.int .i64 (.ofNat (i % (e % 60 + 20)))) (.bool (decide (i % (e % 60 + 20) = 0)))) H n := by
  rw [r10_eq]
  have conv : ∀ (x : Nat) (k : AV → Bool), x < 1048576 → convI .i64 (.int .u8 (.ofNat x)) k = k (.int .i64 (.ofNat x)) := fun x k h => intK_small h k
  rw [conv _ _ (by omega)]
  have rem : ∀ (x y : Nat) (k : AV → Bool), 0 < y → remI (.int .i64 (.ofNat x)) (.int .i64 (.ofNat y)) k = k (.int .i64 (.ofNat (x % y))) := fun x y k hy => by
    show Bool.rec (motive := fun _ => Bool) (forceZ (Int.tmod (.ofNat x) (.ofNat y)) fun z => k (.int .i64 z)) false (eqZ (.ofNat y) 0) = _
    have : eqZ (.ofNat y) 0 = false := by rw [eqZ_eq]; simp; omega
    rw [this]
    exact forceZ_eq _ _
  have add : ∀ (x y : Nat) (k : AV → Bool), x + y < 1048576 → addI (.int .i64 (.ofNat x)) (.int .i64 (.ofNat y)) k = k (.int .i64 (.ofNat (x + y))) := fun x y k h => intK_small h k
  have eql : ∀ (x : Nat) (k : AV → Bool), eqlI (.int .i64 (.ofNat x)) (.int .i64 (.ofNat 0)) k = k (.bool (decide (x = 0))) := fun x k => by
    show boolK (eqZ (.ofNat x) (.ofNat 0)) k = _
    rw [boolK_eq, eqZ_eq]
    congr 2
    cases x <;> rfl
  rw [rem _ _ _ (by omega), add _ _ _ (by omega), rem _ _ _ (by omega), eql]

/-- One round of the loop. -/
theorem bodyK_ok {w0 : World} {ex : Nat → Option Blk} {d cb : Bool} {v10 : AV} {env : List AV} {H : Heap} {n : Nat} {k : Kont} {i e : Nat} (hi : i < 4096) (he : e < 256) (hcb : cb = decide (i % (e % 60 + 20) = 0))
    (hex : ∀ b x, ex b = some x → d = true ∧ 200 ≤ b ∧ b ≤ 215 ∧ Aside x) (hd : ∀ b x, ex b = some x → hfn H b = .dead) (h : bodyK d cb v10 env H n k = true) :
    ∃ env' H' n', k env' H' n' = true ∧ (∀ b x, ex b = some x → hfn H' b = .dead) ∧ ∀ (Fe : Fence) (m : Nat) (θ : Theta) (a : Act) (w : World) (Q : Exit → Act → World → Prop), Fen true Fe → Head Tryz.prog w0 (Ev.over (hfn H) ex) n env θ a w →
      conc θ v10 = some (.int .i64 i) → θ.val 4 = some (.int .u8 e) → (∀ a' w' θ', θ.le θ' → Head Tryz.prog w0 (Ev.over (hfn H') ex) n' env' θ' a' w' → Q .normal a' w') → bodyC.wpIn Fe m Tryz.prog Q a w := by
  classical
  have dead : ∀ {H : Heap}, (d = true → ∀ b, 200 ≤ b → b ≤ 215 → hfn H b = .dead) → ∀ b x, ex b = some x → hfn H b = .dead := fun h b x e => h (hex b x e).1 b (hex b x e).2.1 (hex b x e).2.2.1
  have asd : ∀ b x, ex b = some x → Aside x := fun b x e => (hex b x e).2.2.2
  obtain ⟨env1, H1, n1, g1, t1⟩ := evo_ok fA h
  obtain ⟨g1, d1⟩ := deadIf_ok g1
  obtain ⟨env2, H2, n2, g2, t2⟩ := evo_ok f9 g1
  obtain ⟨g2, d2⟩ := deadIf_ok g2
  obtain ⟨l2, e10, e1, g2⟩ := midK_ok g2
  obtain ⟨env3, H3, n3, g3, t3⟩ := evo_ok fC g2
  obtain ⟨g3, d3⟩ := deadIf_ok g3
  obtain ⟨env4, H4, n4, g4, t4⟩ := evo_ok fD g3
  obtain ⟨g4, d4⟩ := deadIf_ok g4
  obtain ⟨env5, H5, n5, g5, t5⟩ := evo_ok f8 g4
  obtain ⟨g5, d5⟩ := deadIf_ok g5
  refine ⟨env5, H5, n5, g5, dead d5, fun Fe m θ a w Q hL s hv10 hv4 hQ => ?_⟩
  refine wpIn_seq (s.run hd asd t1 hL fun a1 w1 θ1 q1 s1 => ?_)
  refine wpIn_seq (wpIn_block (wpIn_seq (s1.run (dead d1) asd t2 hL fun a2 w2 θ2 q2 s2 => ?_)))
  refine wpIn_seq (wpIn_seq ?_)
  have le2 := Theta.le_trans q1 q2
  have hv10' := conc_le le2 _ _ hv10
  have hv4' : θ2.val 4 = some (.int .u8 e) := by
    have := conc_le le2 (.opq 4) (.int .u8 e) (by simp [conc, hv4, opqOk, Value.oneCell'])
    simp only [conc, Option.bind_eq_some_iff] at this
    obtain ⟨v, hv, hv'⟩ := this
    split at hv'
    · injection hv' with hv'; rw [hv, hv']
    · cases hv'
  -- region 10, on the numbers themselves
  have vr : ∀ t, VR θ2 (env2.getD t .bad) (a2.tmps.getD t undef) := s2.tmps
  have at10 : a2.tmps.getD 10 undef = .int .i64 i := by
    rcases vr 10 with h | h
    · rw [e10] at h; rw [h] at hv10'; simp [conc] at hv10'
    · rw [e10, hv10'] at h; injection h with h; exact h.symm
  have at1 : a2.tmps.getD 1 undef = .int .u8 e := by
    rcases vr 1 with h | h
    · rw [e1] at h; cases h
    · rw [e1] at h
      simp only [conc, hv4', Option.bind_some] at h
      split at h
      · injection h with h; exact h.symm
      · cases h
  have s2' : Head Tryz.prog w0 (Ev.over (hfn H2) ex) n2 (mids (.int .u8 (.ofNat e)) (env2.getD 7 .bad) (env2.getD 9 .bad) (.int .i64 (.ofNat i)) .bad) θ2 a2 w2 := by
    refine s2.env (by rw [l2]; exact mid_length ..) (mid_get (P := fun x t => VR θ2 x (a2.tmps.getD t undef)) (fun t => VR.bad _ _) (.inr (by rw [at1]; rfl)) (vr 7) (vr 9) (.inr (by rw [at10]; rfl)) (VR.bad _ _) (VR.bad _ _) (VR.bad _ _) (VR.bad _ _) (VR.bad _ _) (VR.bad _ _) (VR.bad _ _))
  have key := evo_ok (k := fun env' H' n' => decide (env' = mid (.int .u8 (.ofNat e)) (env2.getD 7 .bad) (env2.getD 9 .bad) (.int .i64 (.ofNat i)) (.int .i64 (.ofNat i)) (.int .u8 (.ofNat e)) (.int .i64 (.ofNat e)) (.int .i64 (.ofNat (e % 60))) (.int .i64 (.ofNat (e % 60 + 20))) (.int .i64 (.ofNat (i % (e % 60 + 20)))) (.bool (decide (i % (e % 60 + 20) = 0))) ∧ H' = H2 ∧ n' = n2)) f10 ((r10_val he hi (env2.getD 7 .bad) (env2.getD 9 .bad) H2 n2 _).trans (by simp))
  obtain ⟨envr, Hr, nr, gr, tr⟩ := key
  obtain ⟨er, eh, en⟩ := of_decide_eq_true gr
  subst eh en
  refine s2'.run (dead d2) asd tr hL fun a3 w3 θ3 q3 s3 => ?_
  have vr3 : ∀ t, VR θ3 (envr.getD t .bad) (a3.tmps.getD t undef) := s3.tmps
  rw [er] at vr3
  have s3' : Head Tryz.prog w0 (Ev.over (hfn Hr) ex) nr (mids (.opq 4) (env2.getD 7 .bad) (env2.getD 9 .bad) v10 (.bool cb)) θ3 a3 w3 := by
    refine s3.env (by rw [er, mids, mid_length, mid_length]) (mid_get (P := fun x t => VR θ3 x (a3.tmps.getD t undef)) (fun t => VR.bad _ _) ?_ (vr3 7) (vr3 9) ?_ (VR.bad _ _) (VR.bad _ _) (VR.bad _ _) (VR.bad _ _) (VR.bad _ _) (VR.bad _ _) (by rw [hcb]; exact vr3 54))
    · rcases vr3 1 with h | h
      · cases h
      · have h : some (Value.int .u8 e) = some (a3.tmps.getD 1 undef) := h
        injection h with h
        refine .inr ?_
        rw [← h]
        exact conc_le q3 _ _ (by simp [conc, hv4', opqOk, Value.oneCell'])
    · rcases vr3 10 with h | h
      · cases h
      · have h : some (Value.int .i64 i) = some (a3.tmps.getD 10 undef) := h
        injection h with h
        refine .inr ?_
        rw [← h]
        exact conc_le q3 _ _ hv10'
  refine s3'.run (dead d2) asd t3 hL fun a4 w4 θ4 q4 s4 => ?_
  refine s4.run (dead d3) asd t4 hL fun a5 w5 θ5 q5 s5 => ?_
  refine s5.run (dead d4) asd t5 hL fun a6 w6 θ6 q6 s6 => ?_
  exact hQ a6 w6 θ6 (Theta.le_trans le2 (Theta.le_trans q3 (Theta.le_trans q4 (Theta.le_trans q5 q6)))) s6
end Ev
namespace Ev
open Go Go.Proofs

theorem plain_get (l : List Nat) : ∀ i, (mkC1 l).get i = .bad ∨ ∃ n, (mkC1 l).get i = I n := by
  intro i
  have h8 : i / 8 ^ 0 % 8 < 8 := Nat.mod_lt _ (by omega)
  unfold mkC1
  split
  all_goals
    show Tr.get 1 _ i = _ ∨ ∃ n, Tr.get 1 _ i = _
    show R.get _ (i / 8 ^ 0 % 8) = _ ∨ ∃ n, R.get _ (i / 8 ^ 0 % 8) = _
    revert h8
    generalize i / 8 ^ 0 % 8 = t
    revert t
    refine cases8 ?_ ?_ ?_ ?_ ?_ ?_ ?_ ?_ <;> first | exact .inl rfl | exact .inr ⟨_, rfl⟩

theorem capE_rel {θ θT : Theta} (hb : ∀ g, 200 ≤ g → g < 264 → θT.blk g = θ.blk g) : ∀ (l : List Nat) (j : Nat) {el : List MapEntry}, 201 + j + l.length ≤ 264 → EntsRel θ (capE j l) el → EntsRel θT (capE j l) el
  | [], _, _, _, .nil => .nil
  | s :: l, j, _, hl, .cons hk hv r => by
    simp only [List.length_cons] at hl
    refine .cons hk ?_ (capE_rel hb l (j + 1) (by omega) r)
    simp only [O, conc] at hv ⊢
    rwa [hb _ (by omega) (by omega)]

theorem capB_look {b : Nat} {x : Blk} : ∀ {l : List Nat} {j : Nat}, lookB b (capB j l) = some x → 201 + j ≤ b ∧ b < 201 + j + l.length ∧ ∃ s, x = .cells false false (freeL s).length (mkC1 (freeL s))
  | [], _, h => by cases h
  | s :: l, j, h => by
    rw [capB, lookB] at h
    by_cases e : 201 + j = b
    · rw [if_pos e] at h; injection h with h; subst h
      exact ⟨by omega, by simp only [List.length_cons]; omega, s, rfl⟩
    · rw [if_neg e] at h
      obtain ⟨h1, h2, h3⟩ := capB_look h
      exact ⟨by omega, by simp only [List.length_cons]; omega, h3⟩

noncomputable def exC (κ : List Nat) : Nat → Option Blk := fun b => lookB b (cap κ)

theorem cap_look {κ : List Nat} (hκ : κ.length ≤ 15) {b : Nat} {x : Blk} (h : exC κ b = some x) : 200 ≤ b ∧ b ≤ 215 ∧ Aside x ∧ Stay x := by
  unfold exC cap at h
  rw [lookB] at h
  by_cases e : 200 = b
  · rw [if_pos e] at h; injection h with h; subst h; subst e
    refine ⟨by omega, by omega, ⟨rfl, by intro h; cases h⟩, fun P θ θT B w l hb r => ?_⟩
    obtain ⟨h1, es, h2, h3⟩ := r
    exact ⟨h1, es, h2, capE_rel hb κ 0 (by omega) h3⟩
  · rw [if_neg e] at h
    obtain ⟨h1, h2, s, rfl⟩ := capB_look h
    refine ⟨by omega, by omega, ⟨rfl, by intro h; cases h⟩, fun P θ θT B w l hb r => ?_⟩
    obtain ⟨r1, r2, r3⟩ := r
    refine ⟨r1, fun i hi => ?_, r3⟩
    obtain ⟨v, hv, hc⟩ := r2 i hi
    refine ⟨v, ?_, hc⟩
    rcases plain_get (freeL s) i with h | ⟨n, h⟩
    · rw [h] at hv; simp [conc] at hv
    · rw [h] at hv ⊢; simpa [I, conc] using hv

theorem lookB_app {x : Nat} {l' : List (Nat × Blk)} : ∀ {l : List (Nat × Blk)}, lookB x (l ++ l') = match lookB x l with | some b => some b | none => lookB x l'
  | [] => rfl
  | (j, b) :: l => by
    rw [List.cons_append, lookB, lookB]
    by_cases e : j = x
    · rw [if_pos e, if_pos e]
    · rw [if_neg e, if_neg e, lookB_app]

theorem cap_ids {κ : List Nat} (hκ : κ.length ≤ 15) : ∀ p ∈ cap κ, 200 ≤ p.1 ∧ p.1 < 264 := by
  have key : ∀ (l : List Nat) (j : Nat), 201 + j + l.length ≤ 264 → ∀ p ∈ capB j l, 200 ≤ p.1 ∧ p.1 < 264 := by
    intro l
    induction l with
    | nil => intro j _ p hp; simp [capB] at hp
    | cons s l ih =>
      intro j hj p hp
      simp only [List.length_cons] at hj
      rw [capB] at hp
      rcases List.mem_cons.1 hp with rfl | hp
      · exact ⟨by show 200 ≤ 201 + j; omega, by show 201 + j < 264; omega⟩
      · exact ih (j + 1) (by omega) p hp
  intro p hp
  rcases List.mem_cons.1 hp with rfl | hp
  · exact ⟨by show 200 ≤ 200; omega, by show 200 < 264; omega⟩
  · exact key κ 0 (by omega) p hp

/-- The cache lies beside the rest. -/
theorem aside_eq {ps : List (Nat × Blk)} (hps : ∀ p ∈ ps, 8 ≤ p.1 ∧ p.1 < 200) {κ : List Nat} (hκ : κ.length ≤ 15) : hfn (putL H0 (ps ++ cap κ)) = Ev.over (hfn (putL H0 ps)) (exC κ) := by
  funext x
  rw [hfn_putL (fun p hp => by
    rcases List.mem_append.1 hp with hp | hp
    · have := (hps p hp).2; omega
    · have := (cap_ids hκ p hp).2; omega), lookB_app]
  cases e : lookB x (cap κ) with
  | some b =>
    rw [over_some (x := b) e]
    cases e2 : lookB x ps with
    | none => rfl
    | some c =>
      have h1 := (hps _ (lookB_mem e2)).2
      have h2 := (cap_ids hκ _ (lookB_mem e)).1
      exact absurd h1 (by show ¬ x < 200; have : 200 ≤ x := h2; omega)
  | none =>
    rw [over_none (ex := exC κ) (b := x) e, hfn_putL (fun p hp => by have := (hps p hp).2; omega)]
    cases lookB x ps <;> rfl

theorem H0_dead {x : Nat} (h : x ∉ [0, 2]) : hfn H0 x = .dead := by
  have h0 : (0 : Nat) ≠ x := fun e => h (by simp [← e])
  have h2 : (2 : Nat) ≠ x := fun e => h (by simp [← e])
  unfold H0
  rw [hfn_put _ _ (by omega), hfn_put _ _ (by omega), hfn_rep]
  simp [setB, h0, h2]

/-- The unknown numbers. -/
def vals (X N i e r : Nat) : Nat → Option Value
  | 0 => some (.int .i64 X)
  | 1 => some (.int .i64 N)
  | 2 => some (.int .i64 i)
  | 3 => some (.int .i64 0)
  | 4 => some (.int .u8 e)
  | 5 => some (.int .i64 r)
  | _ => none

/-- At the head of the loop. -/
def At (w0 : World) (ps : List (Nat × Blk)) (κ : List Nat) (X N i e r : Nat) (a : Act) (w : World) : Prop :=
  ∃ θ, θ.val = vals X N i e r ∧ Head Tryz.prog w0 (hfn (putL H0 (ps ++ cap κ))) 264 env0 θ a w


/-- What becomes of the first number. -/
def XOK (o : Orig) (f X X' : Nat) : Prop := match o with
  | .num s d => s = 0 ∧ (X' : Int) = X + d ∧ f ≤ X' ∧ X' ≤ 3000
  | .lit z => X' = z ∧ f ≤ X' ∧ X' ≤ 3000
  | .same j => j = 0 ∧ X' = X

theorem num_of {θ : Theta} {s lo hi : Nat} {z : Nat} (h : θ.val s = some (.int .i64 z)) (h1 : lo ≤ z) (h2 : z ≤ hi) : θ.num s lo hi = some (z : Int) := by
  unfold Theta.num
  rw [h]
  exact if_pos ⟨by omega, by omega⟩

theorem sg_link {o : Orig} {f : Nat} {dN : Int} {lo hi dI : Nat} {X N i e r X' N' : Nat} {θ : Theta} (hv : ∀ s v, vals X N i e r s = some v → θ.val s = some v) (hX : XOK o f X X') (hN : (N' : Int) = N + dN) (hlo : lo ≤ N') (hhi : N' ≤ hi) (hI : i + dI ≤ 4000) (hr : r ≤ 255) :
    LinkS (sg o f dN lo hi dI) θ ⟨fun _ => none, vals X' N' (i + dI) e r⟩ := by
  have val : ∀ {s lo hi : Nat} {z : Int} {y : Nat}, vals X N i e r s = some (.int .i64 (y : Int)) → θ.num s lo hi = some z → z = y := fun h1 h2 => by
    have h3 := (num_some h2).1
    rw [hv _ _ h1] at h3
    injection h3 with h3
    injection h3 with _ h3
    exact h3.symm
  intro s g hg
  match s, hg with
  | 0, hg =>
    simp only [sg, List.getElem?_cons_zero, Option.some.injEq] at hg
    subst hg
    cases o with
    | num s d =>
      obtain ⟨rfl, h1, h2, h3⟩ := hX
      intro lo hi z hz
      have := val (s := 0) (y := X) rfl hz
      subst this
      rw [← h1]
      exact num_of rfl h2 h3
    | lit z =>
      obtain ⟨rfl, h2, h3⟩ := hX
      exact num_of rfl h2 h3
    | same j =>
      obtain ⟨rfl, rfl⟩ := hX
      intro v h
      rw [hv 0 _ rfl] at h
      exact h
  | 1, hg =>
    simp only [sg, List.getElem?_cons_succ, List.getElem?_cons_zero, Option.some.injEq] at hg
    subst hg
    intro lo' hi' z hz
    have := val (s := 1) (y := N) rfl hz
    subst this
    rw [← hN]
    exact num_of rfl hlo hhi
  | 2, hg =>
    simp only [sg, List.getElem?_cons_succ, List.getElem?_cons_zero, Option.some.injEq] at hg
    subst hg
    intro lo' hi' z hz
    have := val (s := 2) (y := i) rfl hz
    subst this
    have := num_of (θ := ⟨fun _ => none, vals X' N' (i + dI) e r⟩) (s := 2) (lo := 0) (hi := 4000) (z := i + dI) rfl (by omega) hI
    simpa using this
  | 3, hg =>
    simp only [sg, List.getElem?_cons_succ, List.getElem?_cons_zero, Option.some.injEq] at hg
    subst hg
    exact num_of (z := 0) rfl (Nat.le_refl 0) (Nat.le_refl 0)
  | 4, hg =>
    simp only [sg, List.getElem?_cons_succ, List.getElem?_cons_zero, Option.some.injEq] at hg
    subst hg
    intro v h
    rw [hv 4 _ rfl] at h
    exact h
  | 5, hg =>
    simp only [sg, List.getElem?_cons_succ, List.getElem?_cons_zero, Option.some.injEq] at hg
    subst hg
    intro lo' hi' z hz
    have := val (s := 5) (y := r) rfl hz
    subst this
    have := num_of (θ := ⟨fun _ => none, vals X' N' (i + dI) e r⟩) (s := 5) (lo := 0) (hi := 255) (z := r) rfl (by omega) hr
    simpa using this
  | s + 6, hg => simp [sg] at hg

theorem iAt_val {θ : Theta} {i : Nat} (h : θ.val 2 = some (.int .i64 i)) (hi : i ≤ 4000) (c : Nat) : conc θ (iAt c) = some (.int .i64 ((i + c : Nat) : Int)) := by
  have := num_of (θ := θ) (s := 2) (lo := 0) (hi := 4000) (z := i) h (by omega) hi
  simp [iAt, conc, SymT.conc, this]

theorem runK_ok {w0 : World} {ex : Nat → Option Blk} {d : Bool} {i e : Nat} (he : e < 256) (hi : i ≤ 4000) (hex : ∀ b x, ex b = some x → d = true ∧ 200 ≤ b ∧ b ≤ 215 ∧ Aside x) : ∀ (m c : Nat) {env : List AV} {H : Heap} {n : Nat} {k : Kont},
    (∀ t, t < m → (i + (c + t)) % (e % 60 + 20) ≠ 0) → i + c + m ≤ 4000 → (∀ b x, ex b = some x → hfn H b = .dead) → runK d m c env H n k = true →
    ∃ env' H' n', k env' H' n' = true ∧ (∀ b x, ex b = some x → hfn H' b = .dead) ∧ ∀ (Fe : Fence) (md : Nat) (Q : Exit → Act → World → Prop) (j : Nat) (θ : Theta) (a : Act) (w : World), Fen true Fe → Head Tryz.prog w0 (Ev.over (hfn H) ex) n env θ a w →
      θ.val 2 = some (.int .i64 i) → θ.val 4 = some (.int .u8 e) → (∀ a' w' θ', θ.le θ' → Head Tryz.prog w0 (Ev.over (hfn H') ex) n' env' θ' a' w' → Chain Fe md Tryz.prog bodyC Q j a' w') → Chain Fe md Tryz.prog bodyC Q (j + m) a w
  | 0, c, env, H, n, k, _, _, hd, h => ⟨env, H, n, h, hd, fun Fe md Q j θ a w hL s _ _ hQ => hQ a w θ (Theta.le_refl _) s⟩
  | m + 1, c, env, H, n, k, hno, hle, hd, h => by
    rw [runK] at h
    have h0 := hno 0 (by omega)
    obtain ⟨env1, H1, n1, g1, d1, t1⟩ := bodyK_ok (w0 := w0) (i := i + c) (by omega) he (by rw [Nat.add_zero] at h0; simp [h0]) hex hd h
    obtain ⟨env2, H2, n2, g2, d2, t2⟩ := runK_ok (w0 := w0) he hi hex m (c + 1) (fun t ht => by have := hno (t + 1) (by omega); rwa [show c + 1 + t = c + (t + 1) from by omega]) (by omega) d1 g1
    refine ⟨env2, H2, n2, g2, d2, fun Fe md Q j θ a w hL s h2 h4 hQ => ?_⟩
    show bodyC.wpIn Fe md Tryz.prog (Exit.then (Chain Fe md Tryz.prog bodyC Q (j + m)) Q) a w
    refine t1 Fe md θ a w _ hL s (iAt_val h2 hi c) h4 fun a' w' θ' hle' s' => ?_
    exact t2 Fe md Q j θ' a' w' hL s' (hle'.2 _ _ h2) (hle'.2 _ _ h4) fun a'' w'' θ'' hle'' s'' => hQ a'' w'' θ'' (Theta.le_trans hle' hle'') s''

theorem glob8 : Tryz.prog.globals.size ≤ 8 := by rw [Tryz.globals_size]; decide

theorem stage_run {w0 : World} {ps ps' : List (Nat × Blk)} {m : Nat} {o : Orig} {f : Nat} {dN : Int} {lo hi : Nat} (hps : ∀ p ∈ ps, 8 ≤ p.1 ∧ p.1 < 200) (hps' : ∀ p ∈ ps', 8 ≤ p.1 ∧ p.1 < 200)
    (hk : (layL H0 ps fun H => runK true m 0 env0 H 264 fun env H _ => chkS true (sg o f dN lo hi m) [0, 2] H0 ps' env0 env H) = true)
    {κ : List Nat} (hκ : κ.length ≤ 15) {X N i e r X' N' : Nat} (he : e < 256) (hr : r ≤ 255) (hno : ∀ t, t < m → (i + t) % (e % 60 + 20) ≠ 0) (him : i + m ≤ 4000)
    (hX : XOK o f X X') (hN : (N' : Int) = N + dN) (hlo : lo ≤ N') (hhi : N' ≤ hi) {Fe : Fence} (hL : Fen true Fe) {md : Nat} {Q : Exit → Act → World → Prop} {j : Nat} {a : Act} {w : World} (s : At w0 ps κ X N i e r a w)
    (hQ : ∀ a' w', At w0 ps' κ X' N' (i + m) e r a' w' → Chain Fe md Tryz.prog bodyC Q j a' w') : Chain Fe md Tryz.prog bodyC Q (j + m) a w := by
  obtain ⟨θ, hv, s⟩ := s
  rw [aside_eq hps hκ] at s
  rw [layL_eq] at hk
  have hd0 : ∀ b x, exC κ b = some x → hfn (putL H0 ps) b = .dead := fun b x e => by
    have h1 := (cap_look hκ e).1
    rw [hfn_putL (fun p hp => by have := (hps p hp).2; omega)]
    cases e2 : lookB b ps with
    | some c => have := (hps _ (lookB_mem e2)).2; have : b < 200 := this; omega
    | none => exact H0_dead (by simp; omega)
  obtain ⟨env', H', n', g, hd', t⟩ := runK_ok (w0 := w0) (ex := exC κ) (i := i) he (by omega) (fun b x e => ⟨rfl, (cap_look hκ e).1, (cap_look hκ e).2.1, (cap_look hκ e).2.2.1⟩) m 0 (by simpa using hno) (by omega) hd0 hk
  refine t Fe md Q j θ a w hL s (by rw [hv]; rfl) (by rw [hv]; rfl) fun a' w' θ' hle s' => hQ a' w' ?_
  have hle2 : ∀ s v, vals X N i e r s = some v → θ'.val s = some v := fun s v h => hle.2 s v (by rw [hv]; exact h)
  obtain ⟨θT, e1, s''⟩ := s'.rebase glob8 (fx := true) (σ := sg o f dN lo hi m) (gl := [0, 2]) (E := H0) (ps := ps') (envT := env0) (fun p hp => ⟨(hps' p hp).1, by have := (hps' p hp).2; omega, fun _ => (hps' p hp).2⟩) (fun x hx => H0_dead hx)
    (sg_link hle2 hX hN hlo hhi him hr) g (fun h => by cases h) (fun b x e => ⟨(cap_look hκ e).1, by have := (cap_look hκ e).2.1; omega, (cap_look hκ e).2.2.2, hd' b x e⟩)
  refine ⟨θT, e1, ?_⟩
  rw [aside_eq hps' hκ]
  exact s''

theorem stage_col {w0 : World} {ps ps' : List (Nat × Blk)} {κ κ' : List Nat} {c : Nat} {o : Orig} {f : Nat} {dN : Int} {lo hi : Nat} (hps' : ∀ p ∈ ps', 8 ≤ p.1 ∧ p.1 < 200)
    (hk : (layL H0 (ps ++ cap κ) fun H => colK c env0 H 264 fun env H _ => chkS false (sg o f dN lo hi (c + 1)) [0, 2] H0 (ps' ++ cap κ') env0 env H) = true)
    (hκ' : κ'.length ≤ 15) {X N i e r X' N' : Nat} (he : e < 256) (hr : r ≤ 255) (hno : ∀ t, t < c → (i + t) % (e % 60 + 20) ≠ 0) (hyes : (i + c) % (e % 60 + 20) = 0) (him : i + (c + 1) ≤ 4000)
    (hX : XOK o f X X') (hN : (N' : Int) = N + dN) (hlo : lo ≤ N') (hhi : N' ≤ hi) {Fe : Fence} (hL : Fen true Fe) {md : Nat} {Q : Exit → Act → World → Prop} {j : Nat} {a : Act} {w : World} (s : At w0 ps κ X N i e r a w)
    (hQ : ∀ a' w', At w0 ps' κ' X' N' (i + (c + 1)) e r a' w' → Chain Fe md Tryz.prog bodyC Q j a' w') : Chain Fe md Tryz.prog bodyC Q (j + (c + 1)) a w := by
  obtain ⟨θ, hv, s⟩ := s
  rw [layL_eq] at hk
  have ov : ∀ H, Ev.over (hfn H) (fun _ => none) = hfn H := fun H => rfl
  rw [← ov] at s
  have hex : ∀ b x, (fun _ : Nat => (none : Option Blk)) b = some x → false = true ∧ 200 ≤ b ∧ b ≤ 215 ∧ Aside x := fun b x e => by cases e
  obtain ⟨env1, H1, n1, g1, _, t1⟩ := runK_ok (w0 := w0) (ex := fun _ => none) (i := i) he (by omega) hex c 0 (by simpa using hno) (by omega) (fun b x e => by cases e) hk
  obtain ⟨env2, H2, n2, g2, _, t2⟩ := bodyK_ok (w0 := w0) (ex := fun _ => none) (i := i + c) (by omega) he (by simp [hyes]) hex (fun b x e => by cases e) g1
  rw [show j + (c + 1) = (j + 1) + c from by omega]
  refine t1 Fe md Q (j + 1) θ a w hL s (by rw [hv]; rfl) (by rw [hv]; rfl) fun a1 w1 θ1 q1 s1 => ?_
  have hv2 : θ1.val 2 = some (.int .i64 i) := q1.2 _ _ (by rw [hv]; rfl)
  show bodyC.wpIn Fe md Tryz.prog (Exit.then (Chain Fe md Tryz.prog bodyC Q j) Q) a1 w1
  refine t2 Fe md θ1 a1 w1 _ hL s1 (iAt_val hv2 (by omega) c) (q1.2 _ _ (by rw [hv]; rfl)) fun a2 w2 θ2 q2 s2 => hQ a2 w2 ?_
  have hle2 : ∀ s v, vals X N i e r s = some v → θ2.val s = some v := fun s v h => (Theta.le_trans q1 q2).2 s v (by rw [hv]; exact h)
  obtain ⟨θT, e1, s''⟩ := s2.rebase glob8 (fx := false) (σ := sg o f dN lo hi (c + 1)) (gl := [0, 2]) (E := H0) (ps := ps' ++ cap κ') (envT := env0) (fun p hp => by
      rcases List.mem_append.1 hp with hp | hp
      · exact ⟨(hps' p hp).1, by have := (hps' p hp).2; omega, fun h => by cases h⟩
      · exact ⟨by have := (cap_ids hκ' p hp).1; omega, (cap_ids hκ' p hp).2, fun h => by cases h⟩) (fun x hx => H0_dead hx)
    (sg_link hle2 hX hN hlo hhi him hr) g2 (fun _ b => rfl) (fun b x e => by cases e)
  refine ⟨θT, e1, ?_⟩
  rw [← ov]
  exact s''
end Ev
namespace Ev
open Go Go.Proofs
theorem fR : codeAt root3 pR = some (cAt pR) := by kernel_rfl

/-- The function's answer is true. -/
def Fin3 (w0 : World) (a : Act) (w : World) : Prop := ∃ f n env θ, Head Tryz.prog w0 f n env θ a w ∧ a.tmps.getD 4 undef = .bool true

/-- The loop is left, the rest answers true. -/
noncomputable def endD (d : Bool) (env : List AV) (H : Heap) (n : Nat) : Bool :=
  evCode Tryz.prog Fo Go_ Xo (cAt pA) (.two .leaf (.two .leaf .leaf)) pA env H n [(0, fun env H n => deadIf d H (evCode Tryz.prog Fo Go_ Xo (cAt pR) (.two .leaf (.two .leaf (.two .leaf .leaf))) pR env H n [] kRet kF))] kF kF
noncomputable def lastA (fam : Bool) : Bool := layL H0 (stA fam 0 0) fun H => runK true 8 0 env0 H 264 (endD true)
noncomputable def lastC (q : Nat) : Bool := layL H0 (stC q 0 0) fun H => runK true (8 - q) 0 env0 H 264 (endD true)
noncomputable def lastZ (fam : Bool) (j : Nat) (κ : List Nat) : Bool := layL H0 (stA fam 0 0 ++ cap κ) fun H => colK j env0 H 264 fun env H n => runK false (7 - j) (j + 1) env H n (endD false)

theorem ends_exit {kn : Kont} {x : Exit} {env : List AV} {H : Heap} {n : Nat} (h : Ends [(0, kn)] kF kF x env H n = true) : x = .exit 0 ∧ kn env H n = true := by
  cases x with
  | exit i =>
    rcases exitK_cons h with ⟨rfl, h⟩ | ⟨_, h⟩
    · exact ⟨rfl, h⟩
    · exact (Bool.false_ne_true h).elim
  | normal => exact (Bool.false_ne_true h).elim
  | ret => exact (Bool.false_ne_true h).elim
  | _ => exact (Bool.false_ne_true h).elim

theorem endD_ok {w0 : World} {ex : Nat → Option Blk} {d : Bool} (hex : ∀ b x, ex b = some x → d = true ∧ 200 ≤ b ∧ b ≤ 215 ∧ Aside x) {env : List AV} {H : Heap} {n : Nat} (hd : ∀ b x, ex b = some x → hfn H b = .dead) (h : endD d env H n = true)
    {Fe : Fence} (hL : Fen true Fe) {md : Nat} {Q Qf : Exit → Act → World → Prop} {θ : Theta} {a : Act} {w : World} (s : Head Tryz.prog w0 (Ev.over (hfn H) ex) n env θ a w)
    (hQ : ∀ a' w', (cAt pR).wpIn Fe md Tryz.prog Qf a' w' → Q (.exit 0) a' w') (hf : ∀ a' w', Fin3 w0 a' w' → Qf .ret a' w') : Chain Fe md Tryz.prog bodyC Q 1 a w := by
  have asd : ∀ b x, ex b = some x → Aside x := fun b x e => (hex b x e).2.2.2
  obtain ⟨x, env1, H1, n1, he, _, t1⟩ := evCode_ok oracs.1 oracs.2 sideO _ _ _ _ _ _ _ _ _ h fA
  obtain ⟨rfl, g1⟩ := ends_exit he
  obtain ⟨g1, d1⟩ := deadIf_ok g1
  obtain ⟨x, env2, H2, n2, he2, _, t2⟩ := evCode_ok oracs.1 oracs.2 sideO _ _ _ _ _ _ _ _ _ g1 fR
  cases x with
  | ret =>
    show bodyC.wpIn Fe md Tryz.prog (Exit.then (Chain Fe md Tryz.prog bodyC Q 0) Q) a w
    refine wpIn_seq (s.run hd asd t1 hL fun a1 w1 θ1 q1 s1 => ?_)
    refine hQ a1 w1 ?_
    refine s1.run (fun b x e => d1 (hex b x e).1 b (hex b x e).2.1 (hex b x e).2.2.1) asd t2 hL fun a2 w2 θ2 q2 s2 => hf a2 w2 ⟨_, _, _, _, s2, ?_⟩
    have he2 : kRet env2 H2 n2 = true := he2
    unfold kRet at he2
    rw [getK_eq] at he2
    have he3 : env2.getD 4 .bad = .bool true := by
      revert he2
      generalize env2.getD 4 .bad = v
      intro h
      obtain ⟨b, rfl, hb⟩ := ckBool_iff.1 h
      rw [hb]
    rcases s2.tmps 4 with e | e
    · rw [he3] at e; cases e
    · rw [he3] at e
      have e : some (Value.bool true) = some (a2.tmps.getD 4 undef) := e
      injection e with e
      exact e.symm
  | normal => exact (Bool.false_ne_true he2).elim
  | exit i => exact (Bool.false_ne_true he2).elim
  | _ => exact (Bool.false_ne_true he2).elim

/-- The last round. -/
theorem stage_end {w0 : World} {ps : List (Nat × Blk)} {m : Nat} (hps : ∀ p ∈ ps, 8 ≤ p.1 ∧ p.1 < 200)
    (hk : (layL H0 ps fun H => runK true m 0 env0 H 264 (endD true)) = true)
    {κ : List Nat} (hκ : κ.length ≤ 15) {X N i e r : Nat} (he : e < 256) (hno : ∀ t, t < m → (i + t) % (e % 60 + 20) ≠ 0) (him : i + m ≤ 4000)
    {Fe : Fence} (hL : Fen true Fe) {md : Nat} {Q Qf : Exit → Act → World → Prop} {a : Act} {w : World} (s : At w0 ps κ X N i e r a w)
    (hQ : ∀ a' w', (cAt pR).wpIn Fe md Tryz.prog Qf a' w' → Q (.exit 0) a' w') (hf : ∀ a' w', Fin3 w0 a' w' → Qf .ret a' w') : Chain Fe md Tryz.prog bodyC Q (1 + m) a w := by
  obtain ⟨θ, hv, s⟩ := s
  rw [aside_eq hps hκ] at s
  rw [layL_eq] at hk
  have hd0 : ∀ b x, exC κ b = some x → hfn (putL H0 ps) b = .dead := fun b x e => by
    have h1 := (cap_look hκ e).1
    rw [hfn_putL (fun p hp => by have := (hps p hp).2; omega)]
    cases e2 : lookB b ps with
    | some c => have := (hps _ (lookB_mem e2)).2; have : b < 200 := this; omega
    | none => exact H0_dead (by simp; omega)
  have hex : ∀ b x, exC κ b = some x → true = true ∧ 200 ≤ b ∧ b ≤ 215 ∧ Aside x := fun b x e => ⟨rfl, (cap_look hκ e).1, (cap_look hκ e).2.1, (cap_look hκ e).2.2.1⟩
  obtain ⟨env', H', n', g, hd', t⟩ := runK_ok (w0 := w0) (ex := exC κ) (i := i) he (by omega) hex m 0 (by simpa using hno) (by omega) hd0 hk
  exact t Fe md Q 1 θ a w hL s (by rw [hv]; rfl) (by rw [hv]; rfl) fun a' w' θ' _ s' => endD_ok hex hd' g hL s' hQ hf

/-- The last round, with a collection in it. -/
theorem stage_colZ {w0 : World} {ps : List (Nat × Blk)} {κ : List Nat} {c m : Nat}
    (hk : (layL H0 (ps ++ cap κ) fun H => colK c env0 H 264 fun env H n => runK false m (c + 1) env H n (endD false)) = true)
    {X N i e r : Nat} (he : e < 256) (hno : ∀ t, t < c → (i + t) % (e % 60 + 20) ≠ 0) (hyes : (i + c) % (e % 60 + 20) = 0) (hno2 : ∀ t, t < m → (i + (c + 1 + t)) % (e % 60 + 20) ≠ 0) (him : i + (c + 1 + m) ≤ 4000)
    {Fe : Fence} (hL : Fen true Fe) {md : Nat} {Q Qf : Exit → Act → World → Prop} {a : Act} {w : World} (s : At w0 ps κ X N i e r a w)
    (hQ : ∀ a' w', (cAt pR).wpIn Fe md Tryz.prog Qf a' w' → Q (.exit 0) a' w') (hf : ∀ a' w', Fin3 w0 a' w' → Qf .ret a' w') : Chain Fe md Tryz.prog bodyC Q (1 + m + 1 + c) a w := by
  obtain ⟨θ, hv, s⟩ := s
  rw [layL_eq] at hk
  have ov : ∀ H, Ev.over (hfn H) (fun _ => none) = hfn H := fun H => rfl
  rw [← ov] at s
  have hex : ∀ b x, (fun _ : Nat => (none : Option Blk)) b = some x → false = true ∧ 200 ≤ b ∧ b ≤ 215 ∧ Aside x := fun b x e => by cases e
  obtain ⟨env1, H1, n1, g1, _, t1⟩ := runK_ok (w0 := w0) (ex := fun _ => none) (i := i) he (by omega) hex c 0 (by simpa using hno) (by omega) (fun b x e => by cases e) hk
  obtain ⟨env2, H2, n2, g2, _, t2⟩ := bodyK_ok (w0 := w0) (ex := fun _ => none) (i := i + c) (by omega) he (by simp [hyes]) hex (fun b x e => by cases e) g1
  obtain ⟨env3, H3, n3, g3, _, t3⟩ := runK_ok (w0 := w0) (ex := fun _ => none) (i := i) he (by omega) hex m (c + 1) hno2 (by omega) (fun b x e => by cases e) g2
  refine t1 Fe md Q (1 + m + 1) θ a w hL s (by rw [hv]; rfl) (by rw [hv]; rfl) fun a1 w1 θ1 q1 s1 => ?_
  have hv2 : θ1.val 2 = some (.int .i64 i) := q1.2 _ _ (by rw [hv]; rfl)
  have hv4 : θ1.val 4 = some (.int .u8 e) := q1.2 _ _ (by rw [hv]; rfl)
  show bodyC.wpIn Fe md Tryz.prog (Exit.then (Chain Fe md Tryz.prog bodyC Q (1 + m)) Q) a1 w1
  refine t2 Fe md θ1 a1 w1 _ hL s1 (iAt_val hv2 (by omega) c) hv4 fun a2 w2 θ2 q2 s2 => ?_
  refine t3 Fe md Q 1 θ2 a2 w2 hL s2 (q2.2 _ _ hv2) (q2.2 _ _ hv4) fun a3 w3 θ3 q3 s3 => ?_
  exact endD_ok hex (fun b x e => by cases e) g3 hL s3 hQ hf
end Ev
