/- A part of the proof that NetNone returns true: text Run1. -/
import Derived.Test.YtcmahgfncipfiaaGreatDoorShT
namespace Ev
open Go Go.Proofs
noncomputable section
def z8 : R AV := R.mk (.int .u8 (.ofNat 0)) (.int .u8 (.ofNat 0)) (.int .u8 (.ofNat 0)) (.int .u8 (.ofNat 0)) (.int .u8 (.ofNat 0)) (.int .u8 (.ofNat 0)) (.int .u8 (.ofNat 0)) (.int .u8 (.ofNat 0))
def r1 : R AV := R.mk (.int .u8 (.ofNat 0)) (.int .u8 (.ofNat 1)) (.int .u8 (.ofNat 1)) (.int .u8 (.ofNat 1)) (.int .u8 (.ofNat 1)) (.int .u8 (.ofNat 1)) (.int .u8 (.ofNat 0)) (.int .u8 (.ofNat 0))
def r4 : R AV := R.mk (.int .u8 (.ofNat 1)) (.int .u8 (.ofNat 0)) (.int .u8 (.ofNat 0)) (.int .u8 (.ofNat 0)) (.int .u8 (.ofNat 0)) (.int .u8 (.ofNat 0)) (.int .u8 (.ofNat 0)) (.int .u8 (.ofNat 0))
def b8 : R AV := R.mk .bad .bad .bad .bad .bad .bad .bad .bad
def z64 : R (R AV) := R.mk z8 z8 z8 z8 z8 z8 z8 z8
def b64 : R (R AV) := R.mk b8 b8 b8 b8 b8 b8 b8 b8
def spaceC : Cells := .c3 (R.mk (R.mk z8 r1 z8 z8 r4 z8 z8 z8 : R (R AV)) z64 z64 z64 b64 b64 b64 b64 : R (R (R AV)))
def doneC : Cells := .c1 (R.mk (.int .i64 (.negSucc 0)) (.int .i64 (.negSucc 0)) .bad .bad .bad .bad .bad .bad : R AV)
def H0 : Heap := Tr.put 5 (Tr.put 5 (Tr.rep Blk.dead 5) 0 (.cells true true 2 doneC)) 1 (.cells true true 256 spaceC)
def runS (args : List AV) (k : KR) : Bool := s3 1000000 (orac (tbl 1000000) (rtbl 1000000) 3000 false) (orac (tbl 1000000) (rtbl 1000000) 3000 true) args H0 8 k
def ckT : KR := fun v _ _ => v.ckBool fun b => b
end
end Ev
