/- A part of the proof that GcRoom returns true: text Seg. -/
import Derived.Test.YtfhilpdbmfbbdaaGreatDoorLpA
namespace Ev
open Go Go.Proofs
/-- From a collected state to the start of the next round but one or so. -/
noncomputable def segC (q m z : Nat) (dN : Int) (lo : Nat) : Bool := layL H0 (stC q lo 255) fun H => runK true m 0 env0 H 264 fun env H _ => chkS true (sg (.lit z) 23 dN 0 255 m) [0, 2] H0 (stA true 0 255) env0 env H
noncomputable def lastQ (q m lo : Nat) : Bool := layL H0 (stC q lo lo) fun H => runK true m 0 env0 H 264 (endD true)
noncomputable def rndA (fam : Bool) : Bool := layL H0 (stA fam 1 255) fun H => runK true 14 0 env0 H 264 fun env H _ => chkS true (sg (.num 0 8) (bif fam then 23 else 24) (-1) 0 255 14) [0, 2] H0 (stA fam 0 255) env0 env H
theorem rnd0 : rndA false = true := by kernel_rfl
theorem rnd1 : rndA true = true := by kernel_rfl
theorem last0 : lastA false = true := by kernel_rfl
theorem last1 : lastA true = true := by kernel_rfl
theorem seg0 : segC 0 14 28 (-1) 1 = true := by kernel_rfl
theorem seg1 : segC 1 13 28 (-1) 1 = true := by kernel_rfl
theorem seg2 : segC 2 12 28 (-1) 1 = true := by kernel_rfl
theorem seg3 : segC 3 11 28 (-1) 1 = true := by kernel_rfl
theorem seg4 : segC 4 10 28 (-1) 1 = true := by kernel_rfl
theorem seg5 : segC 5 9 27 (-1) 1 = true := by kernel_rfl
theorem seg6 : segC 6 8 25 (-1) 1 = true := by kernel_rfl
theorem seg7 : segC 7 7 24 (-1) 1 = true := by kernel_rfl
theorem seg8 : segC 8 6 24 (-1) 1 = true := by kernel_rfl
theorem seg9 : segC 9 5 24 (-1) 1 = true := by kernel_rfl
theorem seg10 : segC 10 4 24 (-1) 1 = true := by kernel_rfl
theorem seg11 : segC 11 3 24 (-1) 1 = true := by kernel_rfl
theorem seg12 : segC 12 16 31 (-2) 2 = true := by kernel_rfl
theorem seg13 : segC 13 15 28 (-2) 2 = true := by kernel_rfl
theorem lastq0 : lastQ 0 8 0 = true := by kernel_rfl
theorem lastq1 : lastQ 1 7 0 = true := by kernel_rfl
theorem lastq2 : lastQ 2 6 0 = true := by kernel_rfl
theorem lastq3 : lastQ 3 5 0 = true := by kernel_rfl
theorem lastq4 : lastQ 4 4 0 = true := by kernel_rfl
theorem lastq5 : lastQ 5 3 0 = true := by kernel_rfl
theorem lastq12 : lastQ 12 10 1 = true := by kernel_rfl
theorem lastq13 : lastQ 13 9 1 = true := by kernel_rfl
end Ev
