/- A part of the proof that GcNone returns true: text Fin3. -/
import Derived.Test.YtiegdojchlmfnaaGreatDoorFin2
namespace Go.Proofs.YtiegdojchlmfnaaGreatDoor
open Go Go.ChangeShapes Go.WideShapes Go.ChangeAt Go.RowKit

/-! ### The row's own facts, one by one -/
theorem fa1 : Rows.gcNoneRow.wf (OpenSpec.ofChange Rows.gcNoneSpec) = true := by kernel_rfl
theorem fa2 : laidOutB Tryz.prog = true := by kernel_rfl
theorem fa3 : mapsRowed Tryz.prog = true := by kernel_rfl
theorem fa5 : namedTie Tryz.prog Rows.gcNoneRow.named Rows.gcNoneSpec.vars = true := by kernel_rfl
theorem fa10 : (Rows.gcNoneRow.inPlace == Tryz.prog.inPlace 3) = true := by kernel_rfl
theorem fa11 : (Rows.gcNoneRow.unfollowed == Tryz.prog.unfollowed 3) = true := by kernel_rfl
theorem fa12 : (Rows.gcNoneRow.recurses == Tryz.prog.recurses 3) = true := by kernel_rfl
theorem fa13 : (Rows.gcNoneRow.named == Tryz.prog.varsNamed 3) = true := by kernel_rfl
theorem fa22 : (Rows.gcNoneRow.plainKeys == Tryz.prog.plainKeys) = true := by kernel_rfl
theorem fa24 : Tryz.prog.mayEnter = true := by kernel_rfl
theorem fa24b : (Rows.gcNoneRow.lifted == Tryz.prog.liftsFinal) = true := by kernel_rfl
end Go.Proofs.YtiegdojchlmfnaaGreatDoor
