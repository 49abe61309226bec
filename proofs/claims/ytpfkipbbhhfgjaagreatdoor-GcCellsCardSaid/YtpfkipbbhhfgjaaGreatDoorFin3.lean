/- A part of the proof that GcCells returns true: text Fin3. -/
import Derived.Test.YtpfkipbbhhfgjaaGreatDoorFin2
namespace Go.Proofs.YtpfkipbbhhfgjaaGreatDoor
open Go Go.ChangeShapes Go.WideShapes Go.ChangeAt Go.RowKit

/-! ### The row's own facts, one by one -/
theorem fa1 : Rows.gcCellsRow.wf (OpenSpec.ofChange Rows.gcCellsSpec) = true := by kernel_rfl
theorem fa2 : laidOutB Tryz.prog = true := by kernel_rfl
theorem fa3 : mapsRowed Tryz.prog = true := by kernel_rfl
theorem fa5 : namedTie Tryz.prog Rows.gcCellsRow.named Rows.gcCellsSpec.vars = true := by kernel_rfl
theorem fa10 : (Rows.gcCellsRow.inPlace == Tryz.prog.inPlace 3) = true := by kernel_rfl
theorem fa11 : (Rows.gcCellsRow.unfollowed == Tryz.prog.unfollowed 3) = true := by kernel_rfl
theorem fa12 : (Rows.gcCellsRow.recurses == Tryz.prog.recurses 3) = true := by kernel_rfl
theorem fa13 : (Rows.gcCellsRow.named == Tryz.prog.varsNamed 3) = true := by kernel_rfl
theorem fa22 : (Rows.gcCellsRow.plainKeys == Tryz.prog.plainKeys) = true := by kernel_rfl
theorem fa24 : Tryz.prog.mayEnter = true := by kernel_rfl
theorem fa24b : (Rows.gcCellsRow.lifted == Tryz.prog.liftsFinal) = true := by kernel_rfl
end Go.Proofs.YtpfkipbbhhfgjaaGreatDoor
