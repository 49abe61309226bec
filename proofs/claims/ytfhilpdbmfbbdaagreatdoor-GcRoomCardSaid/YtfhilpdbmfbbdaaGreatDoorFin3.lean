/- A part of the proof that GcRoom returns true: text Fin3. -/
import Derived.Test.YtfhilpdbmfbbdaaGreatDoorFin2
namespace Go.Proofs.YtfhilpdbmfbbdaaGreatDoor
open Go Go.ChangeShapes Go.WideShapes Go.ChangeAt Go.RowKit

/-! ### The row's own facts, one by one -/
theorem fa1 : Rows.gcRoomRow.wf (OpenSpec.ofChange Rows.gcRoomSpec) = true := by kernel_rfl
theorem fa2 : laidOutB Tryz.prog = true := by kernel_rfl
theorem fa3 : mapsRowed Tryz.prog = true := by kernel_rfl
theorem fa5 : namedTie Tryz.prog Rows.gcRoomRow.named Rows.gcRoomSpec.vars = true := by kernel_rfl
theorem fa10 : (Rows.gcRoomRow.inPlace == Tryz.prog.inPlace 3) = true := by kernel_rfl
theorem fa11 : (Rows.gcRoomRow.unfollowed == Tryz.prog.unfollowed 3) = true := by kernel_rfl
theorem fa12 : (Rows.gcRoomRow.recurses == Tryz.prog.recurses 3) = true := by kernel_rfl
theorem fa13 : (Rows.gcRoomRow.named == Tryz.prog.varsNamed 3) = true := by kernel_rfl
theorem fa22 : (Rows.gcRoomRow.plainKeys == Tryz.prog.plainKeys) = true := by kernel_rfl
theorem fa24 : Tryz.prog.mayEnter = true := by kernel_rfl
theorem fa24b : (Rows.gcRoomRow.lifted == Tryz.prog.liftsFinal) = true := by kernel_rfl
end Go.Proofs.YtfhilpdbmfbbdaaGreatDoor
