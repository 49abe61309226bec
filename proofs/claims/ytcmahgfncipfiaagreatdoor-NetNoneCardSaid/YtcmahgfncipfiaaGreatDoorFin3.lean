/- A part of the proof that NetNone returns true: text Fin3. -/
import Derived.Test.YtcmahgfncipfiaaGreatDoorFin2
namespace Go.Proofs.YtcmahgfncipfiaaGreatDoor
open Go Go.ChangeShapes Go.WideShapes Go.ChangeAt Go.RowKit

/-! ### The row's own facts, one by one -/
theorem fa1 : Rows.netNoneRow.wf (OpenSpec.ofChange Rows.netNoneSpec) = true := by kernel_rfl
theorem fa2 : laidOutB Tryz.prog = true := by kernel_rfl
theorem fa3 : mapsRowed Tryz.prog = true := by kernel_rfl
theorem fa5 : namedTie Tryz.prog Rows.netNoneRow.named Rows.netNoneSpec.vars = true := by kernel_rfl
theorem fa10 : (Rows.netNoneRow.inPlace == Tryz.prog.inPlace 3) = true := by kernel_rfl
theorem fa11 : (Rows.netNoneRow.unfollowed == Tryz.prog.unfollowed 3) = true := by kernel_rfl
theorem fa12 : (Rows.netNoneRow.recurses == Tryz.prog.recurses 3) = true := by kernel_rfl
theorem fa13 : (Rows.netNoneRow.named == Tryz.prog.varsNamed 3) = true := by kernel_rfl
theorem fa22 : (Rows.netNoneRow.plainKeys == Tryz.prog.plainKeys) = true := by kernel_rfl
theorem fa24 : Tryz.prog.mayEnter = true := by kernel_rfl
theorem fa24b : (Rows.netNoneRow.lifted == Tryz.prog.liftsFinal) = true := by kernel_rfl
end Go.Proofs.YtcmahgfncipfiaaGreatDoor
