/- A part of the proof that GcCells returns true: text R1. -/
import Derived.Test.YtpfkipbbhhfgjaaGreatDoorRun1
namespace Ev
open Go Go.Proofs
theorem run_0_true : runS [.int .u8 (.ofNat 0), .bool true] ckT = true := by kernel_rfl
theorem run_0_false : runS [.int .u8 (.ofNat 0), .bool false] ckT = true := by kernel_rfl
theorem run_1_true : runS [.int .u8 (.ofNat 1), .bool true] ckT = true := by kernel_rfl
theorem run_1_false : runS [.int .u8 (.ofNat 1), .bool false] ckT = true := by kernel_rfl
end Ev
