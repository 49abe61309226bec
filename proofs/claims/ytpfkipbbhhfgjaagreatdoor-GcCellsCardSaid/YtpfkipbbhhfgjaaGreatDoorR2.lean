/- A part of the proof that GcCells returns true: text R2. -/
import Derived.Test.YtpfkipbbhhfgjaaGreatDoorRun1
namespace Ev
open Go Go.Proofs
theorem run_2_true : runS [.int .u8 (.ofNat 2), .bool true] ckT = true := by kernel_rfl
theorem run_2_false : runS [.int .u8 (.ofNat 2), .bool false] ckT = true := by kernel_rfl
theorem run_3_true : runS [.int .u8 (.ofNat 3), .bool true] ckT = true := by kernel_rfl
theorem run_3_false : runS [.int .u8 (.ofNat 3), .bool false] ckT = true := by kernel_rfl
end Ev
