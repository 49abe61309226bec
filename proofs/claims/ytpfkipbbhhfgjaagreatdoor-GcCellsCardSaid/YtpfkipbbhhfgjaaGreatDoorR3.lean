/- A part of the proof that GcCells returns true: text R3. -/
import Derived.Test.YtpfkipbbhhfgjaaGreatDoorRun1
namespace Ev
open Go Go.Proofs
theorem run_4_true : runS [.int .u8 (.ofNat 4), .bool true] ckT = true := by kernel_rfl
theorem run_4_false : runS [.int .u8 (.ofNat 4), .bool false] ckT = true := by kernel_rfl
theorem run_5_true : runS [.int .u8 (.ofNat 5), .bool true] ckT = true := by kernel_rfl
theorem run_5_false : runS [.int .u8 (.ofNat 5), .bool false] ckT = true := by kernel_rfl
end Ev
