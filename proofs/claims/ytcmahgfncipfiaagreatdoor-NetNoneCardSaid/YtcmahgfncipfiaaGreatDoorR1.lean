/- A part of the proof that NetNone returns true: text R1. -/
import Derived.Test.YtcmahgfncipfiaaGreatDoorRun1
namespace Ev
open Go Go.Proofs
theorem run_true (i : Int) : runS [.int .i64 i, .opq 0, .bool true] ckT = true := by kernel_rfl
theorem run_false (i : Int) : runS [.int .i64 i, .opq 0, .bool false] ckT = true := by kernel_rfl
end Ev
