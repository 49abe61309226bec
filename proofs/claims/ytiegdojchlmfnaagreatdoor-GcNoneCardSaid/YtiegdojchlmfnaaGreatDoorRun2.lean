/- A part of the proof that GcNone returns true: text Run2. -/
import Derived.Test.YtiegdojchlmfnaaGreatDoorRun1
namespace Ev
open Go Go.Proofs
theorem run (z : Int) : runAt 3000 3 [.int .i64 z] (fun v _ _ => v.ckBool fun b => b) = true := by kernel_rfl
end Ev
