/- A part of the proof that NetNone returns true: text TG. -/
import Derived.Test.YtcmahgfncipfiaaGreatDoorFin1
import Derived.Test.YtcmahgfncipfiaaGreatDoorCards
namespace Go.Proofs.YtcmahgfncipfiaaGreatDoor
open Go
theorem nogo : Tryz.prog.funcs.any Func.goes = false := by kernel_rfl
end Go.Proofs.YtcmahgfncipfiaaGreatDoor
