/- A part of the proof that GcRoom returns true: text TG. -/
import Derived.Test.YtfhilpdbmfbbdaaGreatDoorFin1
import Derived.Test.YtfhilpdbmfbbdaaGreatDoorCards
namespace Go.Proofs.YtfhilpdbmfbbdaaGreatDoor
open Go
theorem nogo : Tryz.prog.funcs.any Func.goes = false := by kernel_rfl
end Go.Proofs.YtfhilpdbmfbbdaaGreatDoor
