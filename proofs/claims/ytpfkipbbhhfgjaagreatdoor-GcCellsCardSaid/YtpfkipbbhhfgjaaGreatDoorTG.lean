/- A part of the proof that GcCells returns true: text TG. -/
import Derived.Test.YtpfkipbbhhfgjaaGreatDoorFin1
import Derived.Test.YtpfkipbbhhfgjaaGreatDoorCards
namespace Go.Proofs.YtpfkipbbhhfgjaaGreatDoor
open Go
theorem nogo : Tryz.prog.funcs.any Func.goes = false := by kernel_rfl
end Go.Proofs.YtpfkipbbhhfgjaaGreatDoor
