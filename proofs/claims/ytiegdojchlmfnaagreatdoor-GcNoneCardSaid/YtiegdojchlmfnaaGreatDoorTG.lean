/- A part of the proof that GcNone returns true: text TG. -/
import Derived.Test.YtiegdojchlmfnaaGreatDoorFin1
import Derived.Test.YtiegdojchlmfnaaGreatDoorCards
namespace Go.Proofs.YtiegdojchlmfnaaGreatDoor
open Go
theorem nogo : Tryz.prog.funcs.any Func.goes = false := by kernel_rfl
end Go.Proofs.YtiegdojchlmfnaaGreatDoor
