/- A part of the proof that GcCells returns true: text Calm. -/
import Derived.Test.YtpfkipbbhhfgjaaGreatDoorEvH
import Derived.Test.YtpfkipbbhhfgjaaGreatDoorProg
namespace Ev
open Go Go.Proofs
def calmC : Nat → Bool := fun _ => false
theorem calm_ok : ∀ f, calmC f = true → CalmD Tryz.prog f := fun _ h => (Bool.false_ne_true h).elim
end Ev
