/- A part of the proof that GcRoom returns true: text TG2. -/
import Derived.Test.YtfhilpdbmfbbdaaGreatDoorFin1
import Derived.Test.YtfhilpdbmfbbdaaGreatDoorTie
import Derived.Test.YtfhilpdbmfbbdaaGreatDoorCards
import Derived.SevenTiedAt
namespace Go.Proofs.YtfhilpdbmfbbdaaGreatDoor
open Go
theorem wfText : Rows.gcRoomRow.wfByText (OpenSpec.ofChange Rows.gcRoomSpec) = true := by kernel_rfl
theorem isMain : Tryz.pinned.checked.prog.mainIs = some (true, "e39a51e91c4a6a9c4464736894e7854e810829ebe19bf04cda9b619c78c9e4a9".toList) := by kernel_rfl
theorem lks : true = Tryz.prog.looks [] := by kernel_rfl
theorem wsi5 : Tryz.prog.wantsStandIn 5 = false := by kernel_rfl
theorem fnm : Tryz.prog.funcNamed "leatwork/leatworklaw10.GcRoom" = some 3 := by kernel_rfl
/-- Where no function at all starts a goroutine, no call does. -/
theorem goesBy_of {P : Program} {c : OpenClaim} {f : FuncId} (hs : c.start = .entering) (hf : P.funcNamed c.func = some f) (h : P.funcs.any Func.goes = false) : false = c.goesBy P := by
  have one : ∀ g fn, P.funcs[g]? = some fn → Func.goes fn = false := fun g fn hg => by
    cases hx : Func.goes fn with
    | false => rfl
    | true =>
      obtain ⟨hlt, he⟩ := Array.getElem?_eq_some_iff.1 hg
      have : P.funcs.any Func.goes = true := Array.any_eq_true.2 ⟨g, hlt, by rw [he]; exact hx⟩
      rw [h] at this; cases this
  have hgo : P.goes f = false := by
    unfold Program.goes
    rw [h, Bool.and_false, Bool.or_false, List.any_eq_false]
    intro g _
    cases hg : P.funcs[g]? with
    | none => simp
    | some fn => simp [one g fn hg]
  unfold OpenClaim.goesBy Program.goesAt Program.goesFrom
  rw [hs, hf]
  simp [hgo]
end Go.Proofs.YtfhilpdbmfbbdaaGreatDoor
