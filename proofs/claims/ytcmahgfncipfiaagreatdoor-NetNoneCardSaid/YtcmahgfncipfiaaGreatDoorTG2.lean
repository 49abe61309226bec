/- A part of the proof that NetNone returns true: text TG2. -/
import Derived.Test.YtcmahgfncipfiaaGreatDoorFin1
import Derived.Test.YtcmahgfncipfiaaGreatDoorTie
import Derived.Test.YtcmahgfncipfiaaGreatDoorCards
import Derived.SevenTiedAt
namespace Go.Proofs.YtcmahgfncipfiaaGreatDoor
open Go
theorem wfText : Rows.netNoneRow.wfByText (OpenSpec.ofChange Rows.netNoneSpec) = true := by kernel_rfl
theorem isMain : Tryz.pinned.checked.prog.mainIs = some (true, "a5f95c3ac3d8ece297802ff39dd6fe32ac8b6cb2f5da2e8dc222ff3a9f6937b8".toList) := by kernel_rfl
theorem lks : true = Tryz.prog.looks [] := by kernel_rfl
theorem wsi3 : Tryz.prog.wantsStandIn 3 = false := by kernel_rfl
theorem wsi22 : Tryz.prog.wantsStandIn 22 = false := by kernel_rfl
theorem wsi4 : Tryz.prog.wantsStandIn 4 = false := by kernel_rfl
theorem fnm : Tryz.prog.funcNamed "leatwork/leatworklaw18.NetNone" = some 3 := by kernel_rfl
/-- Where no function at all starts a goroutine, no call does. -/
theorem goesBy_of {P : Program} {c : OpenClaim} {f : FuncId} (hs : c.start = .entering) (hf : P.funcNamed c.func = some f) (h : P.funcs.any Func.goes = false) : false = c.goesBy P := by
  have one : ∀ g fn, P.funcs[g]? = some fn → Func.goes fn = false := fun g fn hg => by
    cases hx : Func.goes fn with
    | false => rfl
    | true =>
      obtain ⟨hlt, he⟩ := Array.getElem?_eq_some_iff.1 hg
      have : P.funcs.any Func.goes = true := Array.any_eq_true.2 ⟨g, hlt, by rw [he]; exact hx⟩
      rw [h] at this; cases this
  have hgo : P.goes f = false := by
    unfold Program.goes
    rw [h, Bool.and_false, Bool.or_false, List.any_eq_false]
    intro g _
    cases hg : P.funcs[g]? with
    | none => simp
    | some fn => simp [one g fn hg]
  unfold OpenClaim.goesBy Program.goesAt Program.goesFrom
  rw [hs, hf]
  simp [hgo]
end Go.Proofs.YtcmahgfncipfiaaGreatDoor
