/- A part of the proof that NetNone returns true: text Calm. -/
import Derived.Test.YtcmahgfncipfiaaGreatDoorEvI
import Derived.Test.YtcmahgfncipfiaaGreatDoorProg
namespace Ev
open Go Go.Proofs Go.RowKit

noncomputable def calmC : Nat → Bool := fun f => Nat.beq f 240
noncomputable def codeK : Code := bodyOf Tryz.f240
noncomputable def opK (p : List Nat) (i : Nat) : Oper := (match codeAt codeK p with | some (.region _ ops _) => ops[i]? | _ => none).getD default
noncomputable def subK (p : List Nat) : Code := (codeAt codeK p).getD .skip
noncomputable def atK : Array TypeId := match (opK [0] 0).op with | .call c => c.argTypes | _ => #[]
noncomputable def yK (o : Oper) : Nat := match o.op with | .binOp _ _ _ _ y => y | _ => 0
theorem says240 : ∃ v, Says Tryz.prog (opK [1, 0] 1) v := by
  obtain ⟨v, _, h⟩ := pureOp_ok (P := Tryz.prog) (env := []) (o := opK [1, 0] 1) (k := fun _ => true) (by kernel_rfl)
  have hno : (opK [1, 0] 1).op.operands = #[] := by kernel_rfl
  have h' : ∀ (a : Act) (w : World), ∃ v', (execOp a.eval (opK [1, 0] 1)).run Tryz.prog w = .ok (.value v') w ∧ VR ⟨fun _ => none, fun _ => none⟩ v v' := fun a w => h _ a w (fun x hx => by rw [hno] at hx; simp at hx)
  have hk : pureOp Tryz.prog [] (opK [1, 0] 1) (fun v => AV.ckAgg v fun l => List.casesOn (motive := fun _ => Bool) l true fun _ _ => false) = true := by kernel_rfl
  obtain ⟨u, hu, hs⟩ := pureOp_ok hk
  obtain ⟨l, rfl, hl⟩ := ckAgg_iff.1 hu
  cases l with
  | cons a l => cases hl
  | nil =>
    refine ⟨.agg #[], fun a w => ?_⟩
    obtain ⟨v', hr, hv⟩ := hs ⟨fun _ => none, fun _ => none⟩ a w (fun x hx => by rw [hno] at hx; simp at hx)
    obtain ⟨vs, hc, e⟩ := hv.agg
    simp only [concs, Option.some.injEq] at hc
    subst hc
    rw [hr, e]
theorem calm_ok : ∀ f, calmC f = true → CalmD Tryz.prog f := by
  intro f hf
  obtain rfl : f = 240 := Nat.eq_of_beq_eq_true hf
  obtain ⟨v5, p3⟩ := says240
  exact calmD_of (m := Tryz.f240.ntmps) (i0 := 0) (i1 := 1) (i2 := 3) (tl := 301) (ti := 20) (t3 := 20) (o0 := opK [0] 0) (o1 := opK [0] 1) (o2 := opK [1, 0] 0) (o3 := opK [1, 0] 1) (o4 := opK [1, 0] 2) (o5 := opK [1, 0] 3) (o6 := opK [1, 1, 1, 0] 0) (o7 := opK [1, 1, 1, 0] 1)
    (at0 := atK) (y1 := yK (opK [1, 0] 3)) (y2 := yK (opK [1, 1, 1, 0] 1)) (X := subK [1, 1, 0]) (Y := subK [1, 1, 1, 1, 0]) Tryz.call240 Tryz.func240 rfl (by decide +kernel) (by kernel_rfl) (by kernel_rfl)
    (by kernel_rfl) (by kernel_rfl) (by kernel_rfl) (by kernel_rfl) (by kernel_rfl) (by kernel_rfl) (by kernel_rfl) (by kernel_rfl)
    (by kernel_rfl) (by kernel_rfl) (by kernel_rfl) (by kernel_rfl) (by kernel_rfl) (by kernel_rfl) (by kernel_rfl) (by kernel_rfl)
    (by kernel_rfl) (by kernel_rfl) (by kernel_rfl) p3 (by kernel_rfl) (by kernel_rfl) (by kernel_rfl) (by kernel_rfl) Tryz.underlying301 (by simp) Tryz.underlying20 rfl

end Ev
