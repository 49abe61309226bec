/- A part of the proof that GcNone returns true: text Ev26. -/
import Derived.Test.YtiegdojchlmfnaaGreatDoorEv25
namespace Ev
open Go
open Go.RowKit
noncomputable section

/-! ### A step beside blocks that it does not know of -/

def over (h : Nat → Blk) (ex : Nat → Option Blk) : Nat → Blk := fun b => (ex b).getD (h b)

theorem over_some {h : Nat → Blk} {ex : Nat → Option Blk} {b : Nat} {x : Blk} (e : ex b = some x) : over h ex b = x := by simp [over, e]
theorem over_none {h : Nat → Blk} {ex : Nat → Option Blk} {b : Nat} (e : ex b = none) : over h ex b = h b := by simp [over, e]

theorem HRel.under {P : Program} {θ : Theta} {h : Nat → Blk} {ex : Nat → Option Blk} {B : Nat} {w : World} (r : HRel P θ (over h ex) B w) (hd : ∀ b x, ex b = some x → h b = .dead) : HRel P θ h B w :=
  r.weaken fun b hb => by
    cases e : ex b with
    | none => exact (over_none e).symm
    | some x => exact absurd (hd b x e) hb

theorem Went.over {P : Program} {θ θ' : Theta} {h h' : Nat → Blk} {ex : Nat → Option Blk} {n n' B : Nat} {w w' : World} (r : HRel P θ (over h ex) B w) (hd : ∀ b x, ex b = some x → h b = .dead)
    (k : Went P θ h n B w θ' h' n' w') : Went P θ (Ev.over h ex) n B w θ' (Ev.over h' ex) n' w' := by
  have far : ∀ b x l, ex b = some x → x ≠ .dead → θ.blk b = some l → ∀ b0 l0, h b0 ≠ .dead → θ.blk b0 = some l0 → l0.blk ≠ l.blk := by
    intro b x l e hx hl b0 l0 h0 hl0 e0
    have hb0 : ex b0 = none := by
      cases e1 : ex b0 with
      | none => rfl
      | some y => exact absurd (hd b0 y e1) h0
    have := r.inj b b0 l l0 (by rw [over_some e]; exact hx) (by rw [over_none hb0]; exact h0) hl hl0 e0.symm
    subst this
    rw [e] at hb0; cases hb0
  have same : ∀ b x l, ex b = some x → x ≠ .dead → θ.blk b = some l → l.blk < w.heap.size ∧ w'.heap[l.blk]? = w.heap[l.blk]? := by
    intro b x l e hx hl
    have hlt : l.blk < w.heap.size := r.lt (b := b) (by rw [over_some e]; exact hx) hl
    exact ⟨hlt, k.frm.block _ hlt fun b0 l0 h0 hl0 => far b x l e hx hl b0 l0 (own_ne h0) hl0⟩
  refine ⟨k.le, k.num, k.old, ⟨fun b hb => ?_, fun b b' l l' hb hb' hl hl' el => ?_⟩, k.fresh, ?_, ?_⟩
  · cases e : ex b with
    | none =>
      rw [over_none e] at hb ⊢
      exact k.rel.blk b hb
    | some x =>
      rw [over_some e] at hb ⊢
      obtain ⟨l, hl, hlt, hr⟩ := r.blk b (by rw [over_some e]; exact hb)
      rw [over_some e] at hr
      exact ⟨l, k.le.1 _ _ hl, Nat.lt_of_lt_of_le hlt k.frm.size, hr.keep k.le (same b x l e hb hl).2⟩
  · have cross : ∀ b x l, ex b = some x → x ≠ .dead → θ'.blk b = some l → ∀ b' l', ex b' = none → h' b' ≠ .dead → θ'.blk b' = some l' → l.blk ≠ l'.blk := by
      intro b x l e hx hl b' l' e' hb' hl' el
      obtain ⟨l0, hl0, _⟩ := r.blk b (by rw [over_some e]; exact hx)
      have := k.le.1 _ _ hl0
      rw [hl] at this; injection this with this; subst this
      obtain ⟨hlt, _⟩ := same b x l e hx hl0
      rcases k.grows.any b' l' hb' hl' with ⟨b0, l1, h0, t0, e0⟩ | hge
      · exact far b x l e hx hl0 b0 l1 h0 t0 (e0.trans el.symm)
      · omega
    cases e : ex b with
    | none =>
      rw [over_none e] at hb
      cases e' : ex b' with
      | none =>
        rw [over_none e'] at hb'
        exact k.rel.inj b b' l l' hb hb' hl hl' el
      | some x =>
        rw [over_some e'] at hb'
        exact absurd el.symm (cross b' x l' e' hb' hl' b l e hb hl)
    | some x =>
      rw [over_some e] at hb
      cases e' : ex b' with
      | none =>
        rw [over_none e'] at hb'
        exact absurd el (cross b x l e hb hl b' l' e' hb' hl')
      | some y =>
        rw [over_some e'] at hb'
        obtain ⟨l0, hl0, _⟩ := r.blk b (by rw [over_some e]; exact hb)
        obtain ⟨l1, hl1, _⟩ := r.blk b' (by rw [over_some e']; exact hb')
        have t0 := k.le.1 _ _ hl0
        have t1 := k.le.1 _ _ hl1
        rw [hl] at t0; injection t0 with t0; subst t0
        rw [hl'] at t1; injection t1 with t1; subst t1
        exact r.inj b b' l l' (by rw [over_some e]; exact hb) (by rw [over_some e']; exact hb') hl0 hl1 el
  · refine ⟨k.frm.os, k.frm.tape, k.frm.output, k.frm.size, fun q hq hn => k.frm.block q hq fun b l hb hl => hn b l ?_ hl⟩
    cases e : ex b with
    | none => rw [over_none e]; exact hb
    | some x => exact absurd (hd b x e) (own_ne hb)
  · have back : ∀ b0, h b0 ≠ .dead → Ev.over h ex b0 = h b0 := by
      intro b0 h0
      cases e : ex b0 with
      | none => exact over_none e
      | some x => exact absurd (hd b0 x e) h0
    have old : ∀ b x l, ex b = some x → x ≠ .dead → θ'.blk b = some l → θ.blk b = some l := by
      intro b x l e hx hl
      obtain ⟨l0, hl0, _⟩ := r.blk b (by rw [over_some e]; exact hx)
      have := k.le.1 _ _ hl0
      rw [hl] at this; injection this with this; subst this
      exact hl0
    refine ⟨fun b l hb hl => ?_, fun b l hb hl => ?_⟩
    · cases e : ex b with
      | none =>
        rw [over_none e] at hb
        rcases k.grows.own b l hb hl with ⟨b0, l0, h0, t0, e0⟩ | hge
        · exact .inl ⟨b0, l0, by rw [back b0 (own_ne h0)]; exact h0, t0, e0⟩
        · exact .inr hge
      | some x =>
        rw [over_some e] at hb
        exact .inl ⟨b, l, by rw [over_some e]; exact hb, old b x l e (own_ne hb) hl, rfl⟩
    · cases e : ex b with
      | none =>
        rw [over_none e] at hb
        rcases k.grows.any b l hb hl with ⟨b0, l0, h0, t0, e0⟩ | hge
        · exact .inl ⟨b0, l0, by rw [back b0 h0]; exact h0, t0, e0⟩
        · exact .inr hge
      | some x =>
        rw [over_some e] at hb
        exact .inl ⟨b, l, by rw [over_some e]; exact hb, old b x l e hb hl, rfl⟩

end
end Ev
