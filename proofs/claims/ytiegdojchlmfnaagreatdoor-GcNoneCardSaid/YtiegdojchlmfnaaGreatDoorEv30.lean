/- A part of the proof that GcNone returns true: text Ev30. -/
import Derived.Test.YtiegdojchlmfnaaGreatDoorEv29
namespace Ev
open Go
open Go.RowKit
noncomputable section

section
variable {P : Program} {ops : Array Oper} {ms : List Nat} {env0 : List AV} {H0 : Heap} {n0 n1 : Nat} {R : List Row} {V : List (Heap × Nat)} {hv : List Nat}

theorem all_listed (g : RegOK P ops ms) {L : Array Bool} (hs : L.size = ops.size) (h : Region.ready .any ops L = []) : ∀ i, i < ops.size → L.getD i false = true := by
  intro i
  induction i using Nat.strongRecOn with
  | ind i ih =>
    intro hi
    cases hl : L.getD i false with
    | true => rfl
    | false =>
      have ho : ops[i]? = some ops[i] := by simp [hi]
      have : i ∈ Region.ready .any ops L := by
        refine mem_ready.2 ⟨?_, ops[i], ho, fun e he hb => ?_⟩
        · simp only [Array.getD_eq_getD_getElem?] at hl ⊢
          rw [Array.getElem?_eq_getElem (by omega)] at hl ⊢
          simpa using hl
        · have := g.back i _ ho e he hb
          exact ih _ this (by omega)
      rw [h] at this; cases this

/-- All is listed: where it comes to. -/
theorem Inv.final {S : Start} {L : Array Bool} {j : Nat} {H : Heap} {n : Nat} {a : Act} {w : World} {θ : Theta} (g : Good P ops ms env0 H0 n0 n1 R V hv) (s : Inv P ops ms env0 n0 n1 R V hv S L j H n a w θ) (h : Region.ready .any ops L = []) {env' : List AV} (he : EnvAt ops env0 R ops.size env') :
    V[hv.length]? = some (H, n) ∧ Now P S env' (layP (exs (fun x => Ev.free ms x hv) 0 R) H) n a w θ := by
  have all := all_listed g.reg s.size h
  have hlt : ∀ {i : Nat} {o : Oper}, ops[i]? = some o → i < ops.size := fun {i o} ho => by
    rcases Nat.lt_or_ge i ops.size with h' | h'
    · exact h'
    · rw [Array.getElem?_eq_none h'] at ho; cases ho
  have hj : hv.length ≤ j := by
    rcases Nat.lt_or_ge j hv.length with h' | h'
    · have hq : hv[j]? = some hv[j] := List.getElem?_eq_getElem h'
      obtain ⟨o, ho, _⟩ := g.hvc j _ hq
      have := (s.ver j _ hq).1 (all _ (hlt ho))
      omega
    · exact h'
  have hj' : j = hv.length := by
    have := s.at_
    rcases Nat.lt_or_ge j V.length with h' | h'
    · rw [g.vl] at h'; omega
    · rw [List.getElem?_eq_none h'] at this; cases this
  have hkeep : EX R (kp ms hv L j) = EX R (fun x => Ev.free ms x hv) := EX_congr g.ids fun x r b hx _ => by
    have hx' : x < ops.size := by
      rcases Nat.lt_or_ge x ops.size with h' | h'
      · exact h'
      · rw [List.getElem?_eq_none (by rw [g.rows]; exact h')] at hx; cases hx
    simp only [kp, all x hx', Bool.true_and]
    rw [List.take_of_length_le hj]
  have hc := s.core
  rw [hkeep, ← lay_EX g.ids] at hc
  refine ⟨hj' ▸ s.at_, hc.low, hc.went, hc.glob, fun t => ?_, by rw [he.len]; exact s.tmps.len, hc.defs⟩
  by_cases ht : t < env0.length
  · by_cases hw : ∃ (i : Nat) (o : Oper), ops[i]? = some o ∧ o.dst = some t
    · obtain ⟨i, o, ho, hd⟩ := hw
      have hi := hlt ho
      have hr : R[i]? = some (R[i]'(by rw [g.rows]; exact hi)) := List.getElem?_eq_getElem (by rw [g.rows]; exact hi)
      rw [he.wrote i o _ t hi ho hr hd ht]
      exact s.tmps.wrote i o _ t (all i hi) ho hr hd ht
    · rw [he.old t fun i o _ ho hd => hw ⟨i, o, ho, hd⟩]
      exact s.tmps.old t fun i o _ ho hd => hw ⟨i, o, ho, hd⟩
  · left
    rw [List.getD_eq_getElem?_getD, List.getElem?_eq_none (by rw [he.len]; omega)]
    rfl

theorem count_set_lt : ∀ {l : List Bool} {i : Nat}, l[i]? = some false → (l.set i true).count false < l.count false
  | [], i, h => by simp at h
  | b :: l, 0, h => by simp at h; subst h; simp
  | b :: l, i + 1, h => by
    have := count_set_lt (l := l) (i := i) (by simpa using h)
    simp only [List.set_cons_succ, List.count_cons]
    omega

theorem Inv.any (g : Good P ops ms env0 H0 n0 n1 R V hv) {S : Start} {Fe : Fence} {m : Nat} {Q : Exit → Act → World → Prop} (hL : LooseR Fe) {env' : List AV} (he : EnvAt ops env0 R ops.size env') {Hm : Heap} {nm : Nat} (hV : V[hv.length]? = some (Hm, nm))
    (hQ : ∀ a w θ, Now P S env' (layP (exs (fun x => Ev.free ms x hv) 0 R) Hm) nm a w θ → Q .normal a w) :
    ∀ (fuel : Nat) (L : Array Bool) (j : Nat) (H : Heap) (n : Nat) (a : Act) (w : World) (θ : Theta), Inv P ops ms env0 n0 n1 R V hv S L j H n a w θ → L.toList.count false ≤ fuel → wpAnyIn Fe m P .any ops Q fuel L a w := by
  have fin : ∀ {L : Array Bool} {j : Nat} {H : Heap} {n : Nat} {a : Act} {w : World} {θ : Theta}, Inv P ops ms env0 n0 n1 R V hv S L j H n a w θ → Region.ready .any ops L = [] → Q .normal a w := fun s h => by
    obtain ⟨h1, h2⟩ := s.final g h he
    rw [hV] at h1; injection h1 with h1; injection h1 with e1 e2; subst e1; subst e2
    exact hQ _ _ _ h2
  intro fuel
  induction fuel with
  | zero =>
    intro L j H n a w θ s hc
    have hr : Region.ready .any ops L = [] := by
      cases hr : Region.ready .any ops L with
      | nil => rfl
      | cons i rs =>
        have hi : i ∈ Region.ready .any ops L := by rw [hr]; simp
        have h1 := (mem_ready.1 hi).1
        have h2 : L.toList[i]? = some false := by
          obtain ⟨hlt, h3⟩ := ready_not s.size hi
          have : i < L.size := by rw [s.size]; exact hlt
          simp [Array.getD_eq_getD_getElem?, this] at h3
          simp [this, h3]
        have := count_set_lt h2
        omega
    exact ⟨hr, fin s hr⟩
  | succ fuel ih =>
    intro L j H n a w θ s hc
    refine ⟨fun hr => fin s hr, fun i hi => ?_⟩
    refine s.op g hi hL fun j' H' n' a' w' θ' s' => ih _ _ _ _ _ _ _ s' ?_
    have h2 : L.toList[i]? = some false := by
      obtain ⟨hlt, h3⟩ := ready_not s.size hi
      have : i < L.size := by rw [s.size]; exact hlt
      simp [Array.getD_eq_getD_getElem?, this] at h3
      simp [this, h3]
    have := count_set_lt h2
    rw [Array.toList_setIfInBounds]
    omega

/-- A region that draws its order comes to one end. -/
theorem Good.goes {t : Bool} (g : Good P ops ms env0 H0 n0 n1 R V hv) (hm : P.follows .mixedOrders = true) {env' : List AV} (he : EnvAt ops env0 R ops.size env') {Hm : Heap} {nm : Nat} (hV : V[hv.length]? = some (Hm, nm)) (id : Nat) :
    CodeGoes t P (.region id ops true) env0 H0 n0 env' (layP (exs (fun x => Ev.free ms x hv) 0 R) Hm) nm := by
  intro Fe m S a w θ Q hL s hQ
  refine wpIn_region_any hm ?_
  have hf : ∀ i, (Array.replicate ops.size false).getD i false = false := fun i => by
    simp only [Array.getD_eq_getD_getElem?, Array.getElem?_replicate]
    split <;> rfl
  have hk : EX R (kp ms hv (Array.replicate ops.size false) 0) = fun _ => none := by
    funext x
    exact (EX_none g.ids).2 fun a r b _ _ _ => by simp only [kp, hf, Bool.false_and]
  have h0 : over (hfn H0) (EX R (kp ms hv (Array.replicate ops.size false) 0)) = hfn H0 := by rw [hk]; rfl
  refine Inv.any g hL.1 he hV (fun a' w' θ' s' => hQ a' w' θ' s') ops.size _ 0 H0 n1 a { w with drawn := w.drawn + 1 } θ ⟨by simp, fun q o hq => ?_, fun k q hq => ?_, g.v0, Nat.le_refl _, s.went.num, ?_, fun x r b hx hb _ => ?_, fun x r b _ _ hx => ?_, ⟨fun i o r t hi => ?_, fun t _ => s.tmps t, s.len⟩⟩ (by simp)
  · rw [hf] at hq; cases hq
  · rw [hf]; simp
  · rw [h0]
    exact ⟨s.low, (s.went.upto g.num).drawn _, s.glob, s.defs.drawn _⟩
  · exact s.went.fresh _ (g.ids.lo x r b hx hb).1
  · rw [hf] at hx; cases hx
  · rw [hf] at hi; cases hi

end
end
end Ev
