/- A part of the proof that GcNone returns true: text Ev25. -/
import Derived.Test.YtiegdojchlmfnaaGreatDoorEv24
namespace Ev
open Go
open Go.RowKit
noncomputable section

/-! ### Functions -/

def resK (P : Program) (env : List AV) (H : Heap) : List ResultVar → (List AV → Bool) → Bool
  | [], k => k []
  | .tmp t :: rs, k => resK P env H rs fun l => k (env.getD t .bad :: l)
  | .cell a t :: rs, k => loadE P t H (env.getD a .bad) fun v => resK P env H rs fun l => k (v :: l)

def tupK : List AV → (AV → Bool) → Bool
  | [v], k => k v
  | [], k => k (.tup [])
  | a :: b :: l, k => okAll (a :: b :: l) (k (.tup (a :: b :: l)))

/-- One result variable. -/
def oneRes (tmps : Array Value) : ResultVar → Sem Value
  | .tmp t => pure (tmps.getD t undef)
  | .cell a t => do loadVar t (← asAddr (tmps.getD a undef))

theorem resK_ok {P : Program} {env : List AV} {H : Heap} : ∀ {rs : List ResultVar} {k : List AV → Bool}, resK P env H rs k = true → ∃ l, k l = true ∧
    ∀ (θ : Theta) (w : World) (B : Nat) (tmps : Array Value), HRel P θ (hfn H) B w → (∀ t, VR θ (env.getD t .bad) (tmps.getD t undef)) → ∃ vs, (rs.mapM (oneRes tmps)).run P w = .ok vs w ∧ VRs θ l vs
  | [], k, h => ⟨[], h, fun θ w B tmps _ _ => ⟨[], by simp, .nil⟩⟩
  | .tmp t :: rs, k, h => by
    obtain ⟨l, hk, hq⟩ := resK_ok (rs := rs) h
    refine ⟨_, hk, fun θ w B tmps r ht => ?_⟩
    obtain ⟨vs, h1, h2⟩ := hq θ w B tmps r ht
    exact ⟨tmps.getD t undef :: vs, by simp only [List.mapM_cons, oneRes, Sem.run_bind, Sem.run_pure, Result.andThen_ok, h1], .cons (ht t) h2⟩
  | .cell a t :: rs, k, h => by
    obtain ⟨v, h, hv⟩ := load_ok h
    obtain ⟨l, hk, hq⟩ := resK_ok (rs := rs) h
    refine ⟨_, hk, fun θ w B tmps r ht => ?_⟩
    obtain ⟨vs, h1, h2⟩ := hq θ w B tmps r ht
    obtain ⟨ad, v', e, hr, hc⟩ := hv θ w B _ r (ht a)
    exact ⟨v' :: vs, by simp only [List.mapM_cons, oneRes, e, asAddr, Sem.run_bind, Sem.run_pure, Result.andThen_ok, hr, h1], .cons (.inr hc) h2⟩

theorem VRs.concs {θ : Theta} : ∀ {l : List AV} {vs : List Value}, VRs θ l vs → (∀ a ∈ l, a ≠ .bad) → concs θ l = some vs
  | [], _, .nil, _ => rfl
  | a :: l, _, .cons h k, hb => concs_cons.2 ⟨_, _, h.conc (hb a (by simp)), VRs.concs k (fun b hb' => hb b (by simp [hb'])), rfl⟩

theorem tupK_ok {l : List AV} {k : AV → Bool} (h : tupK l k = true) : ∃ v, k v = true ∧ ∀ θ (vs : Array Value), VRs θ l vs.toList → VR θ v (if h : vs.size = 1 then vs[0] else .tuple vs) := by
  match l, h with
  | [], h =>
    refine ⟨_, h, fun θ vs hv => ?_⟩
    have : vs = #[] := by
      have := hv.length
      simpa using this
    subst this
    exact .inr (by simp [Ev.conc, Ev.concs])
  | [v], h =>
    refine ⟨_, h, fun θ vs hv => ?_⟩
    have hl := hv.length
    have hs : vs.size = 1 := by simpa using hl
    rw [dif_pos hs]
    have := hv.get 0
    simp only [List.getD_eq_getElem?_getD, List.getElem?_cons_zero, Option.getD_some, Array.getElem?_toList] at this
    rw [Array.getElem?_eq_getElem (by omega)] at this
    simpa using this
  | a :: b :: l, h =>
    obtain ⟨hb, hk⟩ := okAll_iff.1 h
    refine ⟨_, hk, fun θ vs hv => ?_⟩
    have hl := hv.length
    have hs : ¬ vs.size = 1 := by simp at hl; omega
    rw [dif_neg hs]
    exact .inr (by simp [Ev.conc, hv.concs hb])

def finK (P : Program) (fn : Func) (k : AV → Heap → Nat → Bool) : Kont := fun env H n => resK P env H fn.results.toList fun l => tupK l fun v => k v H n

def padK (m : Nat) (k : List AV → Bool) : Bool := (fun (_ : Nat) => Nat.rec (motive := fun _ => (List AV → Bool) → Bool) (fun k => k []) (fun _ ih k => ih fun l => k (.bad :: l)) m k) tall40

theorem padK_eq : ∀ (m : Nat) (k : List AV → Bool), padK m k = k (List.replicate m .bad)
  | 0, _ => rfl
  | m + 1, k => by
    show padK m (fun l => k (.bad :: l)) = _
    rw [padK_eq m]
    rfl

/-- So many arguments, and room for the other temporaries. -/
def takeK (m : Nat) : Nat → List AV → (List AV → Bool) → Bool
  | 0, l, k => List.casesOn (motive := fun _ => Bool) l (padK m k) fun _ _ => false
  | n + 1, l, k => List.casesOn (motive := fun _ => Bool) l false fun a l => takeK m n l fun r => k (a :: r)

theorem takeK_ok {m : Nat} : ∀ {n : Nat} {l : List AV} {k : List AV → Bool}, takeK m n l k = true → k (l ++ List.replicate m .bad) = true ∧ l.length = n
  | 0, [], k, h => ⟨by have h : padK m k = true := h
                       rw [padK_eq] at h
                       exact h, rfl⟩
  | 0, a :: l, k, h => (Bool.false_ne_true h).elim
  | n + 1, [], k, h => (Bool.false_ne_true h).elim
  | n + 1, a :: l, k, h => by
    have h : takeK m n l (fun r => k (a :: r)) = true := h
    obtain ⟨h1, h2⟩ := takeK_ok h
    exact ⟨h1, by simp [h2]⟩

def evFn (P : Program) (F G : Orac) (X : Side) (fn : Func) (np : Nat) (an : An) (args : List AV) (H : Heap) (n : Nat) (k : AV → Heap → Nat → Bool) : Bool :=
  match fn.body with
  | some c => takeK (fn.ntmps - np) np args fun env => evCode P F G X c an [] env H n [] (finK P fn k) (finK P fn k)
  | none => false

theorem results_of {P : Program} {fn : Func} {tmps : Array Value} {w : World} {vs : List Value} (h : (fn.results.toList.mapM (oneRes tmps)).run P w = .ok vs w) :
    (results fn tmps).run P w = .ok (if h : vs.toArray.size = 1 then vs.toArray[0] else .tuple vs.toArray) w := by
  have e : results fn tmps = (do
      let vs ← fn.results.mapM (oneRes tmps)
      pure (if h : vs.size = 1 then vs[0] else .tuple vs) : Sem Value) := by
    unfold results
    congr 2
  rw [e, Array.mapM_eq_mapM_toList]
  simp only [Sem.run_bind, Sem.run_map, h, Result.andThen_ok, Sem.run_pure]

/-- The marks are taken, one by one: the blocks shut; nothing that is known is touched. -/
theorem leaves_marks {P : Program} {F : Fence} {m : Nat} {fn : Func} {tmps : Array Value} {R : Ending → World → Prop} {S : Start} {θ : Theta} {H : Heap} {n : Nat} :
    ∀ (rs : List Nat) (w : World), Went P S.θ S.h S.n S.B S.w θ (hfn H) n w → rs.Nodup →
      (∀ r ∈ rs, S.w.heap.size ≤ r ∧ w.heap[r]? = some (.deferred (some [])) ∧ ∀ b l, hfn H b ≠ .dead → θ.blk b = some l → l.blk ≠ r) →
      (∀ w', Went P S.θ S.h S.n S.B S.w θ (hfn H) n w' → ∃ v, (results fn tmps).run P w' = .ok v w' ∧ R (.returned v) w') →
      LeavesInM F m P fn tmps R (rs.map fun r => { target := .collected r, args := #[] }) .returning w
  | [], w, hw, _, _, hR => by
    simp only [List.map_nil, LeavesInM, LeavesIn]
    exact hR w hw
  | r :: rs, w, hw, hnd, hrs, hR => by
    obtain ⟨h1, h2, h3⟩ := hrs r (by simp)
    have hnd' := List.nodup_cons.1 hnd
    have htake : (Instr.takeDeferred r).run P w = .ok [] { w with heap := w.heap.setIfInBounds r (.deferred none) } := by
      simp only [Instr.takeDeferred, Sem.run_bind, run_getObj_of h2 (by simp), Result.andThen_ok]
      simp [setObj, Sem.run, h2]
    have hother : ∀ k, k ≠ r → (w.heap.setIfInBounds r (.deferred none))[k]? = w.heap[k]? := fun k hk => by simp [Array.getElem?_setIfInBounds, Ne.symm hk]
    refine ⟨by simp, .inl ⟨r, _, rfl, htake, ?_⟩⟩
    refine leaves_marks rs _ ?_ hnd'.2 (fun r' hr' => ?_) hR
    · refine ⟨hw.le, hw.num, hw.old, hw.rel.keep (Theta.le_refl _) (by simp) (fun b l hb hl => hother _ (h3 b l hb hl)), hw.fresh, ?_, hw.grows⟩
      refine ⟨hw.frm.os, hw.frm.tape, hw.frm.output, Nat.le_trans hw.frm.size (by simp), fun k hk hn => ?_⟩
      rw [← hw.frm.block k hk hn]
      exact hother k (by omega)
    · obtain ⟨g1, g2, g3⟩ := hrs r' (by simp [hr'])
      have hne : r' ≠ r := fun e => hnd'.1 (e ▸ hr')
      exact ⟨g1, (hother r' hne).trans g2, g3⟩

/-- One function is bound to what its evaluation says. -/
theorem evFn_ok {P : Program} {F G : Orac} (hF : CallSound P F) (hG : RoundSound P G) {X : Side} {fn : Func} {np : Nat} {an : An} {f : Nat} {args : List AV} {H : Heap} {n : Nat} {k : AV → Heap → Nat → Bool}
    (hf : P.funcs[f]? = some fn) (hcall : ∀ (vs : Array Value) (w : World), (callFunc f vs).run P w = .ok (.enter f vs) w) (hX : ∀ c, fn.body = some c → SideOK true P c X)
    (h : evFn P F G X fn np an args H n k = true) : ∃ v H' n', k v H' n' = true ∧ Answers P f args H n v H' n' := by
  unfold evFn at h
  split at h
  · rename_i c hc
    obtain ⟨h, rfl⟩ := takeK_ok h
    obtain ⟨x, env', H', n', he, hag, hto⟩ := evCode_ok hF hG (hX c hc) c an [] _ H n [] _ _ h rfl
    have hfin : finK P fn k env' H' n' = true ∧ (x = .normal ∨ x = .ret) := by
      cases x with
      | normal => exact ⟨he, .inl rfl⟩
      | ret => exact ⟨he, .inr rfl⟩
      | exit i => exact (Bool.false_ne_true he).elim
      | _ => exact (Bool.false_ne_true he).elim
    obtain ⟨l, hl, hq⟩ := resK_ok hfin.1
    obtain ⟨v, hk, hv⟩ := tupK_ok hl
    refine ⟨v, H', n', hk, hcall, fun θ w B vs r fr hB hg hvs m => ?_⟩
    refine callsIn_of_wp_marks hf hc trivial ?_
    have hlen := hvs.length
    let S : Start := ⟨θ, hfn H, n, B, w, w.heap.size, Nat.le_refl _⟩
    have s : Now P S (args ++ List.replicate (fn.ntmps - args.length) .bad) H n { tmps := vs.toArray ++ Array.replicate (fn.ntmps - vs.toArray.size) undef, defers := [] } w θ := by
      refine ⟨hB, Went.refl r fr, hg, fun t => ?_, by simp [hlen], MarksOK.nil _ _ _ _⟩
      simp only [List.getD_eq_getElem?_getD, Array.getD_eq_getD_getElem?]
      by_cases ht : t < args.length
      · rw [List.getElem?_append_left ht, Array.getElem?_append_left (by simp; omega)]
        have := hvs.get t
        simpa [List.getD_eq_getElem?_getD] using this
      · left
        rw [List.getElem?_append_right (by omega)]
        by_cases h2 : t - args.length < fn.ntmps - args.length
        · simp [h2]
        · simp [h2]
    refine hto Fence.wide m S _ w θ _ ⟨looseR_wide, fun _ => rfl⟩ s fun a' w' θ' s' => ?_
    obtain ⟨rs, hds, hnd, hrs⟩ := s'.defs
    have main : LeavesInM Fence.wide m P fn a'.tmps (fun e w' => ∃ v' θ', e = .returned v' ∧ Went P θ (hfn H) n B w θ' (hfn H') n' w' ∧ VR θ' v v') a'.defers .returning w' := by
      rw [hds]
      refine leaves_marks (S := S) (θ := θ') (H := H') (n := n') rs w' s'.went hnd hrs fun w2 hw2 => ?_
      obtain ⟨us, h1, h2⟩ := hq θ' w2 B a'.tmps hw2.rel s'.tmps
      exact ⟨_, results_of h1, _, θ', rfl, hw2, hv θ' us.toArray (by simpa using h2)⟩
    rcases hfin.2 with rfl | rfl <;> exact main
  · cases h

end
end Ev
