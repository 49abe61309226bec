/- A part of the proof that GcNone returns true: text Ev21. -/
import Derived.Test.YtiegdojchlmfnaaGreatDoorEv20
import Derived.RangeFuncCalls
namespace Ev
open Go
open Go.RowKit
noncomputable section

/-! ### An operation in the calculus -/

/-- A fence that bars nothing. -/
structure Loose (F : Fence) : Prop where
  fn : ∀ f, F.fn f
  depth : F.depth = none
  calls : ∀ n P f args w R, CallsIn Fence.wide n P f args w R → CallsIn F n P f args w R

theorem loose_wide : Loose Fence.wide := ⟨fun _ => trivial, rfl, fun _ _ _ _ _ _ h => h⟩
theorem loose_round (l : Nat) : Loose (Fence.wide.inRound l) := ⟨fun _ => trivial, rfl, fun _ _ _ _ _ _ h => h.inRound l⟩

inductive VRs (θ : Theta) : List AV → List Value → Prop where
  | nil : VRs θ [] []
  | cons {a : AV} {v : Value} {l : List AV} {vs : List Value} : VR θ a v → VRs θ l vs → VRs θ (a :: l) (v :: vs)

theorem VRs.of_concs {θ : Theta} : ∀ {l : List AV} {vs : List Value}, concs θ l = some vs → VRs θ l vs
  | [], vs, h => by simp [concs] at h; subst h; exact .nil
  | a :: l, vs, h => by
    obtain ⟨x, y, h1, h2, rfl⟩ := concs_cons.1 h
    exact .cons (.inr h1) (VRs.of_concs h2)

theorem VRs.append {θ : Theta} {l m : List AV} {vs us : List Value} (h : VRs θ l vs) (k : VRs θ m us) : VRs θ (l ++ m) (vs ++ us) := by
  induction h with
  | nil => exact k
  | cons h _ ih => exact .cons h ih

theorem VRs.length {θ : Theta} {l : List AV} {vs : List Value} (h : VRs θ l vs) : vs.length = l.length := by
  induction h with
  | nil => rfl
  | cons _ _ ih => simp [ih]

theorem VRs.get {θ : Theta} {l : List AV} {vs : List Value} (h : VRs θ l vs) : ∀ i, VR θ (l.getD i .bad) (vs.getD i undef) := by
  induction h with
  | nil => intro i; exact .inl (by simp)
  | cons h _ ih =>
    intro i
    cases i with
    | zero => exact h
    | succ i => simpa using ih i

theorem VRs.le {θ θ' : Theta} (k : θ.le θ') {l : List AV} {vs : List Value} (h : VRs θ l vs) : VRs θ' l vs := by
  induction h with
  | nil => exact .nil
  | cons h _ ih => exact .cons (h.le k) ih

theorem VRs.map {P : Program} {θ : Theta} {env : List AV} {ac : Act} : ∀ {xs : List Operand}, (∀ x ∈ xs, VR θ (ev P env x) (ac.eval x)) → VRs θ (xs.map (ev P env)) (xs.map ac.eval)
  | [], _ => .nil
  | x :: xs, h => .cons (h x (by simp)) (VRs.map fun y hy => h y (by simp [hy]))

/-- Whom a call may ask: the function's number, the arguments, memory, the next number; and what to do with the answer. -/
abbrev Orac := Nat → List AV → Heap → Nat → (AV → Heap → Nat → Bool) → Bool

/-- What a called function is bound to. -/
def Answers (P : Program) (f : Nat) (args : List AV) (H : Heap) (n : Nat) (v : AV) (H' : Heap) (n' : Nat) : Prop :=
  (∀ (vs : Array Value) (w : World), (callFunc f vs).run P w = .ok (.enter f vs) w) ∧
  ∀ (θ : Theta) (w : World) (B : Nat) (vs : List Value), HRel P θ (hfn H) B w → Fresh θ n → B ≤ w.heap.size → GlobOK P θ → VRs θ args vs → ∀ m,
    CallsIn Fence.wide m P f vs.toArray w (fun e w' => ∃ v' θ', e = .returned v' ∧ Went P θ (hfn H) n B w θ' (hfn H') n' w' ∧ VR θ' v v')

def CallSound (P : Program) (F : Orac) : Prop := ∀ f args H n k, F f args H n k = true → ∃ v H' n', k v H' n' = true ∧ Answers P f args H n v H' n'

/-- The same for the round of a range over a function: which block is the loop's. -/
def AnswersR (P : Program) (l : Nat) (args : List AV) (H : Heap) (n : Nat) (v : AV) (H' : Heap) (n' : Nat) : Prop :=
  ∀ (θ : Theta) (w : World) (B : Nat) (vs : List Value) (loc : Loc), HRel P θ (hfn H) B w → Fresh θ n → B ≤ w.heap.size → GlobOK P θ → VRs θ args vs → θ.blk l = some loc → ∀ m,
    ∃ fn tmps as bd, (Instr.yield loc.blk vs.toArray).run P w = .ok (.round loc.blk fn tmps as bd) w ∧
      RoundIn Fence.wide m P loc.blk fn tmps as bd w (fun e w' => ∃ v' θ', e = .returned v' ∧ Went P θ (hfn H) n B w θ' (hfn H') n' w' ∧ VR θ' v v')

def RoundSound (P : Program) (G : Orac) : Prop := ∀ l args H n k, G l args H n k = true → ∃ v H' n', k v H' n' = true ∧ AnswersR P l args H n v H' n'

/-- A fence for rounds. -/
structure LooseR (F : Fence) : Prop extends Loose F where
  rounds : ∀ n P l f tmps as bd w R, RoundIn Fence.wide n P l f tmps as bd w R → RoundIn F n P l f tmps as bd w R

theorem looseR_wide : LooseR Fence.wide := ⟨loose_wide, fun _ _ _ _ _ _ _ _ _ h => h⟩
theorem looseR_round (l : Nat) : LooseR (Fence.wide.inRound l) := ⟨loose_round l, fun _ _ _ _ _ _ _ _ _ h => h⟩

def OpGoes (P : Program) (env : List AV) (o : Oper) (H : Heap) (n : Nat) (v : AV) (H' : Heap) (n' : Nat) : Prop :=
  ∀ (F : Fence) (m : Nat) (θ : Theta) (ac : Act) (w : World) (B : Nat) (next : Act → World → Prop) (Q : Exit → Act → World → Prop), LooseR F →
    HRel P θ (hfn H) B w → Fresh θ n → B ≤ w.heap.size → GlobOK P θ → Opd P θ env o ac →
    (∀ v' w' θ', Went P θ (hfn H) n B w θ' (hfn H') n' w' → VR θ' v v' → next (ac.put o.dst v') w') → o.wpIn F m P ac w next Q

theorem semAt_of {F : Fence} {ρ : Operand → Value} {o : Oper} (h : ∀ c, o.op ≠ .defer c) : o.semAt F.round ρ = execOp ρ o := by
  cases F.round with
  | none => simp [Oper.semAt]
  | some l => exact Oper.semAt_some l _ _ h

/-- No operation of ours is a defer statement: none answers as one. -/
theorem goes_of_yields {P : Program} {o : Oper} {ac : Act} {w w' : World} {v' : Value} (h : Yields P o ac w v' w') {F : Fence} {m : Nat} (hF : LooseR F) {next : Act → World → Prop} {Q : Exit → Act → World → Prop}
    (hn : next (ac.put o.dst v') w') : o.wpIn F m P ac w next Q := by
  refine ⟨fun f _ => hF.fn f, ?_⟩
  have hnd : ∀ c, o.op ≠ .defer c := by
    intro c hc
    rcases h with h | ⟨h, _⟩
    · simp only [execOp, hc, Sem.run_bind] at h
      cases hr : (resolve ac.eval c o.type).run P w with
      | ok d w1 => simp [hr] at h
      | halt x w1 => simp [hr, Result.andThen] at h
    · simp only [execOp, hc, Sem.run_bind] at h
      cases hr : (resolve ac.eval c o.type).run P w with
      | ok d w1 => simp [hr] at h
      | halt x w1 => simp [hr, Result.andThen] at h
  rw [semAt_of hnd]
  rcases h with h | ⟨h, rfl⟩
  · rw [h]; exact hn
  · rw [h]; exact hn

theorem goes_pure {P : Program} {env : List AV} {o : Oper} {v : AV} (h : PureSpec P env o v) (H : Heap) (n : Nat) : OpGoes P env o H n v H n := by
  intro F m θ ac w B next Q hF r f hB hg hO hn
  obtain ⟨v', h1, h2⟩ := h θ ac w hO
  exact goes_of_yields (.inl h1) hF (hn v' w θ (Went.refl r f) h2)

theorem goes_read {P : Program} {env : List AV} {o : Oper} {v : AV} {H : Heap} (h : ReadSpec P env o H v) (n : Nat) : OpGoes P env o H n v H n := by
  intro F m θ ac w B next Q hF r f hB hg hO hn
  obtain ⟨v', h1, h2⟩ := h θ ac w B r hO
  exact goes_of_yields (.inl h1) hF (hn v' w θ (Went.refl r f) h2)

theorem goes_alloc {P : Program} {env : List AV} {o : Oper} {v : AV} {H : Heap} {n : Nat} {b : Blk} (hn32 : n < 32768) (h : AllocSpec P env o n v b) : OpGoes P env o H n v (Tr.put 5 H n b) (n + 1) := by
  intro F m θ ac w B next Q hF r f hB hg hO hn
  obtain ⟨v', ob, sz, w', h1, h2, h3, h4, h5, h6, h7⟩ := h θ ac w B _ r (f n (Nat.le_refl _)) hB hO
  exact goes_of_yields (.inl h1) hF (hn v' w' _ (by rw [hfn_put _ _ hn32]; exact went_alloc r f h2 h3 h4 h5 h6) h7)

theorem goes_heavy {P : Program} {env : List AV} {o : Oper} {v : AV} {H H' : Heap} {n n' : Nat} (h : HeavySpec P env o H n v H' n') : OpGoes P env o H n v H' n' := by
  intro F m θ ac w B next Q hF r f hB hg hO hn
  obtain ⟨v', w', θ', h1, h2, h3⟩ := h θ ac w B r f hB hO
  exact goes_of_yields h1 hF (hn v' w' θ' h2 h3)

/-! ### Calls -/

/-- A call of a function value. -/
def callFn (F G : Orac) (g : Fn) (first cap args : List AV) (H : Heap) (n : Nat) (k : AV → Heap → Nat → Bool) : Bool :=
  Fn.casesOn (motive := fun _ => Bool) g (fun f => F f (first ++ args ++ cap) H n k) (fun _ => false) (fun _ _ => false) (fun _ _ _ _ => false) (fun l => G l (first ++ args) H n k)

/-- What comes of a call, whatever the fence. -/
def Upon (P : Program) (H : Heap) (n : Nat) (v : AV) (H' : Heap) (n' : Nat) (g : Fn) (first cap args : List AV) : Prop :=
  ∀ (F : Fence) (m : Nat) (θ : Theta) (ac : Act) (w : World) (B : Nat) (next : Act → World → Prop) (Q : Exit → Act → World → Prop) (o : Oper) (gv : Fn) (fs cs as : List Value), LooseR F →
    HRel P θ (hfn H) B w → Fresh θ n → B ≤ w.heap.size → GlobOK P θ → fnC θ g = some gv → concs θ first = some fs → concs θ cap = some cs → VRs θ args as →
    (∀ v' w' θ', Went P θ (hfn H) n B w θ' (hfn H') n' w' → VR θ' v v' → next (ac.put o.dst v') w') →
    o.uponIn F m P ac next Q ((invoke (.fn gv cs.toArray) (fs ++ as).toArray).run P w)

theorem callFn_ok {P : Program} {F G : Orac} (hF : CallSound P F) (hG : RoundSound P G) {g : Fn} {first cap args : List AV} {H : Heap} {n : Nat} {k : AV → Heap → Nat → Bool} (h : callFn F G g first cap args H n k = true) :
    ∃ v H' n', k v H' n' = true ∧ Upon P H n v H' n' g first cap args := by
  cases g with
  | func fi =>
    obtain ⟨v, H', n', hk, h1, h2⟩ := hF _ _ _ _ _ h
    refine ⟨v, H', n', hk, fun Fe m θ ac w B next Q o gv fs cs as hL r f hB hg hgv hfs hcs has hn => ?_⟩
    simp only [fnC, Option.some.injEq] at hgv
    subst hgv
    have hrun : (invoke (.fn (.func fi) cs.toArray) (fs ++ as).toArray).run P w = .ok (.enter fi (fs ++ as ++ cs).toArray) w := by
      have := h1 (fs ++ as ++ cs).toArray w
      simpa [invoke] using this
    rw [hrun, Oper.uponIn_enter]
    refine ⟨fun hd => by simp [hL.depth] at hd, CallsIn.mono (hL.calls _ _ _ _ _ _ (h2 θ w B _ r f hB hg ((VRs.append (VRs.append (VRs.of_concs hfs) has) (VRs.of_concs hcs))) (m - 1))) ?_⟩
    rintro e w' ⟨v', θ', rfl, hw, hv⟩
    exact hn v' w' θ' hw hv
  | yield l =>
    obtain ⟨v, H', n', hk, h2⟩ := hG _ _ _ _ _ h
    refine ⟨v, H', n', hk, fun Fe m θ ac w B next Q o gv fs cs as hL r f hB hg hgv hfs hcs has hn => ?_⟩
    simp only [fnC, Option.map_eq_some_iff] at hgv
    obtain ⟨loc, hl, rfl⟩ := hgv
    obtain ⟨fn, tmps, asn, bd, hy, hR⟩ := h2 θ w B _ loc r f hB hg (VRs.append (VRs.of_concs hfs) has) hl (m - 1)
    have hrun : (invoke (.fn (.yield loc.blk) cs.toArray) (fs ++ as).toArray).run P w = .ok (.round loc.blk fn tmps asn bd) w := by
      simpa [invoke] using hy
    rw [hrun, Oper.uponIn_round]
    refine ⟨fun hd => by simp [hL.depth] at hd, RoundIn.mono (hL.rounds _ _ _ _ _ _ _ _ _ hR) ?_⟩
    rintro e w' ⟨v', θ', rfl, hw, hv⟩
    exact hn v' w' θ' hw hv
  | _ => exact (Bool.false_ne_true h).elim

def callOp (P : Program) (F G : Orac) (env : List AV) (o : Oper) (H : Heap) (n : Nat) (k : AV → Heap → Nat → Bool) : Bool :=
  match o.op with
  | .call c => (match c.callee with
    | .value f => (ev P env f).ckFn fun g first cap => callFn F G g first cap (c.args.toList.map (ev P env)) H n k
    | _ => false)
  | _ => false

theorem callOp_ok {P : Program} {F G : Orac} (hF : CallSound P F) (hG : RoundSound P G) {env : List AV} {o : Oper} {H : Heap} {n : Nat} {k : AV → Heap → Nat → Bool} (h : callOp P F G env o H n k = true) :
    ∃ v H' n', k v H' n' = true ∧ OpGoes P env o H n v H' n' := by
  unfold callOp at h
  split at h
  · rename_i c ho
    split at h
    · rename_i fo hc
      obtain ⟨g, first, cap, hx, h⟩ := ckFn_iff.1 h
      obtain ⟨v, H', n', hk, hu⟩ := callFn_ok hF hG h
      refine ⟨v, H', n', hk, fun Fe m θ ac w B next Q hL r f hB hg hO hn => ?_⟩
      have vf := hO.at (x := fo) (by simp [ho, Op.operands, Call.operands, hc])
      rw [hx] at vf
      obtain ⟨fs, cs, gv, hgv, hfs, hcs, hv⟩ := vf.fn
      have hargs : VRs θ (c.args.toList.map (ev P env)) (c.args.toList.map ac.eval) := VRs.map fun x hx => hO.at (by simp only [ho, Op.operands, Call.operands, hc]; simp at hx ⊢; exact .inr hx)
      refine ⟨fun f _ => hL.fn f, ?_⟩
      rw [semAt_of (by intro c hc'; rw [ho] at hc'; cases hc')]
      have := hu Fe m θ ac w B next Q o gv fs cs _ hL r f hB hg hgv hfs hcs hargs hn
      have hrun : (execOp ac.eval o).run P w = (invoke (.fn gv cs.toArray) (fs ++ c.args.toList.map ac.eval).toArray).run P w := by
        simp only [execOp, ho, resolve, hc, hv, Deferred.ofValue, Sem.run_bind, Sem.run_pure, Result.andThen_ok]
        congr 2
        apply Array.ext'
        simp
      rw [hrun]
      exact this
    · cases h
  · cases h

/-- One operation, of whatever kind. -/
def evOp (P : Program) (F G : Orac) (env : List AV) (o : Oper) (H : Heap) (n : Nat) (k : AV → Heap → Nat → Bool) : Bool :=
  sel (cls P o) (pureOp P env o fun v => k v H n) (readOp P env o H fun v => k v H n) (allocOp P env o H n fun v H => forceN (Nat.succ n) fun n' => k v H n') (heavyOp P env o H n k) (callOp P F G env o H n k)

theorem evOp_ok {P : Program} {F G : Orac} (hF : CallSound P F) (hG : RoundSound P G) {env : List AV} {o : Oper} {H : Heap} {n : Nat} {k : AV → Heap → Nat → Bool} (h : evOp P F G env o H n k = true) :
    ∃ v H' n', k v H' n' = true ∧ OpGoes P env o H n v H' n' := by
  unfold evOp at h
  rw [sel_eq] at h
  split at h
  · obtain ⟨v, hk, hs⟩ := pureOp_ok h
    exact ⟨v, H, n, hk, goes_pure hs H n⟩
  · obtain ⟨v, hk, hs⟩ := readOp_ok h
    exact ⟨v, H, n, hk, goes_read hs n⟩
  · obtain ⟨v, b, hn, hk, hs⟩ := allocOp_ok h
    rw [forceN_eq] at hk
    exact ⟨v, _, _, hk, goes_alloc hn hs⟩
  · obtain ⟨v, H', n', hk, hs⟩ := heavyOp_ok h
    exact ⟨v, H', n', hk, goes_heavy hs⟩
  · exact callOp_ok hF hG h

end
end Ev
