/- A part of the proof that GcNone returns true: text Ev33. -/
import Derived.Test.YtiegdojchlmfnaaGreatDoorEv32
import Derived.RangeFuncRecord
namespace Ev
open Go
open Go.RowKit
noncomputable section

/-! ### Blocks that nobody speaks of -/

theorem putObj_other {w : World} {r k : Nat} {o : Obj} (h : k ≠ r) : (w.putObj r o).heap[k]? = w.heap[k]? := World.putObj_heap_other h

theorem went_hide {P : Program} {θ : Theta} {h : Nat → Blk} {n B : Nat} {w : World} (r : HRel P θ h B w) (f : Fresh θ n) (o : Obj) : Went P θ h n B w θ h n (w.alloc o) := by
  refine ⟨Theta.le_refl _, Nat.le_refl _, fun _ _ => rfl, r.keep (Theta.le_refl _) (by simp) (fun b l hb hl => heap_alloc_ne _ _ ?_), f, Frm.alloc θ h w o, ?_⟩
  · have := r.lt hb hl; omega
  · exact ⟨fun b l hb hl => .inl ⟨b, l, hb, hl, rfl⟩, fun b l hb hl => .inl ⟨b, l, hb, hl, rfl⟩⟩

/-- A block is known no more, and turns into something else. -/
theorem went_drop {P : Program} {θ : Theta} {h : Nat → Blk} {n B : Nat} {w : World} (r : HRel P θ h B w) (f : Fresh θ n) {b : Nat} {loc : Loc} (hl : θ.blk b = some loc) (hb : (h b).own = true) (o : Obj) :
    Went P θ h n B w θ (setB h b .dead) n (w.putObj loc.blk o) := by
  have k := went_kill r f b
  refine ⟨Theta.le_refl _, Nat.le_refl _, fun _ _ => rfl, k.rel.keep (Theta.le_refl _) (by simp) (fun x l hx hlx => putObj_other fun e => ?_), f, ?_, k.grows⟩
  · have hxb : b ≠ x := fun e' => hx (by subst e'; simp [setB])
    have hxd : h x ≠ .dead := by simpa [setB, hxb] using hx
    exact hxb (r.inj b x loc l (own_ne hb) hxd hl hlx e.symm)
  · refine ⟨rfl, rfl, rfl, by simp, fun q _ hn => putObj_other fun e => hn b loc hb hl e.symm⟩

/-- A step beside a block whose content is something else meanwhile. -/
theorem went_beside {P : Program} {θ θ' : Theta} {h h' : Nat → Blk} {n n' B : Nat} {w w' : World} {b : Nat} {x : Blk} {loc : Loc} {o o' : Obj} (r : HRel P θ (setB h b x) B w) (hx : x.own = true) (hl : θ.blk b = some loc)
    (hd : h b = .dead) (k : Went P θ h n B (w.putObj loc.blk o) θ' h' n' w') (hb : BRel P θ' B (w'.putObj loc.blk o') loc x) : Went P θ (setB h b x) n B w θ' (setB h' b x) n' (w'.putObj loc.blk o') := by
  have hbx : setB h b x b = x := by simp [setB]
  have hlt : loc.blk < w.heap.size := r.lt (b := b) (by rw [hbx]; exact own_ne hx) hl
  have far0 : ∀ y l, h y ≠ .dead → θ.blk y = some l → l.blk ≠ loc.blk := fun y l hy hly e => by
    have hyb : b ≠ y := fun e' => hy (e' ▸ hd)
    exact hyb (r.inj b y loc l (by rw [hbx]; exact own_ne hx) (by simpa [setB, hyb] using hy) hl hly e.symm)
  have far : ∀ y l, h' y ≠ .dead → θ'.blk y = some l → l.blk ≠ loc.blk := fun y l hy hly e => by
    rcases k.grows.any y l hy hly with ⟨b0, l0, h0, t0, e0⟩ | hge
    · exact far0 b0 l0 h0 t0 (e0.trans e)
    · simp at hge; omega
  have hl' := k.le.1 _ _ hl
  have self : w'.heap[loc.blk]? = (w.putObj loc.blk o).heap[loc.blk]? := k.frm.block _ (by simpa using hlt) fun y l hy hly => far0 y l (own_ne hy) hly
  have hsz : w.heap.size ≤ w'.heap.size := by have := k.frm.size; simpa using this
  refine ⟨k.le, k.num, k.old, ⟨fun y hy => ?_, fun y z l m hy hz hly hmz e => ?_⟩, k.fresh, ?_, ?_⟩
  · by_cases e : b = y
    · subst e
      refine ⟨loc, hl', by simp; omega, ?_⟩
      simpa [setB] using hb
    · have hy' : h' y ≠ .dead := by simpa [setB, e] using hy
      obtain ⟨l, hly, hlt', hr⟩ := k.rel.blk y hy'
      refine ⟨l, hly, by simpa using hlt', ?_⟩
      rw [show setB h' b x y = h' y from by simp [setB, e]]
      exact hr.keep (Theta.le_refl _) (putObj_other (far y l hy' hly))
  · by_cases ey : b = y
    · subst ey
      by_cases ez : b = z
      · exact ez
      · rw [hl'] at hly; injection hly with hly; subst hly
        exact absurd e.symm (far z m (by simpa [setB, ez] using hz) hmz)
    · by_cases ez : b = z
      · subst ez
        rw [hl'] at hmz; injection hmz with hmz; subst hmz
        exact absurd e (far y l (by simpa [setB, ey] using hy) hly)
      · exact k.rel.inj y z l m (by simpa [setB, ey] using hy) (by simpa [setB, ez] using hz) hly hmz e
  · refine ⟨k.frm.os, k.frm.tape, k.frm.output, by simpa using hsz, fun q hq hn => ?_⟩
    have hqb : q ≠ loc.blk := fun e => hn b loc (by rw [hbx]; exact hx) hl e.symm
    rw [putObj_other hqb, k.frm.block q (by simpa using hq) fun y l hy hly => ?_, putObj_other hqb]
    have hyb : b ≠ y := fun e' => own_ne hy (e' ▸ hd)
    exact hn y l (by simpa [setB, hyb] using hy) hly
  · have back : ∀ y, h y ≠ .dead → setB h b x y = h y := fun y hy => by
      have hyb : b ≠ y := fun e' => hy (e' ▸ hd)
      simp [setB, hyb]
    refine ⟨fun y l hy hly => ?_, fun y l hy hly => ?_⟩
    · by_cases e : b = y
      · subst e
        rw [hl'] at hly; injection hly with hly; subst hly
        exact .inl ⟨b, loc, by rw [hbx]; exact hx, hl, rfl⟩
      · rcases k.grows.own y l (by simpa [setB, e] using hy) hly with ⟨b0, l0, h0, t0, e0⟩ | hge
        · exact .inl ⟨b0, l0, by rw [back b0 (own_ne h0)]; exact h0, t0, e0⟩
        · exact .inr (by simpa using hge)
    · by_cases e : b = y
      · subst e
        rw [hl'] at hly; injection hly with hly; subst hly
        exact .inl ⟨b, loc, by rw [hbx]; exact own_ne hx, hl, rfl⟩
      · rcases k.grows.any y l (by simpa [setB, e] using hy) hly with ⟨b0, l0, h0, t0, e0⟩ | hge
        · exact .inl ⟨b0, l0, by rw [back b0 h0]; exact h0, t0, e0⟩
        · exact .inr (by simpa using hge)

/-! ### A round -/

def layA : List Nat → List AV → List AV → (List AV → Bool) → Bool
  | [], [], e, k => k e
  | p :: ps, a :: as, e, k => setLK e p a fun e => layA ps as e k
  | _, _, _, _ => false

structure Known (θ : Theta) (env : List AV) (tms : Array Value) : Prop where
  tmps : ∀ t, VR θ (env.getD t .bad) (tms.getD t undef)
  len : env.length ≤ tms.size

theorem Known.set {θ : Theta} {env : List AV} {tmps : Array Value} (s : Known θ env tmps) (p : Nat) {a : AV} {v : Value} (h : VR θ a v) : Known θ (env.set p a) (tmps.setIfInBounds p v) := by
  have hlen := s.len
  refine ⟨fun t => ?_, by simpa using s.len⟩
  simp only [List.getD_eq_getElem?_getD, Array.getD_eq_getD_getElem?, List.getElem?_set, Array.getElem?_setIfInBounds]
  by_cases e : p = t
  · subst e
    simp only [if_true]
    by_cases h1 : p < env.length
    · rw [if_pos h1, if_pos (by omega)]
      exact h
    · rw [if_neg h1]
      exact .inl rfl
  · simp only [if_neg e]
    have := s.tmps t
    simpa only [List.getD_eq_getElem?_getD, Array.getD_eq_getD_getElem?] using this

theorem layA_ok : ∀ {ps : List Nat} {as e : List AV} {k : List AV → Bool}, layA ps as e k = true → ∃ e', k e' = true ∧ ps.length = as.length ∧
    ∀ (θ : Theta) (tmps : Array Value) (vs : List Value), VRs θ as vs → Known θ e tmps → Known θ e' ((ps.zip vs).foldl (fun tmps (t, a) => tmps.setIfInBounds t a) tmps)
  | [], [], e, k, h => ⟨e, h, rfl, fun θ tmps vs hv hk => by simpa using hk⟩
  | p :: ps, a :: as, e, k, h => by
    rw [layA, setLK_eq] at h
    obtain ⟨e', h1, h2, h3⟩ := layA_ok h
    refine ⟨e', h1, by simp [h2], fun θ tmps vs hv hk => ?_⟩
    cases hv with
    | cons hv hvs => exact h3 θ _ _ hvs (hk.set p hv)
  | [], _ :: _, _, _, h => by simp [layA] at h
  | _ :: _, [], _, _, h => by simp [layA] at h

def noRange (X : Side) : Side := { X with range := fun _ _ _ _ _ _ _ _ _ => false }

/-- One round of a range over a function: the loop's block l, at the site of function fi on the way down p. -/
def evRound (P : Program) (F G : Orac) (X : Side) (ps : List Nat) (as bd : Code) (xa xb : An) (fi ne : Nat) (p : List Nat) (l : Nat) (env args : List AV) (H : Heap) (n : Nat) (k : AV → Heap → Nat → Bool) : Bool :=
  ifB (Nat.blt l 32768) (hput H l .dead fun H => takeK 0 ne env fun env0 => takeK 0 ps.length args fun args => layA ps args env0 fun env' => joinP (fun H n => hput H l (.loop fi p env) fun H => k (.bool true) H n) fun (j : Heap → Nat → Bool) =>
    goK xa (evCode P F G (noRange X) as xa (p ++ [0]) env' H n [] (fun _ _ _ => false) fun env1 H n => goK xb (evCode P F G (noRange X) bd xb (p ++ [1]) env1 H n [] (fun _ _ _ => false) fun _ H n => j H n)))

theorem evRound_ok {P : Program} {F G : Orac} (hF : CallSound P F) (hG : RoundSound P G) {root : Code} {X : Side} (hX : SideOK false P root (noRange X)) {ps : Array Tmp} {as bd : Code} {xa xb : An} {fi ne : Nat} {p : List Nat} {l : Nat} {env args : List AV} {H : Heap} {n : Nat} {k : AV → Heap → Nat → Bool} {g : Operand}
    (hroot : (P.funcs[fi]?).bind (·.body) = some root) (hp : codeAt root p = some (.rangeFunc g ps as bd)) (hl : hfn H l = .loop fi p env) (h : evRound P F G X ps.toList as bd xa xb fi ne p l env args H n k = true) :
    ∃ v H' n', k v H' n' = true ∧ AnswersR P l args H n v H' n' := by
  unfold evRound joinP at h
  obtain ⟨hlt, h⟩ := ifB_iff.1 h
  rw [Nat.blt_eq] at hlt
  rw [hput_eq] at h
  obtain ⟨h, _⟩ := takeK_ok h
  obtain ⟨h, _⟩ := takeK_ok h
  simp only [List.replicate_zero, List.append_nil] at h
  obtain ⟨env', h, hlen, hlay⟩ := layA_ok h
  obtain ⟨x, env1, H1, n1, he1, _, hto1⟩ := evCode_ok hF hG hX _ _ _ _ _ _ _ _ _ (goK_ok h) (codeAt_step hp rfl)
  have hx : x = .normal := by
    cases x with
    | normal => rfl
    | ret => exact (Bool.false_ne_true he1).elim
    | exit i => exact (Bool.false_ne_true he1).elim
    | _ => exact (Bool.false_ne_true he1).elim
  subst hx
  have he1 : goK xb (evCode P F G (noRange X) bd xb (p ++ [1]) env1 H1 n1 [] (fun _ _ _ => false) fun _ H n => hput H l (.loop fi p env) fun H => k (.bool true) H n) = true := he1
  obtain ⟨y, env2, H2, n2, he2, _, hto2⟩ := evCode_ok hF hG hX _ _ _ _ _ _ _ _ _ (goK_ok he1) (codeAt_step hp rfl)
  have hy : y = .normal := by
    cases y with
    | normal => rfl
    | ret => exact (Bool.false_ne_true he2).elim
    | exit i => exact (Bool.false_ne_true he2).elim
    | _ => exact (Bool.false_ne_true he2).elim
  subst hy
  have he2 : (hput H2 l (.loop fi p env) fun H => k (.bool true) H n2) = true := he2
  rw [hput_eq] at he2
  refine ⟨_, _, _, he2, fun θ w B vs loc r f hB hg hvs hloc m => ?_⟩
  have hr := r.at hloc
  rw [hl] at hr
  obtain ⟨hBl, tmps, ps', as', bd', dd, fn, hsite, hrec, htr, hsz⟩ := hr
  have hsite' : siteAt P fi p = some (ps, as, bd) := by
    unfold siteAt
    rw [hroot, Option.bind_some, hp]
  rw [hsite] at hsite'
  injection hsite' with hsite'
  injection hsite' with e1 e2
  injection e2 with e2 e3
  subst e1; subst e2; subst e3
  have hdead : hfn (Tr.put 5 H l .dead) l = .dead := by rw [hfn_put _ _ hlt]; simp [setB]
  have hback : setB (hfn (Tr.put 5 H l .dead)) l (.loop fi p env) = hfn H := by
    rw [hfn_put _ _ hlt]
    funext q
    by_cases e : l = q
    · subst e; simp [setB, hl]
    · simp [setB, e]
  have hback2 : hfn (Tr.put 5 H2 l (.loop fi p env)) = setB (hfn H2) l (.loop fi p env) := hfn_put _ _ hlt
  have hown : (Blk.loop fi p env).own = true := rfl
  have hwl : loc.blk < w.heap.size := lt_of_heap hrec
  have hk0 := went_kill r f l
  rw [← hfn_put _ _ hlt] at hk0
  have hargs : vs.length = ps'.size := by
    have h1 := hvs.length
    have h2 : ps'.toList.length = args.length := hlen
    simp at h2
    omega
  have hyield := run_yield (P := P) (args := vs.toArray) hrec (by simpa using hargs)
  have hfold : ((ps'.zip vs.toArray).foldl (fun tmps (t, a) => tmps.setIfInBounds t a) tmps) = ((ps'.toList.zip vs).foldl (fun tmps (t, a) => tmps.setIfInBounds t a) tmps) := by
    rw [← Array.foldl_toList, Array.toList_zip]
  refine ⟨fn, _, as', bd', hyield, roundIn_of_wpIn trivial ?_⟩
  simp only
  rw [hfold]
  have hkn := hlay θ tmps vs hvs ⟨fun t => htr.val t, hsz⟩
  -- the assign code
  let S1 : Start := ⟨θ, hfn (Tr.put 5 H l .dead), n, B, w, 0, Nat.zero_le _⟩
  have s1 : Now P S1 env' (Tr.put 5 H l .dead) n { tmps := (ps'.toList.zip vs).foldl (fun tmps (t, a) => tmps.setIfInBounds t a) tmps, defers := [] } w θ :=
    ⟨hB, Went.refl hk0.rel f, hg, hkn.tmps, hkn.len, MarksOK.nil _ _ _ _⟩
  refine hto1 _ m S1 _ w θ _ ⟨looseR_round loc.blk, fun e => by cases e⟩ s1 fun a1 w1 θ1 t1 => ?_
  have far0 : ∀ (b : Nat) (l' : Loc), hfn (Tr.put 5 H l .dead) b ≠ .dead → θ.blk b = some l' → l'.blk ≠ loc.blk := fun b l' hb hb' e => by
    have hbl : l ≠ b := fun e' => hb (e' ▸ hdead)
    rw [hfn_put _ _ hlt] at hb
    exact hbl (r.inj l b loc l' (by rw [hl]; exact own_ne hown) (by simpa [setB, hbl] using hb) hloc hb' e.symm)
  have hw1 : w1.heap[loc.blk]? = some (.loop { state := .ready, pending := none, fn, tmps, params := ps', assign := as', body := bd', defers := dd }) := by
    rw [t1.went.frm.block _ hwl fun b l' hb hb' => far0 b l' (own_ne hb) hb']; exact hrec
  refine ⟨_, run_beginRound hw1 rfl, ?_⟩
  have go1 : Went P θ (hfn H) n B w θ1 (setB (hfn H1) l (.loop fi p env)) n1 w1 := by
    have hex : ∀ (h : Nat → Blk), over h (fun b => if l = b then some (.loop fi p env) else none) = setB h l (.loop fi p env) := fun h => by
      funext b
      by_cases e : l = b <;> simp [over, setB, e]
    have := Went.over (ex := fun b => if l = b then some (.loop fi p env) else none) (by rw [hex, hback]; exact r) (fun b x hb => by
      by_cases e : l = b
      · subst e; exact hdead
      · simp [e] at hb) t1.went
    rw [hex, hex, hback] at this
    exact this
  -- the body
  have hd1 : hfn H1 l = .dead := by
    by_cases hd : hfn H1 l = .dead
    · exact hd
    · exfalso
      have hl1 := t1.went.le.1 _ _ hloc
      rcases t1.went.grows.any l loc hd hl1 with ⟨b0, l0, h0, t0, e0⟩ | hge
      · exact far0 b0 l0 h0 t0 e0
      · have : w.heap.size ≤ loc.blk := hge
        omega
  have hl1 := t1.went.le.1 _ _ hloc
  have hsz1 : w.heap.size ≤ w1.heap.size := t1.went.frm.size
  have far1 : ∀ (b : Nat) (l' : Loc), hfn H1 b ≠ .dead → θ1.blk b = some l' → l'.blk ≠ loc.blk := fun b l' hb hb' e => by
    rcases t1.went.grows.any b l' hb hb' with ⟨b0, l0, h0, t0, e0⟩ | hge
    · exact far0 b0 l0 h0 t0 (e0.trans e)
    · have : w.heap.size ≤ l'.blk := hge
      omega
  generalize hob : Obj.loop { state := .busy, pending := none, fn, tmps, params := ps', assign := as', body := bd', defers := dd } = ob
  have rel2 : HRel P θ1 (hfn H1) B (w1.putObj loc.blk ob) := t1.went.rel.keep (Theta.le_refl _) (by simp) (fun b l' hb hb' => putObj_other (far1 b l' hb hb'))
  let S2 : Start := ⟨θ1, hfn H1, n1, B, w1.putObj loc.blk ob, 0, Nat.zero_le _⟩
  have s2 : Now P S2 env1 H1 n1 a1 (w1.putObj loc.blk ob) θ1 := by
    refine ⟨?_, Went.refl rel2 t1.went.fresh, t1.glob, t1.tmps, t1.len, ?_⟩
    · show B ≤ (w1.putObj loc.blk ob).heap.size
      simp; omega
    · obtain ⟨rs, e, hnd, hrs⟩ := t1.defs
      refine ⟨rs, e, hnd, fun r hr => ?_⟩
      obtain ⟨g1, g2, g3⟩ := hrs r hr
      refine ⟨g1, ?_, g3⟩
      rw [putObj_other (fun e => by rw [e, hw1] at g2; cases g2)]
      exact g2
  refine hto2 _ m S2 _ _ θ1 _ ⟨looseR_round loc.blk, fun e => by cases e⟩ s2 fun a3 w3 θ3 t3 => ?_
  have hsz3 : w1.heap.size ≤ w3.heap.size := by have := t3.went.frm.size; simpa [S2] using this
  have hw3 : w3.heap[loc.blk]? = some ob := by
    rw [t3.went.frm.block _ (by show loc.blk < (w1.putObj loc.blk ob).heap.size; simp; omega) fun b l' hb hb' => far1 b l' (own_ne hb) hb']
    exact World.putObj_heap_same (by omega)
  have hend := run_endRound (P := P) none (hob ▸ hw3)
  refine ⟨_, _, hend, .bool true, θ3, rfl, ?_, .inr (by simp [Ev.conc])⟩
  rw [hback2]
  refine go1.trans ?_
  refine went_beside (o := ob) go1.rel hown hl1 hd1 t3.went ⟨hBl, tmps, ps', as', bd', dd, fn, hsite, World.putObj_heap_same (by omega), ?_, hsz⟩
  exact ⟨fun t => (htr.val t).le (Theta.le_trans t1.went.le t3.went.le)⟩

end
end Ev
