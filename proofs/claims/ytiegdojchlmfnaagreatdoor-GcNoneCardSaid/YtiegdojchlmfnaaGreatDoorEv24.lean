/- A part of the proof that GcNone returns true: text Ev24. -/
import Derived.Test.YtiegdojchlmfnaaGreatDoorEv23
namespace Ev
open Go
open Go.RowKit
noncomputable section

/-! ### Code -/

/-- What is told of a code beside it: at the joins, which temporaries go on. -/
inductive An where
  | stop
  | leaf
  | two (a b : An)
  | join (C : List Nat) (a b : An)
  | one (C : List Nat) (a : An)

def asg : Code → List Nat
  | .region _ ops _ => asgOps ops.toList
  | .seq a b => asg a ++ asg b
  | .cond _ a b => asg a ++ asg b
  | .block _ a => asg a
  | .loop a => asg a
  | .scope a => asg a
  | _ => []

def exitK : List (Nat × Kont) → Nat → List AV → Heap → Nat → Bool
  | [], _, _, _, _ => false
  | (i, k) :: ks, id, env, H, n => Bool.rec (exitK ks id env H n) (k env H n) (Nat.beq i id)

/-- Who carries out a region that draws its order, and a range over a function. -/
structure Side where
  draw : Nat → Array Oper → Kont → List AV → Heap → Nat → Bool
  range : Operand → Array Tmp → Code → Code → List Nat → Kont → List AV → Heap → Nat → Bool
  fuel : Nat

/-- What is never come to is not carried out. -/
def goK (an : An) (y : Bool) : Bool := (fun (_ : Nat) => An.casesOn (motive := fun _ => Bool) an false y (fun _ _ => y) (fun _ _ _ => y) (fun _ _ => y)) tall40

theorem goK_ok {an : An} {y : Bool} (h : goK an y = true) : y = true := by cases an <;> first | exact h | exact (Bool.false_ne_true h).elim

def evCode (P : Program) (F G : Orac) (X : Side) : Code → An → List Nat → List AV → Heap → Nat → List (Nat × Kont) → Kont → Kont → Bool
  | .skip, _, _, env, H, n, _, _, kn => kn env H n
  | .label _, _, _, env, H, n, _, _, kn => kn env H n
  | .region _ ops false, _, _, env, H, n, _, _, kn => evOps P F G ops kn ops.toList env H n
  | .region id ops true, _, _, env, H, n, _, _, kn => X.draw id ops kn env H n
  | .seq a b, .two x y, p, env, H, n, ks, kr, kn => goK x (evCode P F G X a x (p ++ [0]) env H n ks kr fun env H n => goK y (evCode P F G X b y (p ++ [1]) env H n ks kr kn))
  | .seq a b, .join C x y, p, env, H, n, ks, kr, kn => meetK C (asg a) env (fun env H n => goK y (evCode P F G X b y (p ++ [1]) env H n ks kr kn)) fun kn' => goK x (evCode P F G X a x (p ++ [0]) env H n ks kr kn')
  | .cond c a b, .two x y, p, env, H, n, ks, kr, kn => (ev P env c).ckBool fun t => Bool.rec (goK y (evCode P F G X b y (p ++ [1]) env H n ks kr kn)) (goK x (evCode P F G X a x (p ++ [0]) env H n ks kr kn)) t
  | .block id a, .one C x, p, env, H, n, ks, kr, kn => meetK C (asg a) env kn fun kn' => goK x (evCode P F G X a x (p ++ [0]) env H n ((id, kn') :: ks) kr kn')
  | .loop a, .one C x, p, env, H, n, ks, kr, _ => loopK X.fuel C (asg a) env H n fun env H n k => goK x (evCode P F G X a x (p ++ [0]) env H n ks kr k)
  | .rangeFunc f ps as bd, _, p, env, H, n, _, _, kn => X.range f ps as bd p kn env H n
  | .exit id, _, _, env, H, n, ks, _, _ => exitK ks id env H n
  | .ret, _, _, env, H, n, _, kr, _ => kr env H n
  | _, _, _, _, _, _, _, _, _ => false

/-- A fence for codes: where ranges over functions come in, it is no round's. -/
def Fen (t : Bool) (F : Fence) : Prop := LooseR F ∧ (t = true → F.round = none)

/-- What a straight piece of code comes to. -/
def CodeGoes (t : Bool) (P : Program) (c : Code) (env : List AV) (H : Heap) (n : Nat) (env' : List AV) (H' : Heap) (n' : Nat) : Prop :=
  ∀ (Fe : Fence) (m : Nat) (S : Start) (a : Act) (w : World) (θ : Theta) (Q : Exit → Act → World → Prop), Fen t Fe → Now P S env H n a w θ →
    (∀ a' w' θ', Now P S env' H' n' a' w' θ' → Q .normal a' w') → c.wpIn Fe m P Q a w

structure SideOK (t : Bool) (P : Program) (root : Code) (X : Side) : Prop where
  draw : ∀ id ops kn env H n, X.draw id ops kn env H n = true → ∃ env' H' n', kn env' H' n' = true ∧ Agree (asgOps ops.toList) env env' ∧ CodeGoes t P (.region id ops true) env H n env' H' n'
  range : ∀ f ps as bd p kn env H n, codeAt root p = some (.rangeFunc f ps as bd) → X.range f ps as bd p kn env H n = true →
    ∃ H' n', kn env H' n' = true ∧ CodeGoes t P (.rangeFunc f ps as bd) env H n env H' n'

theorem codeAt_step {root c : Code} : ∀ {p : List Nat} {i : Nat} {d : Code}, codeAt root p = some c → stepDown c i = some d → codeAt root (p ++ [i]) = some d := by
  intro p
  induction p generalizing root with
  | nil =>
    intro i d h hs
    simp only [codeAt, Option.some.injEq] at h
    subst h
    simp [codeAt, hs]
  | cons j p ih =>
    intro i d h hs
    simp only [codeAt, Option.bind_eq_some_iff] at h
    obtain ⟨e, he, h⟩ := h
    simp only [List.cons_append, codeAt, he, Option.bind_some]
    exact ih h hs

theorem meetK_iff {C D : List Nat} {env : List AV} {kn : Kont} {body : Kont → Bool} : meetK C D env kn body = body fun env' H n => unpT C (packT C env') (clrT D env) fun e => kn e H n := by
  unfold meetK joinP
  simp only [clrK_eq, unpL_eq]

def look : List (Nat × Kont) → Nat → Option Kont
  | [], _ => none
  | (i, k) :: ks, id => if i = id then some k else look ks id

theorem exitK_look : ∀ {ks : List (Nat × Kont)} {id : Nat} {env : List AV} {H : Heap} {n : Nat}, exitK ks id env H n = true → ∃ k, look ks id = some k ∧ k env H n = true
  | [], _, _, _, _, h => (Bool.false_ne_true h).elim
  | (i, k) :: ks, id, env, H, n, h => by
    have h : (Bool.rec (motive := fun _ => Bool) (exitK ks id env H n) (k env H n) (Nat.beq i id)) = true := h
    cases hb : Nat.beq i id with
    | true =>
      simp only [hb] at h
      have : i = id := by simpa using hb
      exact ⟨k, by simp [look, this], h⟩
    | false =>
      simp only [hb] at h
      obtain ⟨k', h1, h2⟩ := exitK_look h
      have : i ≠ id := by intro e; rw [e] at hb; simp at hb
      exact ⟨k', by simp [look, this, h1], h2⟩

/-- Where a piece of code comes to, and by which exit. -/
def CodeTo (t : Bool) (P : Program) (c : Code) (env : List AV) (H : Heap) (n : Nat) (x : Exit) (env' : List AV) (H' : Heap) (n' : Nat) : Prop :=
  ∀ (Fe : Fence) (m : Nat) (S : Start) (a : Act) (w : World) (θ : Theta) (Q : Exit → Act → World → Prop), Fen t Fe → Now P S env H n a w θ →
    (∀ a' w' θ', Now P S env' H' n' a' w' θ' → Q x a' w') → c.wpIn Fe m P Q a w

def Ends (ks : List (Nat × Kont)) (kr kn : Kont) : Exit → List AV → Heap → Nat → Bool
  | .normal, env, H, n => kn env H n
  | .ret, env, H, n => kr env H n
  | .exit id, env, H, n => exitK ks id env H n
  | _, _, _, _ => false

theorem exitK_cons {i id : Nat} {k : Kont} {ks : List (Nat × Kont)} {env : List AV} {H : Heap} {n : Nat} (h : exitK ((i, k) :: ks) id env H n = true) : (id = i ∧ k env H n = true) ∨ (id ≠ i ∧ exitK ks id env H n = true) := by
  have h : (Bool.rec (motive := fun _ => Bool) (exitK ks id env H n) (k env H n) (Nat.beq i id)) = true := h
  cases hb : Nat.beq i id with
  | true =>
    simp only [hb] at h
    exact .inl ⟨by have : i = id := by simpa using hb
                   exact this.symm, h⟩
  | false =>
    simp only [hb] at h
    exact .inr ⟨fun e => by rw [e] at hb; simp at hb, h⟩

/-- What is asked of the evaluation of a code. -/
def Found (t : Bool) (P : Program) (c : Code) (env : List AV) (H : Heap) (n : Nat) (ks : List (Nat × Kont)) (kr kn : Kont) : Prop :=
  ∃ x env' H' n', Ends ks kr kn x env' H' n' = true ∧ Agree (asg c) env env' ∧ CodeTo t P c env H n x env' H' n'

theorem found_seq {t : Bool} {P : Program} {c d : Code} {env : List AV} {H : Heap} {n : Nat} {ks : List (Nat × Kont)} {kr kn ka : Kont} (h : Found t P c env H n ks kr ka)
    (hk : ∀ env' H' n', ka env' H' n' = true → Agree (asg c) env env' → ∃ e, Sub e env' ∧ Agree (asg c) env e ∧ Found t P d e H' n' ks kr kn) : Found t P (.seq c d) env H n ks kr kn := by
  obtain ⟨x, env1, H1, n1, he, hag, hto⟩ := h
  have ag : ∀ {e}, Agree (asg c) env e → Agree (asg (.seq c d)) env e := fun h => h.mono fun t ht => by simp [asg, ht]
  cases x with
  | normal =>
    obtain ⟨e, hs, hag2, y, env2, H2, n2, he2, hag3, hto2⟩ := hk _ _ _ he hag
    refine ⟨y, env2, H2, n2, he2, (ag hag2).trans (hag3.mono fun t ht => by simp [asg, ht]), fun Fe m S a w θ Q hL s hQ => ?_⟩
    refine wpIn_seq (hto Fe m S a w θ _ hL s fun a' w' θ' s' => ?_)
    exact hto2 Fe m S a' w' θ' Q hL (s'.sub hs) hQ
  | ret => exact ⟨.ret, env1, H1, n1, he, ag hag, fun Fe m S a w θ Q hL s hQ => wpIn_seq (hto Fe m S a w θ _ hL s hQ)⟩
  | exit id => exact ⟨.exit id, env1, H1, n1, he, ag hag, fun Fe m S a w θ Q hL s hQ => wpIn_seq (hto Fe m S a w θ _ hL s hQ)⟩
  | _ => exact (Bool.false_ne_true he).elim

theorem found_block {t : Bool} {P : Program} {c : Code} {id : Nat} {C : List Nat} {env : List AV} {H : Heap} {n : Nat} {ks : List (Nat × Kont)} {kr kn : Kont}
    (h : Found t P c env H n ((id, fun env' H n => unpT C (packT C env') (clrT (asg c) env) fun e => kn e H n) :: ks) kr (fun env' H n => unpT C (packT C env') (clrT (asg c) env) fun e => kn e H n)) : Found t P (.block id c) env H n ks kr kn := by
  obtain ⟨x, env1, H1, n1, he, hag, hto⟩ := h
  have out : (∃ e, kn e H1 n1 = true ∧ Sub e env1 ∧ Agree (asg c) env e) → (∀ (Q : Exit → Act → World → Prop) a w, Q .normal a w → Exit.inBlock id Q x a w) → Found t P (.block id c) env H n ks kr kn := by
    rintro ⟨e, hk, hs, hag2⟩ hx
    exact ⟨.normal, e, H1, n1, hk, hag2, fun Fe m S a w θ Q hL s hQ => wpIn_block (hto Fe m S a w θ _ hL s fun a' w' θ' s' => hx Q a' w' (hQ a' w' θ' (s'.sub hs)))⟩
  cases x with
  | normal => exact out (join_ok hag he) fun Q a w h => h
  | ret => exact ⟨.ret, env1, H1, n1, he, hag, fun Fe m S a w θ Q hL s hQ => wpIn_block (hto Fe m S a w θ _ hL s hQ)⟩
  | exit i =>
    have he : exitK _ i env1 H1 n1 = true := he
    rcases exitK_cons he with ⟨rfl, hk⟩ | ⟨hne, hk⟩
    · exact out (join_ok hag hk) fun Q a w h => by simp only [Exit.inBlock, if_true]; exact h
    · exact ⟨.exit i, env1, H1, n1, hk, hag, fun Fe m S a w θ Q hL s hQ => wpIn_block (hto Fe m S a w θ _ hL s fun a' w' θ' s' => by simp only [Exit.inBlock]; rw [if_neg hne]; exact hQ a' w' θ' s')⟩
  | _ => exact (Bool.false_ne_true he).elim

theorem found_loop {N : Nat} {t : Bool} {P : Program} {c : Code} {C : List Nat} {env : List AV} {H : Heap} {n : Nat} {ks : List (Nat × Kont)} {kr kn : Kont} {body : List AV → Heap → Nat → Kont → Bool}
    (hb : ∀ e H n k, body e H n k = true → Found t P c e H n ks kr k) (h : loopK N C (asg c) env H n body = true) : Found t P (.loop c) env H n ks kr kn := by
  have key : ∀ (j : Nat) (env1 : List AV) (H1 : Heap) (n1 : Nat), Agree (asg c) env env1 →
      iterN j (fun ih l H n => unpT C l (clrT (asg c) env) fun e => body e H n fun env' H n => ih (packT C env') H n) (packT C env1) H1 n1 = true →
      ∃ x env' H' n', x ≠ .normal ∧ (∀ kn, Ends ks kr kn x env' H' n' = true) ∧ Agree (asg c) env env' ∧ ∀ (Fe : Fence) (m : Nat) (S : Start) (a : Act) (w : World) (θ : Theta) (Q : Exit → Act → World → Prop), Fen t Fe → Now P S env1 H1 n1 a w θ →
        (∀ a' w' θ', Now P S env' H' n' a' w' θ' → Q x a' w') → Chain Fe m P c Q j a w := by
    intro j
    induction j with
    | zero => intro env1 H1 n1 _ h; exact (Bool.false_ne_true h).elim
    | succ j ih =>
      intro env1 H1 n1 hag h
      rw [iterN_succ] at h
      obtain ⟨e, hk, hs, hag2⟩ := join_ok hag h
      obtain ⟨x, env2, H2, n2, he, hag3, hto⟩ := hb _ _ _ _ hk
      cases x with
      | normal =>
        obtain ⟨y, env3, H3, n3, hy, he3, hag4, hto3⟩ := ih env2 H2 n2 (hag2.trans hag3) he
        refine ⟨y, env3, H3, n3, hy, he3, hag4, fun Fe m S a w θ Q hL s hQ => ?_⟩
        exact hto Fe m S a w θ _ hL (s.sub hs) fun a' w' θ' s' => hto3 Fe m S a' w' θ' Q hL s' hQ
      | ret => exact ⟨.ret, env2, H2, n2, by simp, fun _ => he, hag2.trans hag3, fun Fe m S a w θ Q hL s hQ => hto Fe m S a w θ _ hL (s.sub hs) hQ⟩
      | exit i => exact ⟨.exit i, env2, H2, n2, by simp, fun _ => he, hag2.trans hag3, fun Fe m S a w θ Q hL s hQ => hto Fe m S a w θ _ hL (s.sub hs) hQ⟩
      | _ => exact (Bool.false_ne_true he).elim
  unfold loopK at h
  simp only [clrK_eq, unpL_eq] at h
  generalize N = j at h
  obtain ⟨x, env', H', n', hx, he, hag, hto⟩ := key j env H n (Agree.refl _ _) h
  exact ⟨x, env', H', n', he kn, hag, fun Fe m S a w θ Q hL s hQ => wpIn_chain (hto Fe m S a w θ Q hL s hQ)⟩

theorem found_normal {t : Bool} {P : Program} {c : Code} {env env' : List AV} {H H' : Heap} {n n' : Nat} {ks : List (Nat × Kont)} {kr kn : Kont} (hk : kn env' H' n' = true) (hag : Agree (asg c) env env') (hto : CodeGoes t P c env H n env' H' n') : Found t P c env H n ks kr kn :=
  ⟨.normal, env', H', n', hk, hag, hto⟩

theorem evCode_ok {t : Bool} {P : Program} {F G : Orac} (hF : CallSound P F) (hG : RoundSound P G) {root : Code} {X : Side} (hX : SideOK t P root X) :
    ∀ (c : Code) (an : An) (p : List Nat) (env : List AV) (H : Heap) (n : Nat) (ks : List (Nat × Kont)) (kr kn : Kont), evCode P F G X c an p env H n ks kr kn = true → codeAt root p = some c → Found t P c env H n ks kr kn
  | .skip, an, p, env, H, n, ks, kr, kn, h, hp => by
    rw [evCode] at h
    exact found_normal h (Agree.refl _ _) fun Fe m S a w θ Q hL s hQ => wpIn_skip (hQ a w θ s)
  | .label l, an, p, env, H, n, ks, kr, kn, h, hp => by
    rw [evCode] at h
    exact found_normal h (Agree.refl _ _) fun Fe m S a w θ Q hL s hQ => wpIn_label (hQ a w θ s)
  | .region id ops false, an, p, env, H, n, ks, kr, kn, h, hp => by
    rw [evCode] at h
    obtain ⟨env', H', n', hk, hag, hgo⟩ := evOps_ok hF hG (l := ops.toList) (k := 0) (fun j => by simp) h
    refine found_normal hk hag fun Fe m S a w θ Q hL s hQ => ?_
    have := hgo Fe m S a w θ Q hL.1 s hQ
    refine wpIn_region ?_
    rw [List.range_eq_range']
    simpa using this
  | .region id ops true, an, p, env, H, n, ks, kr, kn, h, hp => by
    rw [evCode] at h
    obtain ⟨env', H', n', hk, hag, hgo⟩ := hX.draw _ _ _ _ _ _ h
    exact found_normal hk hag hgo
  | .seq c d, .two x y, p, env, H, n, ks, kr, kn, h, hp => by
    rw [evCode] at h
    refine found_seq (evCode_ok hF hG hX c x _ env H n ks kr _ (goK_ok h) (codeAt_step hp rfl)) fun env' H' n' hk hag => ?_
    exact ⟨env', ⟨rfl, fun _ => .inr rfl⟩, hag, evCode_ok hF hG hX d y _ env' H' n' ks kr kn (goK_ok hk) (codeAt_step hp rfl)⟩
  | .seq c d, .join C x y, p, env, H, n, ks, kr, kn, h, hp => by
    rw [evCode, meetK_iff] at h
    refine found_seq (evCode_ok hF hG hX c x _ env H n ks kr _ (goK_ok h) (codeAt_step hp rfl)) fun env' H' n' hk hag => ?_
    obtain ⟨e, hk, hs, hag2⟩ := join_ok hag hk
    exact ⟨e, hs, hag2, evCode_ok hF hG hX d y _ e H' n' ks kr kn (goK_ok hk) (codeAt_step hp rfl)⟩
  | .cond co c d, .two x y, p, env, H, n, ks, kr, kn, h, hp => by
    rw [evCode] at h
    obtain ⟨b, hb, h⟩ := ckBool_iff.1 h
    have hv : ∀ {S : Start} {a : Act} {w : World} {θ : Theta}, Now P S env H n a w θ → a.eval co = .bool b := by
      intro S a w θ s
      have hv : VR θ (ev P env co) (a.eval co) := ev_ok s.glob co fun t _ => s.tmps t
      rw [hb] at hv
      exact hv.bool
    cases b with
    | true =>
      obtain ⟨z, env', H', n', he, hag, hto⟩ := evCode_ok hF hG hX c x _ env H n ks kr kn (goK_ok h) (codeAt_step hp rfl)
      exact ⟨z, env', H', n', he, hag.mono fun t ht => by simp [asg, ht], fun Fe m S a w θ Q hL s hQ => wpIn_cond (hv s) (hto Fe m S a w θ Q hL s hQ)⟩
    | false =>
      obtain ⟨z, env', H', n', he, hag, hto⟩ := evCode_ok hF hG hX d y _ env H n ks kr kn (goK_ok h) (codeAt_step hp rfl)
      exact ⟨z, env', H', n', he, hag.mono fun t ht => by simp [asg, ht], fun Fe m S a w θ Q hL s hQ => wpIn_cond (hv s) (hto Fe m S a w θ Q hL s hQ)⟩
  | .block id c, .one C x, p, env, H, n, ks, kr, kn, h, hp => by
    rw [evCode, meetK_iff] at h
    exact found_block (evCode_ok hF hG hX c x _ env H n _ kr _ (goK_ok h) (codeAt_step hp rfl))
  | .loop c, .one C x, p, env, H, n, ks, kr, kn, h, hp => by
    rw [evCode] at h
    exact found_loop (fun e H n k hk => evCode_ok hF hG hX c x _ e H n ks kr k (goK_ok hk) (codeAt_step hp rfl)) h
  | .rangeFunc f ps as bd, an, p, env, H, n, ks, kr, kn, h, hp => by
    rw [evCode] at h
    obtain ⟨H', n', hk, hgo⟩ := hX.range _ _ _ _ _ _ _ _ _ hp h
    exact found_normal hk (Agree.refl _ _) hgo
  | .exit id, an, p, env, H, n, ks, kr, kn, h, hp => by
    rw [evCode] at h
    exact ⟨.exit id, env, H, n, h, Agree.refl _ _, fun Fe m S a w θ Q hL s hQ => wpIn_exit (hQ a w θ s)⟩
  | .ret, an, p, env, H, n, ks, kr, kn, h, hp => by
    rw [evCode] at h
    exact ⟨.ret, env, H, n, h, Agree.refl _ _, fun Fe m S a w θ Q hL s hQ => wpIn_ret (hQ a w θ s)⟩
  | .goto l, an, p, env, H, n, ks, kr, kn, h, hp => by simp [evCode] at h
  | .scope c, an, p, env, H, n, ks, kr, kn, h, hp => by simp [evCode] at h
  | .refuse r, an, p, env, H, n, ks, kr, kn, h, hp => by simp [evCode] at h
  | .seq _ _, .leaf, p, env, H, n, ks, kr, kn, h, hp => by simp [evCode] at h
  | .seq _ _, .one _ _, p, env, H, n, ks, kr, kn, h, hp => by simp [evCode] at h
  | .cond _ _ _, .leaf, p, env, H, n, ks, kr, kn, h, hp => by simp [evCode] at h
  | .cond _ _ _, .one _ _, p, env, H, n, ks, kr, kn, h, hp => by simp [evCode] at h
  | .cond _ _ _, .join _ _ _, p, env, H, n, ks, kr, kn, h, hp => by simp [evCode] at h
  | .block _ _, .leaf, p, env, H, n, ks, kr, kn, h, hp => by simp [evCode] at h
  | .block _ _, .two _ _, p, env, H, n, ks, kr, kn, h, hp => by simp [evCode] at h
  | .block _ _, .join _ _ _, p, env, H, n, ks, kr, kn, h, hp => by simp [evCode] at h
  | .loop _, .leaf, p, env, H, n, ks, kr, kn, h, hp => by simp [evCode] at h
  | .loop _, .two _ _, p, env, H, n, ks, kr, kn, h, hp => by simp [evCode] at h
  | .loop _, .join _ _ _, p, env, H, n, ks, kr, kn, h, hp => by simp [evCode] at h
  | .seq _ _, .stop, p, env, H, n, ks, kr, kn, h, hp => by simp [evCode] at h
  | .cond _ _ _, .stop, p, env, H, n, ks, kr, kn, h, hp => by simp [evCode] at h
  | .block _ _, .stop, p, env, H, n, ks, kr, kn, h, hp => by simp [evCode] at h
  | .loop _, .stop, p, env, H, n, ks, kr, kn, h, hp => by simp [evCode] at h

end
end Ev
