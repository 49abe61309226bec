/- A part of the proof that GcRoom returns true: text EvJ. -/
import Derived.Test.YtfhilpdbmfbbdaaGreatDoorEvI
namespace Ev
open Go
open Go.RowKit
noncomputable section
inductive Orig where
  | num (s : Nat) (d : Int)
  | lit (z : Nat)
  | same (i : Nat)
structure Sig where
  src : Orig
  lo : Nat
  hi : Nat
def nthS (i : Nat) (l : List Sig) (f : Orig → Nat → Nat → Bool) : Bool :=
  Nat.rec (motive := fun _ => List Sig → Bool) (fun l => List.rec (motive := fun _ => Bool) false (fun a _ _ => Sig.rec (motive := fun _ => Bool) f a) l) (fun _ ih l => List.rec (motive := fun _ => Bool) false (fun _ t _ => ih t) l) i l
theorem nthS_iff {f : Orig → Nat → Nat → Bool} : ∀ {i : Nat} {l : List Sig}, nthS i l f = true → ∃ g, l[i]? = some g ∧ f g.src g.lo g.hi = true
  | 0, [], h => (Bool.false_ne_true h).elim
  | 0, g :: _, h => ⟨g, rfl, h⟩
  | _ + 1, [], h => (Bool.false_ne_true h).elim
  | i + 1, _ :: l, h => nthS_iff (i := i) (l := l) h
abbrev Rho := List (Nat × Nat)
def lookN (t : Nat) (ρ : Rho) (f : Nat → Bool) (e : Bool) : Bool :=
  List.rec (motive := fun _ => Bool) e (fun p _ ih => Prod.rec (motive := fun _ => Bool) (fun a b => Bool.rec (motive := fun _ => Bool) ih (f b) (Nat.beq a t)) p) ρ
def lookR (t : Nat) : Rho → Option Nat
  | [] => none
  | (a, b) :: l => if a = t then some b else lookR t l
theorem lookN_eq (t : Nat) (f : Nat → Bool) (e : Bool) : ∀ ρ, lookN t ρ f e = match lookR t ρ with | some a => f a | none => e
  | [] => rfl
  | (a, b) :: l => by
    have h : lookN t ((a, b) :: l) f e = Bool.rec (motive := fun _ => Bool) (lookN t l f e) (f b) (Nat.beq a t) := rfl
    rw [h, lookR]
    cases hb : Nat.beq a t with
    | true => rw [if_pos (Nat.eq_of_beq_eq_true hb)]
    | false =>
      rw [if_neg (fun e => by rw [e] at hb; simp at hb)]
      exact lookN_eq t f e l
def Ext (ρ ρ' : Rho) : Prop := ∀ t b, lookR t ρ = some b → lookR t ρ' = some b
theorem Ext.refl (ρ : Rho) : Ext ρ ρ := fun _ _ h => h
theorem Ext.trans {a b c : Rho} (h : Ext a b) (k : Ext b c) : Ext a c := fun t x e => k t x (h t x e)
structure LinkB (ρ : Rho) (θ θT : Theta) : Prop where
  blk : ∀ t b, lookR t ρ = some b → θT.blk t = θ.blk b
  glob : ∀ g, g < 8 → θT.blk g = θ.blk g
def LinkS (σ : List Sig) (θ θT : Theta) : Prop := ∀ (s : Nat) (g : Sig), σ[s]? = some g → match g.src with
  | .num s' d => ∀ lo hi z, θ.num s' lo hi = some z → θT.num s g.lo g.hi = some (z + d)
  | .lit z => θT.num s g.lo g.hi = some (z : Int)
  | .same i => ∀ v, θ.val i = some v → θT.val s = some v
theorem LinkB.pre {ρ ρ' : Rho} {θ θT : Theta} (h : LinkB ρ' θ θT) (hp : Ext ρ ρ') : LinkB ρ θ θT := ⟨fun t b e => h.blk t b (hp t b e), h.glob⟩
def SemV (σ : List Sig) (ρ : Rho) (a t : AV) : Prop := ∀ θ θT, LinkB ρ θ θT → LinkS σ θ θT → ∀ v, conc θ a = some v → conc θT t = some v
theorem SemV.pre {σ : List Sig} {ρ ρ' : Rho} {a t : AV} (h : SemV σ ρ a t) (hp : Ext ρ ρ') : SemV σ ρ' a t := fun θ θT hB hS => h θ θT (hB.pre hp) hS
def uniR (b bT : Nat) (ρ : Rho) (k : Rho → Bool) : Bool :=
  Bool.rec (motive := fun _ => Bool) (lookN bT ρ (fun x => ifB (Nat.beq x b) (k ρ)) (k ((bT, b) :: ρ))) (ifB (Nat.beq b bT) (k ρ)) (Nat.blt bT 8)
theorem uniR_ok {b bT : Nat} {ρ : Rho} {k : Rho → Bool} (h : uniR b bT ρ k = true) :
    ∃ ρ', Ext ρ ρ' ∧ k ρ' = true ∧ ∀ θ θT, LinkB ρ' θ θT → θT.blk bT = θ.blk b := by
  unfold uniR at h
  cases hb : Nat.blt bT 8 with
  | true =>
    rw [hb] at h
    obtain ⟨h1, h2⟩ := ifB_iff.1 h
    have h1 := Nat.eq_of_beq_eq_true h1
    subst h1
    rw [Nat.blt_eq] at hb
    exact ⟨ρ, Ext.refl ρ, h2, fun θ θT l => l.glob _ hb⟩
  | false =>
    rw [hb] at h
    have h : lookN bT ρ (fun x => ifB (Nat.beq x b) (k ρ)) (k ((bT, b) :: ρ)) = true := h
    rw [lookN_eq] at h
    split at h
    · rename_i x hx
      obtain ⟨h1, h2⟩ := ifB_iff.1 h
      have h1 := Nat.eq_of_beq_eq_true h1
      subst h1
      exact ⟨ρ, Ext.refl ρ, h2, fun θ θT l => l.blk _ _ hx⟩
    · rename_i hx
      refine ⟨(bT, b) :: ρ, fun t x e => ?_, h, fun θ θT l => l.blk bT b (by simp [lookR])⟩
      by_cases ht : bT = t
      · subst ht; rw [hx] at e; cases e
      · simp [lookR, ht, e]
def flat : AV → Bool
  | .bool _ | .int _ _ | .str _ _ | .nilp | .nils | .nilm | .nilf | .nili => true
  | _ => false
def uniV (σ : List Sig) (a t : AV) (ρ : Rho) (k : Rho → Bool) : Bool :=
  match t with
  | .ptr bT oT => a.ckPtr fun b o => ifB (Nat.beq o oT) (uniR b bT ρ k)
  | .sl bT oT lT cT => a.ckSl false (fun b o l c => ifB (Nat.beq o oT) (ifB (Nat.beq l lT) (ifB (capEq c cT) (uniR b bT ρ k)))) (fun _ _ _ _ => false)
  | .map bT => a.ckMap false fun b => uniR b bT ρ k
  | .sym (.int s lo hi c) => nthS s σ fun g lo' hi' => ifB (Nat.beq lo lo') (ifB (Nat.beq hi hi') (Orig.rec (motive := fun _ => Bool)
      (fun s' d => a.orSym false fun u => u.ckI fun s'' _ _ c' => ifB (Nat.beq s'' s') (ifB (eqZ c' (Int.add d c)) (k ρ)))
      (fun z => a.ckInt fun kd v => ifB (kdEq kd .i64) (ifB (eqZ v (Int.add (.ofNat z) c)) (k ρ))) (fun _ => false) g))
  | .sym (.spl bT s lo hi kk es) => nthS s σ fun g lo' hi' => ifB (Nat.beq lo lo') (ifB (Nat.beq hi hi') (Orig.rec (motive := fun _ => Bool)
      (fun s' d => a.orSym false fun u => u.ckS fun b s'' _ _ k' es' => ifB (Nat.beq s'' s') (ifB (Nat.beq es' es) (ifB (eqZ (.ofNat k') (Int.add d (.ofNat kk))) (uniR b bT ρ k))))
      (fun z => a.ckSl false (fun b o l c => ifB (Nat.beq o 0) (ifB (Nat.beq l (Nat.add z kk)) (ifB (capEq c (.opn es)) (ifB (Nat.blt 0 es) (uniR b bT ρ k))))) (fun _ _ _ _ => false)) (fun _ => false) g))
  | .opq i => nthS i σ fun g _ _ => Orig.rec (motive := fun _ => Bool) (fun _ _ => false) (fun _ => false) (fun j => ifB (Nat.blt j 1048576) (ifB (Nat.blt i 1048576) (ifB (sameF 8 a (.opq j)) (k ρ)))) g
  | t => ifB (flat t) (ifB (sameF 8 a t) (k ρ))
theorem uniV_ok {σ : List Sig} {a t : AV} {ρ : Rho} {k : Rho → Bool} (h : uniV σ a t ρ k = true) :
    ∃ ρ', Ext ρ ρ' ∧ k ρ' = true ∧ SemV σ ρ' a t := by
  have plain : ∀ {t : AV}, ifB (flat t) (ifB (sameF 8 a t) (k ρ)) = true → ∃ ρ', Ext ρ ρ' ∧ k ρ' = true ∧ SemV σ ρ' a t := by
    intro t h
    obtain ⟨h1, h⟩ := ifB_iff.1 h
    obtain ⟨h2, h3⟩ := ifB_iff.1 h
    rw [sameF_ok h2]
    refine ⟨ρ, Ext.refl ρ, h3, fun θ θT _ _ v hv => ?_⟩
    cases t <;> simp only [flat, Bool.false_eq_true] at h1 <;> simpa [conc] using hv
  cases t with
  | ptr bT oT =>
    simp only [uniV] at h
    obtain ⟨b, o, ea, e0⟩ := ckPtr_iff.1 h
    clear h
    subst ea
    obtain ⟨h1, h⟩ := ifB_iff.1 e0
    clear e0
    have h1 := Nat.eq_of_beq_eq_true h1
    subst h1
    obtain ⟨ρ', hp, hk, hr⟩ := uniR_ok h
    refine ⟨ρ', hp, hk, fun θ θT lB _ v hv => ?_⟩
    simp only [conc] at hv ⊢
    rwa [hr θ θT lB]
  | sl bT oT lT cT =>
    simp only [uniV] at h
    rcases ckSl_iff.1 h with ⟨_, e0⟩ | ⟨b, o, l, c, ea, e0⟩ | ⟨_, _, _, _, _, e0⟩
    · cases e0
    · clear h
      subst ea
      obtain ⟨h1, e1⟩ := ifB_iff.1 e0
      obtain ⟨h2, e2⟩ := ifB_iff.1 e1
      obtain ⟨h3, h⟩ := ifB_iff.1 e2
      clear e0 e1 e2
      have h1 := Nat.eq_of_beq_eq_true h1
      have h2 := Nat.eq_of_beq_eq_true h2
      have h3 := capEq_ok h3
      subst h1 h2 h3
      obtain ⟨ρ', hp, hk, hr⟩ := uniR_ok h
      refine ⟨ρ', hp, hk, fun θ θT lB _ v hv => ?_⟩
      cases c <;> simp only [conc] at hv ⊢ <;> rwa [hr θ θT lB]
    · cases e0
  | map bT =>
    simp only [uniV] at h
    rcases ckMap_iff.1 h with ⟨_, e0⟩ | ⟨b, ea, e0⟩
    · cases e0
    · clear h
      subst ea
      have h := e0
      clear e0
      obtain ⟨ρ', hp, hk, hr⟩ := uniR_ok h
      refine ⟨ρ', hp, hk, fun θ θT lB _ v hv => ?_⟩
      simp only [conc] at hv ⊢
      rwa [hr θ θT lB]
  | opq i =>
    simp only [uniV] at h
    obtain ⟨g, hg, h⟩ := nthS_iff h
    cases hs : g.src with
    | num s d => rw [hs] at h; cases h
    | lit z => rw [hs] at h; cases h
    | same j =>
      rw [hs] at h
      obtain ⟨h1, h⟩ := ifB_iff.1 h
      obtain ⟨h2, h⟩ := ifB_iff.1 h
      obtain ⟨h3, h⟩ := ifB_iff.1 h
      rw [sameF_ok h3]
      refine ⟨ρ, Ext.refl ρ, h, fun θ θT _ lS v hv => ?_⟩
      have := lS i g hg
      rw [hs] at this
      simp only [conc, Option.bind_eq_some_iff] at hv ⊢
      obtain ⟨u, hu, hv⟩ := hv
      refine ⟨u, this u hu, ?_⟩
      simp only [opqOk, h1, h2, Bool.true_or, Bool.and_true] at hv ⊢
      exact hv
  | sym t =>
    cases t with
    | int s lo hi c =>
      simp only [uniV] at h
      obtain ⟨g, hg, q1⟩ := nthS_iff h
      clear h
      obtain ⟨h1, q2⟩ := ifB_iff.1 q1
      clear q1
      obtain ⟨h2, h⟩ := ifB_iff.1 q2
      clear q2
      have h1 := Nat.eq_of_beq_eq_true h1
      have h2 := Nat.eq_of_beq_eq_true h2
      cases hs : g.src with
      | same j => rw [hs] at h; cases h
      | num s' d =>
        rw [hs] at h
        rcases orSym_iff h with ⟨u, ea, e0⟩ | e0
        · clear h
          obtain ⟨s'', lo', hi', c', eu, e1⟩ := SymT.ckI_iff e0
          clear e0
          subst eu
          subst ea
          obtain ⟨h3, e2⟩ := ifB_iff.1 e1
          obtain ⟨h4, h⟩ := ifB_iff.1 e2
          clear e1 e2
          have h3 := Nat.eq_of_beq_eq_true h3
          subst h3
          rw [eqZ_eq, beq_iff_eq] at h4
          refine ⟨ρ, Ext.refl ρ, h, fun θ θT _ lS v hv => ?_⟩
          have := lS s g hg
          rw [hs] at this
          simp only [conc, SymT.conc, Option.map_eq_some_iff] at hv ⊢
          obtain ⟨z, hz, rfl⟩ := hv
          refine ⟨z + d, by rw [h1, h2]; exact this _ _ _ hz, ?_⟩
          have h4 : c' = d + c := h4
          rw [h4]
          congr 1
          omega
        · cases e0
      | lit z =>
        rw [hs] at h
        obtain ⟨kd, y, ea, e0⟩ := ckInt_iff.1 h
        clear h
        subst ea
        obtain ⟨h3, e1⟩ := ifB_iff.1 e0
        obtain ⟨h4, h⟩ := ifB_iff.1 e1
        clear e0 e1
        have h3 := kdEq_iff h3
        subst h3
        rw [eqZ_eq, beq_iff_eq] at h4
        refine ⟨ρ, Ext.refl ρ, h, fun θ θT _ lS v hv => ?_⟩
        have := lS s g hg
        rw [hs] at this
        simp only [conc, SymT.conc, Option.map_eq_some_iff] at hv ⊢
        refine ⟨z, by rw [h1, h2]; exact this, ?_⟩
        simp only [Option.some.injEq] at hv
        rw [← hv, h4]
        rfl
    | spl bT s lo hi kk es =>
      simp only [uniV] at h
      obtain ⟨g, hg, q1⟩ := nthS_iff h
      clear h
      obtain ⟨h1, q2⟩ := ifB_iff.1 q1
      clear q1
      obtain ⟨h2, h⟩ := ifB_iff.1 q2
      clear q2
      have h1 := Nat.eq_of_beq_eq_true h1
      have h2 := Nat.eq_of_beq_eq_true h2
      cases hs : g.src with
      | same j => rw [hs] at h; cases h
      | num s' d =>
        rw [hs] at h
        rcases orSym_iff h with ⟨u, ea, e0⟩ | e0
        · clear h
          obtain ⟨b, s'', lo', hi', k', es', eu, e1⟩ := SymT.ckS_iff e0
          clear e0
          subst eu
          subst ea
          obtain ⟨h3, e2⟩ := ifB_iff.1 e1
          obtain ⟨h4, e3⟩ := ifB_iff.1 e2
          obtain ⟨h5, h⟩ := ifB_iff.1 e3
          clear e1 e2 e3
          have h3 := Nat.eq_of_beq_eq_true h3
          have h4 := Nat.eq_of_beq_eq_true h4
          subst h3 h4
          rw [eqZ_eq, beq_iff_eq] at h5
          have h5 : (k' : Int) = d + kk := h5
          obtain ⟨ρ', hp, hk, hr⟩ := uniR_ok h
          refine ⟨ρ', hp, hk, fun θ θT lB lS v hv => ?_⟩
          have hsig := lS s g hg
          rw [hs] at hsig
          simp only [conc, SymT.conc, Option.bind_eq_some_iff] at hv ⊢
          obtain ⟨z, hz, l, hl, hv⟩ := hv
          have hz2 := hsig _ _ _ hz
          refine ⟨z + d, by rw [h1, h2]; exact hz2, l, by rw [hr θ θT lB]; exact hl, ?_⟩
          obtain ⟨_, z0, _⟩ := num_some hz
          obtain ⟨_, z1, _⟩ := num_some hz2
          unfold Theta.spl at hv ⊢
          have : (z + d).toNat + kk = z.toNat + k' := by omega
          rw [this]
          exact hv
        · cases e0
      | lit z =>
        rw [hs] at h
        rcases ckSl_iff.1 h with ⟨_, e0⟩ | ⟨b, o, l, c, ea, e0⟩ | ⟨_, _, _, _, _, e0⟩
        · cases e0
        · clear h
          subst ea
          obtain ⟨h3, e1⟩ := ifB_iff.1 e0
          obtain ⟨h4, e2⟩ := ifB_iff.1 e1
          obtain ⟨h5, e3⟩ := ifB_iff.1 e2
          obtain ⟨h6, h⟩ := ifB_iff.1 e3
          clear e0 e1 e2 e3
          have h3 := Nat.eq_of_beq_eq_true h3
          have h4 : l = z + kk := Nat.eq_of_beq_eq_true h4
          have h5 := capEq_ok h5
          subst h3 h4 h5
          rw [Nat.blt_eq] at h6
          obtain ⟨ρ', hp, hk, hr⟩ := uniR_ok h
          refine ⟨ρ', hp, hk, fun θ θT lB lS v hv => ?_⟩
          have hsig := lS s g hg
          rw [hs] at hsig
          simp only [conc, SymT.conc, Option.bind_eq_some_iff] at hv ⊢
          obtain ⟨l, hl, hv⟩ := hv
          refine ⟨z, by rw [h1, h2]; exact hsig, l, by rw [hr θ θT lB]; exact hl, ?_⟩
          split at hv
          · rename_i hle
            injection hv with hv
            rw [← hv]
            unfold Theta.spl
            simp only [Nat.sub_zero] at hle ⊢
            rw [if_pos ⟨h6, by simpa using hle⟩]
            simp
          · cases hv
        · cases e0
    | ptr bT s lo hi es o => exact plain h
  | _ => exact plain h
theorem uniV_nb {σ : List Sig} {a t : AV} {ρ : Rho} {k : Rho → Bool} (h : uniV σ a t ρ k = true) : a ≠ .bad := by
  rintro rfl
  have plain : ∀ {t : AV}, ifB (flat t) (ifB (sameF 8 .bad t) (k ρ)) = true → False := by
    intro t h
    obtain ⟨h1, h⟩ := ifB_iff.1 h
    obtain ⟨h2, h3⟩ := ifB_iff.1 h
    have := sameF_ok h2
    rw [← this] at h1
    cases h1
  cases t with
  | ptr bT oT => simp only [uniV] at h; obtain ⟨_, _, e, _⟩ := ckPtr_iff.1 h; cases e
  | sl bT oT lT cT => simp only [uniV] at h; rcases ckSl_iff.1 h with ⟨e, _⟩ | ⟨_, _, _, _, e, _⟩ | ⟨_, _, _, _, e, _⟩ <;> cases e
  | map bT => simp only [uniV] at h; rcases ckMap_iff.1 h with ⟨e, _⟩ | ⟨_, e, _⟩ <;> cases e
  | opq i =>
    simp only [uniV] at h
    obtain ⟨g, hg, h⟩ := nthS_iff h
    cases hs : g.src with
    | num s d => rw [hs] at h; cases h
    | lit z => rw [hs] at h; cases h
    | same j =>
      rw [hs] at h
      obtain ⟨_, h⟩ := ifB_iff.1 h
      obtain ⟨_, h⟩ := ifB_iff.1 h
      obtain ⟨h3, _⟩ := ifB_iff.1 h
      have := sameF_ok h3
      cases this
  | sym t =>
    cases t with
    | int s lo hi c =>
      simp only [uniV] at h
      obtain ⟨g, hg, h⟩ := nthS_iff h
      obtain ⟨_, h⟩ := ifB_iff.1 h
      obtain ⟨_, h⟩ := ifB_iff.1 h
      cases hs : g.src with
      | num s d => rw [hs] at h; rcases orSym_iff h with ⟨u, e, _⟩ | e <;> cases e
      | lit z => rw [hs] at h; obtain ⟨_, _, e, _⟩ := ckInt_iff.1 h; cases e
      | same j => rw [hs] at h; cases h
    | spl bT s lo hi kk es =>
      simp only [uniV] at h
      obtain ⟨g, hg, h⟩ := nthS_iff h
      obtain ⟨_, h⟩ := ifB_iff.1 h
      obtain ⟨_, h⟩ := ifB_iff.1 h
      cases hs : g.src with
      | num s d => rw [hs] at h; rcases orSym_iff h with ⟨u, e, _⟩ | e <;> cases e
      | lit z => rw [hs] at h; rcases ckSl_iff.1 h with ⟨e, _⟩ | ⟨_, _, _, _, e, _⟩ | ⟨_, _, _, _, e, _⟩ <;> cases e
      | same j => rw [hs] at h; cases h
    | ptr bT s lo hi es o => exact plain (t := .sym (.ptr bT s lo hi es o)) h
  | bad => exact plain (t := .bad) h
  | bool b => exact plain (t := .bool b) h
  | int kd z => exact plain (t := .int kd z) h
  | str n c => exact plain (t := .str n c) h
  | nilp => exact plain (t := .nilp) h
  | nils => exact plain (t := .nils) h
  | sle b o lo es => exact plain (t := .sle b o lo es) h
  | nilm => exact plain (t := .nilm) h
  | fn f x y => exact plain (t := .fn f x y) h
  | nilf => exact plain (t := .nilf) h
  | iface t v => exact plain (t := .iface t v) h
  | nili => exact plain (t := .nili) h
  | agg l => exact plain (t := .agg l) h
  | tup l => exact plain (t := .tup l) h
def uniC (σ : List Sig) (c t : Cells) : Nat → Nat → Nat → Rho → (Rho → Bool) → Bool
  | 0, _, _, ρ, k => k ρ
  | n + 1, o, j, ρ, k => uniV σ (c.gt o) (t.gt j) ρ fun ρ => forceN (Nat.succ o) fun o => forceN (Nat.succ j) fun j => uniC σ c t n o j ρ k
theorem uniC_ok {σ : List Sig} {c t : Cells} : ∀ {n o j : Nat} {ρ : Rho} {k : Rho → Bool}, uniC σ c t n o j ρ k = true →
    ∃ ρ', Ext ρ ρ' ∧ k ρ' = true ∧ ∀ i, i < n → SemV σ ρ' (c.get (o + i)) (t.get (j + i))
  | 0, o, j, ρ, k, h => ⟨ρ, Ext.refl ρ, h, fun i hi => by omega⟩
  | n + 1, o, j, ρ, k, h => by
    rw [uniC] at h
    obtain ⟨ρ1, hp1, h1, hv⟩ := uniV_ok h
    rw [forceN_eq, forceN_eq] at h1
    obtain ⟨ρ2, hp2, h2, hc⟩ := uniC_ok h1
    refine ⟨ρ2, hp1.trans hp2, h2, fun i hi => ?_⟩
    cases i with
    | zero =>
      rw [Cells.gt_eq, Cells.gt_eq] at hv
      exact hv.pre hp2
    | succ i =>
      have := hc i (by omega)
      rwa [show o + (i + 1) = Nat.succ o + i from by omega, show j + (i + 1) = Nat.succ j + i from by omega]
def uniE (σ : List Sig) : Ents → Ents → Rho → (Rho → Bool) → Bool
  | .nil, .nil, ρ, k => k ρ
  | .cons a v b l, .cons a' v' b' l', ρ, k => ifB (Nat.beq b b') (uniV σ a a' ρ fun ρ => uniV σ v v' ρ fun ρ => uniE σ l l' ρ k)
  | _, _, _, _ => false
def SemE (σ : List Sig) (ρ : Rho) (a t : Ents) : Prop := ∀ θ θT, LinkB ρ θ θT → LinkS σ θ θT → ∀ l, EntsRel θ a l → EntsRel θT t l
theorem uniE_ok {σ : List Sig} : ∀ {a t : Ents} {ρ : Rho} {k : Rho → Bool}, uniE σ a t ρ k = true →
    ∃ ρ', Ext ρ ρ' ∧ k ρ' = true ∧ SemE σ ρ' a t
  | .nil, .nil, ρ, k, h => ⟨ρ, Ext.refl ρ, h, fun θ θT _ _ l r => by cases r; exact .nil⟩
  | .cons a v b l, .cons a' v' b' l', ρ, k, h => by
    rw [uniE] at h
    obtain ⟨hb, h0⟩ := ifB_iff.1 h
    have hb := Nat.eq_of_beq_eq_true hb
    subst hb
    obtain ⟨ρ1, hp1, h1, hv1⟩ := uniV_ok h0
    obtain ⟨ρ2, hp2, h2, hv2⟩ := uniV_ok h1
    obtain ⟨ρ3, hp3, h3, he⟩ := uniE_ok h2
    refine ⟨ρ3, (hp1.trans hp2).trans hp3, h3, fun θ θT lB lS l r => ?_⟩
    cases r with
    | cons hk hv hl => exact .cons (hv1.pre (hp2.trans hp3) θ θT lB lS _ hk) (hv2.pre hp3 θ θT lB lS _ hv) (he θ θT lB lS _ hl)
  | .nil, .cons .., _, _, h => (Bool.false_ne_true h).elim
  | .cons .., .nil, _, _, h => (Bool.false_ne_true h).elim
def onesC (c : Cells) : Nat → Nat → Bool
  | 0, _ => true
  | n + 1, o => (c.gt o).ckOne (forceN (Nat.succ o) fun o => onesC c n o)
theorem onesC_ok {c : Cells} : ∀ {n o : Nat}, onesC c n o = true → ∀ i, i < n → (c.get (o + i)).one = true
  | 0, _, _, i, hi => by omega
  | n + 1, o, h, i, hi => by
    obtain ⟨h1, h2⟩ := ckOne_iff.1 h
    rw [forceN_eq] at h2
    cases i with
    | zero => rwa [Cells.gt_eq] at h1
    | succ i =>
      have := onesC_ok h2 i (by omega)
      rwa [show o + (i + 1) = Nat.succ o + i from by omega]
def uniB (σ : List Sig) (b t : Blk) (ρ : Rho) (k : Rho → Bool) : Bool :=
  match t with
  | .cells ro ex len c => b.ckCells fun ro' ex' len' c' => ifB (boolEq ro' ro) (ifB (boolEq ex' ex) (ifB (Bool.rec (Nat.ble len len') (Nat.beq len len') ex) (ifB (Nat.ble len c.dep) (uniC σ c' c len 0 0 ρ k))))
  | .map es clk => b.ckMap fun es' clk' => ifB (Nat.beq clk' clk) (uniE σ es' es ρ k)
  | .split s lo hi f es kk cp cw => nthS s σ fun g lo' hi' => ifB (Nat.beq lo lo') (ifB (Nat.beq hi hi') (ifB (Nat.ble (Nat.mul f es) cp.dep) (ifB (Nat.ble (Nat.mul kk es) cw.dep) (ifB (Nat.blt 0 es) (Orig.rec (motive := fun _ => Bool)
      (fun s' d => b.orSplit false fun s'' _ _ f' es' k' cp' cw' => natOf d fun d => ifB (Nat.beq s'' s') (ifB (Nat.beq es' es) (ifB (Nat.ble f f') (ifB (Nat.beq k' (Nat.add d kk))
        (uniC σ cp' cp (Nat.mul f es) 0 0 ρ fun ρ => forceN (Nat.mul d es) fun o => uniC σ cw' cw (Nat.mul kk es) o 0 ρ k)))))
      (fun z => b.ckCells fun ro' _ len' c' => ifB (Bool.not ro') (ifB (Nat.ble f z) (ifB (Nat.ble (Nat.mul (Nat.add z kk) es) len') (ifB (onesC c' (Nat.mul (Nat.add z kk) es) 0)
        (uniC σ c' cp (Nat.mul f es) 0 0 ρ fun ρ => forceN (Nat.mul z es) fun o => uniC σ c' cw (Nat.mul kk es) o 0 ρ k)))))
      (fun _ => false) g)))))
  | _ => false
def SemB (σ : List Sig) (ρ : Rho) (b t : Blk) : Prop := b ≠ .dead ∧ (t.own = true → b.own = true) ∧ ∀ P θ θT B w l, LinkB ρ θ θT → LinkS σ θ θT → BRel P θ B w l b → BRel P θT B w l t
theorem SemB.pre {σ : List Sig} {ρ ρ' : Rho} {a t : Blk} (h : SemB σ ρ a t) (hp : Ext ρ ρ') : SemB σ ρ' a t := ⟨h.1, h.2.1, fun P θ θT B w l hB hS => h.2.2 P θ θT B w l (hB.pre hp) hS⟩
theorem uniB_ok {σ : List Sig} {b t : Blk} {ρ : Rho} {k : Rho → Bool} (h : uniB σ b t ρ k = true) :
    ∃ ρ', Ext ρ ρ' ∧ k ρ' = true ∧ SemB σ ρ' b t := by
  cases t <;> simp only [uniB, Bool.false_eq_true] at h
  case cells ro ex len c =>
    obtain ⟨ro', ex', len', c', eb, q0⟩ := ckCells_iff.1 h
    clear h
    subst eb
    obtain ⟨h1, q1⟩ := ifB_iff.1 q0
    obtain ⟨h2, q2⟩ := ifB_iff.1 q1
    obtain ⟨h3, q3⟩ := ifB_iff.1 q2
    obtain ⟨h4, h0⟩ := ifB_iff.1 q3
    clear q0 q1 q2 q3
    have h1 := boolEq_ok h1
    have h2 := boolEq_ok h2
    subst h1 h2
    have hle : len ≤ len' ∧ (ex' = true → len = len') := by
      cases ex' with
      | true => have h3 : len = len' := Nat.eq_of_beq_eq_true h3; exact ⟨by omega, fun _ => h3⟩
      | false => exact ⟨by simpa using h3, fun h => by cases h⟩
    obtain ⟨ρ', hp, hk, hc⟩ := uniC_ok h0
    refine ⟨ρ', hp, hk, by simp, id, fun P θ θT B w l lB lS r => ?_⟩
    obtain ⟨r1, r2, r3⟩ := r
    refine ⟨by simpa using h4, fun i hi => ?_, fun hr => ?_⟩
    · obtain ⟨v, hv, hcv⟩ := r2 i (by omega)
      have := hc i hi
      rw [Nat.zero_add] at this
      exact ⟨v, this θ θT lB lS v hv, hcv⟩
    · obtain ⟨hB, cs, e, hw, hs, hl, hx⟩ := r3 hr
      exact ⟨hB, cs, e, hw, hs, by omega, fun hex => by rw [hle.2 hex]; exact hx hex⟩
  case map es clk =>
    obtain ⟨es', clk', eb, q0⟩ := ckMap'_iff.1 h
    clear h
    subst eb
    obtain ⟨h1, h0⟩ := ifB_iff.1 q0
    clear q0
    have h1 := Nat.eq_of_beq_eq_true h1
    subst h1
    obtain ⟨ρ', hp, hk, he⟩ := uniE_ok h0
    refine ⟨ρ', hp, hk, by simp, id, fun P θ θT B w l lB lS r => ?_⟩
    obtain ⟨hB, es0, hw, hr⟩ := r
    exact ⟨hB, es0, hw, he θ θT lB lS _ hr⟩
  case split s lo hi f es kk cp cw =>
    obtain ⟨g, hg, q1⟩ := nthS_iff h
    clear h
    obtain ⟨h1, q2⟩ := ifB_iff.1 q1
    obtain ⟨h2, q3⟩ := ifB_iff.1 q2
    obtain ⟨d1, q4⟩ := ifB_iff.1 q3
    obtain ⟨d2, q5⟩ := ifB_iff.1 q4
    obtain ⟨hes, h0⟩ := ifB_iff.1 q5
    clear q1 q2 q3 q4 q5
    have h1 := Nat.eq_of_beq_eq_true h1
    have h2 := Nat.eq_of_beq_eq_true h2
    have d1 : f * es ≤ cp.dep := by simpa using d1
    have d2 : kk * es ≤ cw.dep := by simpa using d2
    rw [Nat.blt_eq] at hes
    cases hs : g.src with
    | same j => rw [hs] at h0; cases h0
    | num s' d =>
      rw [hs] at h0
      rcases orSplit_iff h0 with ⟨s'', lo', hi', f', es', k', cp', cw', eb, e0⟩ | e0
      · clear h0
        subst eb
        obtain ⟨d, ed, q1⟩ := natOf_iff.1 e0
        clear e0
        subst ed
        obtain ⟨h3, q2⟩ := ifB_iff.1 q1
        obtain ⟨h4, q3⟩ := ifB_iff.1 q2
        obtain ⟨h5, q4⟩ := ifB_iff.1 q3
        obtain ⟨h6, e1⟩ := ifB_iff.1 q4
        clear q1 q2 q3 q4
        have h3 := Nat.eq_of_beq_eq_true h3
        have h4 := Nat.eq_of_beq_eq_true h4
        have h5 : f ≤ f' := by simpa using h5
        have h6 : k' = d + kk := Nat.eq_of_beq_eq_true h6
        subst h3 h4 h6
        obtain ⟨ρ1, hp1, hk1, hc1⟩ := uniC_ok e1
        rw [forceN_eq] at hk1
        obtain ⟨ρ2, hp2, hk2, hc2⟩ := uniC_ok hk1
        refine ⟨ρ2, hp1.trans hp2, hk2, by simp, id, fun P θ θT B w l lB lS r => ?_⟩
        obtain ⟨hB, z, cs, e, hz, hw, hsz, he, hf, hq, _, _, r3, r4, r5⟩ := r
        have hsig := lS s g hg
        rw [hs] at hsig
        have hz2 := hsig _ _ _ hz
        obtain ⟨_, z0, _⟩ := num_some hz
        have hzd : (z + (d : Int)).toNat = z.toNat + d := by omega
        refine ⟨hB, z + d, cs, e, by rw [h1, h2]; exact hz2, hw, hsz, hes, by omega, ?_, d1, d2, fun i hi => ?_, fun i hi => ?_, fun i v hi hv => ?_⟩
        · rw [hzd, Nat.add_assoc]; exact hq
        · have hle : f * es' ≤ f' * es' := Nat.mul_le_mul_right _ h5
          obtain ⟨v, hv, hcv⟩ := r3 i (by omega)
          have := (hc1 i hi).pre hp2
          rw [Nat.zero_add] at this
          exact ⟨v, this θ θT lB lS v hv, hcv⟩
        · have hmul : (d + kk) * es' = d * es' + kk * es' := Nat.add_mul _ _ _
          obtain ⟨v, hv, hcv⟩ := r4 (d * es' + i) (by omega)
          have := hc2 i hi
          rw [Nat.zero_add] at this
          refine ⟨v, this θ θT lB lS v hv, ?_⟩
          rw [hzd, Nat.add_mul, Nat.add_assoc]
          exact hcv
        · exact r5 i v (by rw [hzd, Nat.add_assoc] at hi; exact hi) hv
      · cases e0
    | lit z =>
      rw [hs] at h0
      obtain ⟨ro', ex', len', c', eb, q0⟩ := ckCells_iff.1 h0
      clear h0
      subst eb
      obtain ⟨h3, q1⟩ := ifB_iff.1 q0
      obtain ⟨h4, q2⟩ := ifB_iff.1 q1
      obtain ⟨h5, q3⟩ := ifB_iff.1 q2
      obtain ⟨h6, e0⟩ := ifB_iff.1 q3
      clear q0 q1 q2 q3
      have h4 : f ≤ z := by simpa using h4
      have h5 : (z + kk) * es ≤ len' := by simpa using h5
      have h6 := onesC_ok h6
      cases ro' with
      | true => cases h3
      | false =>
        obtain ⟨ρ1, hp1, hk1, hc1⟩ := uniC_ok e0
        rw [forceN_eq] at hk1
        obtain ⟨ρ2, hp2, hk2, hc2⟩ := uniC_ok hk1
        refine ⟨ρ2, hp1.trans hp2, hk2, by simp, fun _ => rfl, fun P θ θT B w l lB lS r => ?_⟩
        obtain ⟨r1, r2, r3⟩ := r
        obtain ⟨hB, cs, e, hw, hsz, hl, hx⟩ := r3 rfl
        have hsig := lS s g hg
        rw [hs] at hsig
        have hmul : (z + kk) * es = z * es + kk * es := Nat.add_mul _ _ _
        have hfz : f * es ≤ z * es := Nat.mul_le_mul_right _ h4
        have hcell : ∀ i v, w.cell? (l.addr i) = some v → cs[l.off + i]? = some v := fun i v h => by simpa [World.cell?, Loc.addr, hw] using h
        refine ⟨hB, z, cs, e, by rw [h1, h2]; exact hsig, hw, hsz, hes, by simpa using h4, by simp only [Int.toNat_natCast]; omega, d1, d2, fun i hi => ?_, fun i hi => ?_, fun i v hi hv => ?_⟩
        · obtain ⟨v, hv, hcv⟩ := r2 i (by omega)
          have := (hc1 i hi).pre hp2
          rw [Nat.zero_add] at this
          exact ⟨v, this θ θT lB lS v hv, hcell _ _ hcv⟩
        · simp only [Int.toNat_natCast]
          obtain ⟨v, hv, hcv⟩ := r2 (z * es + i) (by omega)
          have := hc2 i hi
          rw [Nat.zero_add] at this
          exact ⟨v, this θ θT lB lS v hv, hcell _ _ hcv⟩
        · simp only [Int.toNat_natCast] at hi
          obtain ⟨u, hu, hcu⟩ := r2 i (by omega)
          have h1 := h6 i hi
          rw [Nat.zero_add] at h1
          have := hcell _ _ hcu
          rw [this] at hv
          injection hv with hv
          rw [← hv]
          exact (one_cells h1 hu).2
def uniAll (σ : List Sig) (H : Heap) : List (Nat × Blk) → Rho → (Rho → Bool) → Bool
  | [], ρ, k => k ρ
  | (j, t) :: ts, ρ, k => lookN j ρ (fun b => at_ H b fun x => uniB σ x t ρ fun ρ => uniAll σ H ts ρ k) false
theorem uniAll_ok {σ : List Sig} {H : Heap} : ∀ {ts : List (Nat × Blk)} {ρ : Rho} {k : Rho → Bool}, uniAll σ H ts ρ k = true →
    ∃ ρ', Ext ρ ρ' ∧ k ρ' = true ∧ ∀ p ∈ ts, ∃ b, lookR p.1 ρ' = some b ∧ SemB σ ρ' (hfn H b) p.2
  | [], ρ, k, h => ⟨ρ, Ext.refl ρ, h, fun p hp => by simp at hp⟩
  | (j, t) :: ts, ρ, k, h => by
    rw [uniAll, lookN_eq] at h
    split at h
    · rename_i b hb
      obtain ⟨_, h0⟩ := at_iff.1 h
      obtain ⟨ρ1, hp1, h1, hs⟩ := uniB_ok h0
      obtain ⟨ρ2, hp2, h2, ha⟩ := uniAll_ok h1
      refine ⟨ρ2, hp1.trans hp2, h2, fun p hp => ?_⟩
      rcases List.mem_cons.1 hp with rfl | hp
      · exact ⟨b, (hp1.trans hp2) _ _ hb, hs.pre hp2⟩
      · exact ha p hp
    · cases h
end
end Ev
namespace Ev
open Go
open Go.RowKit
noncomputable section
structure Since (w0 w : World) : Prop where
  os : w.os = w0.os
  tape : w.tape = w0.tape
  output : w.output = w0.output
  size : w0.heap.size ≤ w.heap.size
  block : ∀ r, r < w0.heap.size → w.heap[r]? = w0.heap[r]?
theorem Since.refl (w : World) : Since w w := ⟨rfl, rfl, rfl, Nat.le_refl _, fun _ _ => rfl⟩
structure Head (P : Program) (w0 : World) (h : Nat → Blk) (n : Nat) (env : List AV) (θ : Theta) (a : Act) (w : World) : Prop where
  rel : HRel P θ h w0.heap.size w
  fresh : Fresh θ n
  glob : GlobOK P θ
  tmps : ∀ t, VR θ (env.getD t .bad) (a.tmps.getD t undef)
  len : env.length ≤ a.tmps.size
  defs : MarksOK P w0.heap.size θ h w a.defers
  since : Since w0 w
theorem Since.went {P : Program} {w0 : World} {h h' : Nat → Blk} {n n' : Nat} {θ θ' : Theta} {w w' : World} (s : Since w0 w) (r : HRel P θ h w0.heap.size w) (k : Went P θ h n w0.heap.size w θ' h' n' w') : Since w0 w' :=
  ⟨k.frm.os.trans s.os, k.frm.tape.trans s.tape, k.frm.output.trans s.output, Nat.le_trans s.size k.frm.size, fun b hb => by
    rw [k.frm.block b (Nat.lt_of_lt_of_le hb s.size) (fun x l hx hl e => by have := (r.own_lt hx hl).1; omega)]
    exact s.block b hb⟩
def Aside (b : Blk) : Prop := b.own = true ∧ b ≠ .defd
theorem Aside.not_mark {P : Program} {θ : Theta} {B : Nat} {w : World} {l : Loc} {b : Blk} (hb : Aside b) (r : BRel P θ B w l b) {o : Option (List Deferred)} : w.heap[l.blk]? ≠ some (.deferred o) := by
  intro e
  cases b with
  | dead => exact absurd hb.1 (by simp [Blk.own])
  | cells ro ex len c =>
    obtain ⟨_, cs, el, hw, _⟩ := r.2.2 (by simpa [Blk.own] using hb.1)
    rw [hw] at e; cases e
  | map es clk => obtain ⟨_, es', hw, _⟩ := r; rw [hw] at e; cases e
  | miter m s se la => obtain ⟨_, _, _, _, hw⟩ := r; rw [hw] at e; cases e
  | loop f p env => obtain ⟨_, _, _, _, _, _, _, _, hw, _⟩ := r; rw [hw] at e; cases e
  | defd => exact hb.2 rfl
  | split s lo hi f es k cp cw => obtain ⟨_, z, cs, e', _, hw, _⟩ := r; rw [hw] at e; cases e
theorem Head.run {P : Program} {w0 : World} {H : Heap} {ex : Nat → Option Blk} {n : Nat} {env : List AV} {θ : Theta} {a : Act} {w : World} (h : Head P w0 (Ev.over (hfn H) ex) n env θ a w) (hd : ∀ b x, ex b = some x → hfn H b = .dead) (ha : ∀ b x, ex b = some x → Aside x)
    {t : Bool} {c : Code} {x : Exit} {env' : List AV} {H' : Heap} {n' : Nat} (hto : CodeTo t P c env H n x env' H' n') {Fe : Fence} (hL : Fen t Fe) {m : Nat} {Q : Exit → Act → World → Prop}
    (hQ : ∀ a' w' θ', θ.le θ' → Head P w0 (Ev.over (hfn H') ex) n' env' θ' a' w' → Q x a' w') : c.wpIn Fe m P Q a w := by
  have r0 := h.rel.under hd
  have sub : ∀ b, hfn H b ≠ .dead → Ev.over (hfn H) ex b = hfn H b := fun b hb => by
    cases e : ex b with
    | none => exact over_none e
    | some y => exact absurd (hd b y e) hb
  have defs0 : MarksOK P w0.heap.size θ (hfn H) w a.defers := by
    obtain ⟨rs, e, hn, hr⟩ := h.defs
    refine ⟨rs, e, hn, fun r hm => ?_⟩
    obtain ⟨r1, r2, r3⟩ := hr r hm
    exact ⟨r1, r2, fun b l hb hl => r3 b l (by rw [sub b hb]; exact hb) hl⟩
  refine hto Fe m ⟨θ, hfn H, n, w0.heap.size, w, w0.heap.size, h.since.size⟩ a w θ Q hL ⟨h.since.size, Went.refl r0 h.fresh, h.glob, h.tmps, h.len, defs0⟩ fun a' w' θ' s => ?_
  have hw := Went.over h.rel hd s.went
  refine hQ a' w' θ' hw.le ⟨hw.rel, hw.fresh, s.glob, s.tmps, s.len, ?_, h.since.went h.rel hw⟩
  obtain ⟨rs, e, hn, hr⟩ := s.defs
  refine ⟨rs, e, hn, fun r hm => ?_⟩
  obtain ⟨r1, r2, r3⟩ := hr r hm
  refine ⟨r1, r2, fun b l hb hl e => ?_⟩
  cases hx : ex b with
  | none => rw [over_none hx] at hb; exact r3 b l hb hl e
  | some y =>
    have hbr := hw.rel.at hl
    rw [over_some hx] at hbr
    exact (ha b y hx).not_mark hbr (by rw [e]; exact r2)
def putL (E : Heap) : List (Nat × Blk) → Heap
  | [] => E
  | (j, b) :: l => Tr.put 5 (putL E l) j b
def layL (E : Heap) : List (Nat × Blk) → (Heap → Bool) → Bool
  | [], k => k E
  | (j, b) :: l, k => layL E l fun E => hput E j b k
theorem layL_eq : ∀ {l : List (Nat × Blk)} {E : Heap} {k : Heap → Bool}, layL E l k = k (putL E l)
  | [], _, _ => rfl
  | (j, b) :: l, E, k => by rw [layL, layL_eq (l := l), hput_eq]; rfl
def lookB (x : Nat) : List (Nat × Blk) → Option Blk
  | [] => none
  | (j, b) :: l => if j = x then some b else lookB x l
theorem lookB_mem {x : Nat} {b : Blk} : ∀ {l : List (Nat × Blk)}, lookB x l = some b → (x, b) ∈ l
  | [], h => by cases h
  | (j, c) :: l, h => by
    unfold lookB at h
    by_cases e : j = x
    · rw [if_pos e] at h; injection h with h; subst h; subst e; exact List.mem_cons_self
    · rw [if_neg e] at h; exact List.mem_cons_of_mem _ (lookB_mem h)
theorem hfn_putL : ∀ {l : List (Nat × Blk)} {E : Heap}, (∀ p ∈ l, p.1 < 32768) → ∀ x, hfn (putL E l) x = match lookB x l with | some b => b | none => hfn E x
  | [], E, _, x => rfl
  | (j, b) :: l, E, h, x => by
    rw [putL, hfn_put _ _ (h (j, b) (by simp)), lookB]
    by_cases e : j = x
    · simp [setB, e]
    · rw [if_neg e]
      simp only [setB, if_neg e]
      exact hfn_putL (fun p hp => h p (by simp [hp])) x
def isBad (t : AV) : Bool := match t with | .bad => true | _ => false
theorem isBad_iff {t : AV} : isBad t = true ↔ t = .bad := by cases t <;> simp [isBad]
def uniEnv (σ : List Sig) : List AV → List AV → Rho → (Rho → Bool) → Bool
  | [], [], ρ, k => k ρ
  | a :: l, t :: r, ρ, k => Bool.rec (motive := fun _ => Bool) (uniV σ a t ρ fun ρ => uniEnv σ l r ρ k) (uniEnv σ l r ρ k) (isBad t)
  | _, _, _, _ => false
theorem uniEnv_ok {σ : List Sig} : ∀ {l r : List AV} {ρ : Rho} {k : Rho → Bool}, uniEnv σ l r ρ k = true →
    ∃ ρ', Ext ρ ρ' ∧ k ρ' = true ∧ r.length = l.length ∧ ∀ i, r.getD i .bad = .bad ∨ (l.getD i .bad ≠ .bad ∧ SemV σ ρ' (l.getD i .bad) (r.getD i .bad))
  | [], [], ρ, k, h => ⟨ρ, Ext.refl ρ, h, rfl, fun i => .inl (by simp)⟩
  | a :: l, t :: r, ρ, k, h => by
    have h : Bool.rec (motive := fun _ => Bool) (uniV σ a t ρ fun ρ => uniEnv σ l r ρ k) (uniEnv σ l r ρ k) (isBad t) = true := h
    cases hb : isBad t with
    | true =>
      rw [hb] at h
      obtain ⟨ρ1, hp, hk, hl, hi⟩ := uniEnv_ok h
      refine ⟨ρ1, hp, hk, by simp [hl], fun i => ?_⟩
      cases i with
      | zero => exact .inl (isBad_iff.1 hb)
      | succ i => exact hi i
    | false =>
      rw [hb] at h
      obtain ⟨ρ1, hp, hk, hv⟩ := uniV_ok h
      obtain ⟨ρ2, hp2, hk2, hl, hi⟩ := uniEnv_ok hk
      refine ⟨ρ2, hp.trans hp2, hk2, by simp [hl], fun i => ?_⟩
      cases i with
      | zero => exact .inr ⟨uniV_nb h, hv.pre hp2⟩
      | succ i => exact hi i
  | [], _ :: _, _, _, h => (Bool.false_ne_true h).elim
  | _ :: _, [], _, _, h => (Bool.false_ne_true h).elim
def uniG (σ : List Sig) (H E : Heap) : List Nat → Rho → (Rho → Bool) → Bool
  | [], ρ, k => k ρ
  | g :: l, ρ, k => ifB (Nat.blt g 8) (at_ H g fun x => at_ E g fun y => uniB σ x y ρ fun ρ => uniG σ H E l ρ k)
theorem uniG_ok {σ : List Sig} {H E : Heap} : ∀ {l : List Nat} {ρ : Rho} {k : Rho → Bool}, uniG σ H E l ρ k = true →
    ∃ ρ', Ext ρ ρ' ∧ k ρ' = true ∧ ∀ g ∈ l, g < 8 ∧ SemB σ ρ' (hfn H g) (hfn E g)
  | [], ρ, k, h => ⟨ρ, Ext.refl ρ, h, fun g hg => by simp at hg⟩
  | a :: l, ρ, k, h => by
    rw [uniG] at h
    obtain ⟨h0, h⟩ := ifB_iff.1 h
    obtain ⟨_, h⟩ := at_iff.1 h
    obtain ⟨_, h⟩ := at_iff.1 h
    obtain ⟨ρ1, hp, hk, hs⟩ := uniB_ok h
    obtain ⟨ρ2, hp2, hk2, hall⟩ := uniG_ok hk
    refine ⟨ρ2, hp.trans hp2, hk2, fun g hg => ?_⟩
    rcases List.mem_cons.1 hg with rfl | hg
    · exact ⟨by simpa [Nat.blt_eq] using h0, hs.pre hp2⟩
    · exact hall g hg
def finR (fx : Bool) : Rho → List Nat → Bool
  | [], _ => true
  | (t, b) :: l, bs => ifB (Nat.ble 8 b) (ifB (Bool.and (Nat.ble 8 t) (Nat.blt t 264)) (Bool.rec (motive := fun _ => Bool) (ifB (Bool.rec (motive := fun _ => Bool) true (Bool.rec (motive := fun _ => Bool) (Bool.and (Nat.blt t 200) (Bool.or (Nat.blt b 200) (Nat.ble 264 b))) true (Nat.beq t b)) fx)
      (finR fx l (b :: bs))) false (memL b bs)))
theorem finR_ok {fx : Bool} : ∀ {l : Rho} {bs : List Nat}, finR fx l bs = true → (∀ p ∈ l, 8 ≤ p.2 ∧ (8 ≤ p.1 ∧ p.1 < 264) ∧ p.2 ∉ bs ∧ (fx = true → p.1 = p.2 ∨ (p.1 < 200 ∧ (p.2 < 200 ∨ 264 ≤ p.2)))) ∧ (l.map (·.2)).Nodup
  | [], _, _ => ⟨fun p hp => by simp at hp, .nil⟩
  | (t, b) :: l, bs, h => by
    obtain ⟨h1, h⟩ := ifB_iff.1 h
    obtain ⟨h2, h⟩ := ifB_iff.1 h
    cases hm : memL b bs with
    | true => rw [hm] at h; cases h
    | false =>
      rw [hm] at h
      obtain ⟨h3, h4⟩ := ifB_iff.1 h
      obtain ⟨ha, hn⟩ := finR_ok h4
      have hnot : b ∉ bs := fun hmem => by rw [memL_iff.2 hmem] at hm; cases hm
      refine ⟨fun p hp => ?_, ?_⟩
      · rcases List.mem_cons.1 hp with rfl | hp
        · refine ⟨by simpa using h1, by simpa [Nat.blt_eq] using h2, hnot, fun hf => ?_⟩
          rw [hf] at h3
          cases hb : Nat.beq t b with
          | true => exact .inl (Nat.eq_of_beq_eq_true hb)
          | false =>
            rw [hb] at h3
            have h3 : (Bool.and (Nat.blt t 200) (Bool.or (Nat.blt b 200) (Nat.ble 264 b))) = true := h3
            simp only [Bool.and_eq_true, Bool.or_eq_true, Nat.blt_eq, Nat.ble_eq] at h3
            exact .inr h3
        · obtain ⟨a1, a2, a3, a4⟩ := ha p hp
          exact ⟨a1, a2, fun h => a3 (List.mem_cons_of_mem _ h), a4⟩
      · rw [List.map_cons, List.nodup_cons]
        refine ⟨fun hmem => ?_, hn⟩
        obtain ⟨p, hp, e⟩ := List.mem_map.1 hmem
        exact (ha p hp).2.2.1 (by rw [e]; exact List.mem_cons_self)
theorem lookR_mem {t b : Nat} : ∀ {ρ : Rho}, lookR t ρ = some b → (t, b) ∈ ρ
  | [], h => by cases h
  | (a, c) :: l, h => by
    unfold lookR at h
    by_cases e : a = t
    · rw [if_pos e] at h; injection h with h; subst h; subst e; exact List.mem_cons_self
    · rw [if_neg e] at h; exact List.mem_cons_of_mem _ (lookR_mem h)
theorem lookR_inj {t t' b : Nat} : ∀ {ρ : Rho}, (ρ.map (·.2)).Nodup → lookR t ρ = some b → lookR t' ρ = some b → t = t'
  | [], _, h, _ => by cases h
  | (a, c) :: l, hn, h, h' => by
    rw [List.map_cons, List.nodup_cons] at hn
    unfold lookR at h h'
    by_cases e : a = t
    · rw [if_pos e] at h; injection h with h
      by_cases e' : a = t'
      · rw [← e, ← e']
      · rw [if_neg e'] at h'
        exact absurd (List.mem_map.2 ⟨_, lookR_mem h', h.symm⟩) hn.1
    · rw [if_neg e] at h
      by_cases e' : a = t'
      · rw [if_pos e'] at h'; injection h' with h'
        exact absurd (List.mem_map.2 ⟨_, lookR_mem h, h'.symm⟩) hn.1
      · rw [if_neg e'] at h'
        exact lookR_inj hn.2 h h'
def chkS (fx : Bool) (σ : List Sig) (gl : List Nat) (E : Heap) (ps : List (Nat × Blk)) (envT env : List AV) (H : Heap) : Bool :=
  uniEnv σ env envT [] fun ρ => uniG σ H E gl ρ fun ρ => uniAll σ H ps ρ fun ρ => finR fx ρ []
def thetaT (fx : Bool) (θ : Theta) (ρ : Rho) (val : Nat → Option Value) : Theta :=
  ⟨fun x => if x < 8 then θ.blk x else match lookR x ρ with | some b => θ.blk b | none => if fx = true ∧ 200 ≤ x ∧ x < 264 then θ.blk x else none, val⟩
def Stay (b : Blk) : Prop := ∀ (P : Program) (θ θT : Theta) (B : Nat) (w : World) (l : Loc), (∀ g, 200 ≤ g → g < 264 → θT.blk g = θ.blk g) → BRel P θ B w l b → BRel P θT B w l b
theorem Head.rebase {P : Program} {w0 : World} {H : Heap} {ex : Nat → Option Blk} {n : Nat} {env : List AV} {θ : Theta} {a : Act} {w : World} (h : Head P w0 (Ev.over (hfn H) ex) n env θ a w) (hP : P.globals.size ≤ 8) {fx : Bool} {σ : List Sig} {gl : List Nat} {E : Heap} {ps : List (Nat × Blk)} {envT : List AV}
    (hps : ∀ p ∈ ps, 8 ≤ p.1 ∧ p.1 < 264 ∧ (fx = true → p.1 < 200)) (hE : ∀ x, x ∉ gl → hfn E x = .dead) {val : Nat → Option Value} (lS : LinkS σ θ ⟨fun _ => none, val⟩) (hchk : chkS fx σ gl E ps envT env H = true)
    (hx0 : fx = false → ∀ b, ex b = none) (hxr : ∀ b x, ex b = some x → 200 ≤ b ∧ b < 264 ∧ Stay x ∧ hfn H b = .dead) :
    ∃ θT, θT.val = val ∧ Head P w0 (Ev.over (hfn (putL E ps)) ex) 264 envT θT a w := by
  obtain ⟨ρ1, _, h1, hlen, henv⟩ := uniEnv_ok hchk
  obtain ⟨ρ2, hp2, h2, hbase⟩ := uniG_ok h1
  obtain ⟨ρ, hp3, h3, hall⟩ := uniAll_ok h2
  obtain ⟨hfin, hnd⟩ := finR_ok h3
  have hfx : ∀ b x, ex b = some x → fx = true := fun b x e => by
    cases hf : fx with
    | true => rfl
    | false => rw [hx0 hf b] at e; cases e
  have big : ∀ {t b}, lookR t ρ = some b → 8 ≤ b ∧ 8 ≤ t ∧ t < 264 := fun e => ⟨(hfin _ (lookR_mem e)).1, (hfin _ (lookR_mem e)).2.1⟩
  have lB : LinkB ρ θ (thetaT fx θ ρ val) := by
    refine ⟨fun t b e => ?_, fun g hg => if_pos hg⟩
    have ht := (big e).2.1
    show (if t < 8 then θ.blk t else match lookR t ρ with | some b => θ.blk b | none => _) = θ.blk b
    rw [if_neg (by omega), e]
  have lS' : LinkS σ θ (thetaT fx θ ρ val) := lS
  have aside : ∀ {x}, fx = true → 200 ≤ x → x < 264 → (thetaT fx θ ρ val).blk x = θ.blk x := by
    intro x hf h1 h2
    show (if x < 8 then θ.blk x else match lookR x ρ with | some b => θ.blk b | none => if fx = true ∧ 200 ≤ x ∧ x < 264 then θ.blk x else none) = θ.blk x
    rw [if_neg (by omega)]
    cases e : lookR x ρ with
    | none => exact if_pos ⟨hf, h1, h2⟩
    | some b =>
      rcases (hfin _ (lookR_mem e)).2.2.2 hf with e' | ⟨h3, _⟩
      · have e' : x = b := e'
        rw [e']
      · have h3 : x < 200 := h3
        omega
  have hput : ∀ x, hfn (putL E ps) x = match lookB x ps with | some b => b | none => hfn E x := hfn_putL fun p hp => by have := (hps p hp).2.1; omega
  have sub : ∀ b, hfn H b ≠ .dead → Ev.over (hfn H) ex b = hfn H b := fun b hb => by
    cases e : ex b with
    | none => exact over_none e
    | some y => exact absurd (hxr b y e).2.2.2 hb
  have atH : ∀ b, hfn H b ≠ .dead → ∃ l, θ.blk b = some l ∧ l.blk < w.heap.size ∧ BRel P θ w0.heap.size w l (hfn H b) := fun b hb => by
    have := h.rel.blk b (by rw [sub b hb]; exact hb)
    rwa [sub b hb] at this
  have look : ∀ x, Ev.over (hfn (putL E ps)) ex x ≠ .dead → ∃ b l, Ev.over (hfn H) ex b ≠ .dead ∧ θ.blk b = some l ∧ (thetaT fx θ ρ val).blk x = some l ∧ l.blk < w.heap.size ∧ BRel P (thetaT fx θ ρ val) w0.heap.size w l (Ev.over (hfn (putL E ps)) ex x) ∧
      ((ex x = none ∧ lookR x ρ = some b) ∨ (x < 8 ∧ b = x) ∨ (b = x ∧ fx = true ∧ 200 ≤ x ∧ x < 264 ∧ ∃ y, ex x = some y)) := by
    intro x hx
    cases e : ex x with
    | some y =>
      obtain ⟨h200, h264, hst, _⟩ := hxr x y e
      rw [over_some e] at hx
      have ho : Ev.over (hfn H) ex x = y := over_some e
      obtain ⟨l, hl, hlt, hbr⟩ := h.rel.blk x (by rw [ho]; exact hx)
      rw [ho] at hbr
      have hf := hfx x y e
      refine ⟨x, l, by rw [ho]; exact hx, hl, by rw [aside hf h200 h264, hl], hlt, ?_, .inr (.inr ⟨rfl, hf, h200, h264, y, rfl⟩)⟩
      rw [over_some e]
      exact hst P θ _ _ w l (fun g g1 g2 => aside hf g1 g2) hbr
    | none =>
      rw [over_none e, hput x] at hx ⊢
      cases el : lookB x ps with
      | some t =>
        rw [el] at hx
        obtain ⟨b, hb, hd, _, hr⟩ := hall _ (lookB_mem el)
        have hb : lookR x ρ = some b := hb
        obtain ⟨l, hl, hlt, hbr⟩ := atH b hd
        exact ⟨b, l, by rw [sub b hd]; exact hd, hl, by rw [lB.blk x b hb, hl], hlt, hr P θ _ _ w l lB lS' hbr, .inl ⟨rfl, hb⟩⟩
      | none =>
        rw [el] at hx
        have hg : x ∈ gl := Classical.byContradiction fun hg => hx (hE x hg)
        obtain ⟨hx8, hsem⟩ := hbase x hg
        obtain ⟨a1, _, a3⟩ := hsem.pre hp3
        obtain ⟨l, hl, hlt, hbr⟩ := atH x a1
        exact ⟨x, l, by rw [sub x a1]; exact a1, hl, by rw [lB.glob x hx8, hl], hlt, a3 P θ _ _ w l lB lS' hbr, .inr (.inl ⟨hx8, rfl⟩)⟩
  refine ⟨thetaT fx θ ρ val, rfl, ⟨fun x hx => ?_, fun x y l l' hx hy e1 e2 e3 => ?_⟩, fun x hx => ?_, fun g hg => ?_, fun t => ?_, by rw [hlen]; exact h.len, ?_, h.since⟩
  · obtain ⟨b, l, _, _, e, hlt, hr, _⟩ := look x hx
    exact ⟨l, e, hlt, hr⟩
  · obtain ⟨b, m1, hb, hm1, f1, _, _, c1⟩ := look x hx
    obtain ⟨b', m2, hb', hm2, f2, _, _, c2⟩ := look y hy
    rw [e1] at f1; injection f1 with f1; subst f1
    rw [e2] at f2; injection f2 with f2; subst f2
    have hbb := h.rel.inj b b' l l' hb hb' hm1 hm2 e3
    subst hbb
    have mix : ∀ {x y}, ex x = none → lookR x ρ = some b → b = y → fx = true → 200 ≤ y → y < 264 → (∃ u, ex y = some u) → x = y := by
      intro x y ex0 hx hby hf g1 g2 hu
      rcases (hfin _ (lookR_mem hx)).2.2.2 hf with e' | ⟨h3, h4⟩
      · have e' : x = b := e'
        rw [e', hby]
      · have h4 : b < 200 ∨ 264 ≤ b := h4
        omega
    rcases c1 with ⟨p1, q1⟩ | ⟨p1, q1⟩ | ⟨p1, q1, r1, s1, t1⟩ <;> rcases c2 with ⟨p2, q2⟩ | ⟨p2, q2⟩ | ⟨p2, q2, r2, s2, t2⟩
    · exact lookR_inj hnd q1 q2
    · have := (big q1).1; omega
    · exact mix p1 q1 p2 q2 r2 s2 t2
    · have := (big q2).1; omega
    · omega
    · omega
    · exact (mix p2 q2 p1 q1 r1 s1 t1).symm
    · omega
    · omega
  · show (if x < 8 then θ.blk x else match lookR x ρ with | some b => θ.blk b | none => if fx = true ∧ 200 ≤ x ∧ x < 264 then θ.blk x else none) = none
    rw [if_neg (by omega)]
    cases e : lookR x ρ with
    | none => exact if_neg (by omega)
    | some b => have := (big e).2.2; omega
  · obtain ⟨sz, e⟩ := h.glob g hg
    exact ⟨sz, by rw [lB.glob g (by omega), e]⟩
  · rcases henv t with e | ⟨e0, e⟩
    · exact .inl e
    · rcases h.tmps t with hb | hc
      · exact absurd hb e0
      · exact .inr (e.pre (hp2.trans hp3) θ _ lB lS' _ hc)
  · obtain ⟨rs, e, hn, hr⟩ := h.defs
    refine ⟨rs, e, hn, fun r hmem => ?_⟩
    obtain ⟨r1, r2, r3⟩ := hr r hmem
    refine ⟨r1, r2, fun x l hx hl e => ?_⟩
    obtain ⟨b, m1, hb, hm1, f1, _⟩ := look x hx
    rw [hl] at f1; injection f1 with f1; subst f1
    exact r3 b l hb hm1 e
end
end Ev
