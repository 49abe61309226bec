/- A part of the proof that GcNone returns true: text Ev8. -/
import Derived.Test.YtiegdojchlmfnaaGreatDoorEv7
namespace Ev
open Go
open Go.RowKit
noncomputable section

/-! ### Binary operations -/

def nilP (x : AV) (k : Bool → Bool) : Bool :=
  AV.casesOn (motive_1 := fun _ => Bool) x false (fun _ => false) (fun _ _ => false) (fun _ _ => false) (k true) (fun _ _ => k false) false (fun _ _ _ _ => false) (fun _ _ _ _ => false) false (fun _ => false)
    (fun _ _ _ => false) false (fun _ _ => false) false (fun _ => false) (fun _ => false) (fun _ => false)
def nilS (x : AV) (k : Bool → Bool) : Bool :=
  AV.casesOn (motive_1 := fun _ => Bool) x false (fun _ => false) (fun _ _ => false) (fun _ _ => false) false (fun _ _ => false) (k true) (fun _ _ _ _ => k false) (fun _ _ _ _ => k false) false (fun _ => false)
    (fun _ _ _ => false) false (fun _ _ => false) false (fun _ => false) (fun _ => false) (fun _ => false)
def nilM (x : AV) (k : Bool → Bool) : Bool :=
  AV.casesOn (motive_1 := fun _ => Bool) x false (fun _ => false) (fun _ _ => false) (fun _ _ => false) false (fun _ _ => false) false (fun _ _ _ _ => false) (fun _ _ _ _ => false) (k true) (fun _ => k false)
    (fun _ _ _ => false) false (fun _ _ => false) false (fun _ => false) (fun _ => false) (fun _ => false)
def nilF (x : AV) (k : Bool → Bool) : Bool :=
  AV.casesOn (motive_1 := fun _ => Bool) x false (fun _ => false) (fun _ _ => false) (fun _ _ => false) false (fun _ _ => false) false (fun _ _ _ _ => false) (fun _ _ _ _ => false) false (fun _ => false)
    (fun _ _ _ => k false) (k true) (fun _ _ => false) false (fun _ => false) (fun _ => false) (fun _ => false)
def nilI (x : AV) (k : Bool → Bool) : Bool :=
  AV.casesOn (motive_1 := fun _ => Bool) x false (fun _ => false) (fun _ _ => false) (fun _ _ => false) false (fun _ _ => false) false (fun _ _ _ _ => false) (fun _ _ _ _ => false) false (fun _ => false)
    (fun _ _ _ => false) false (fun _ _ => k false) (k true) (fun _ => false) (fun _ => false) (fun _ => false)

def eqRes (op : BinOp) (r : Bool) (k : AV → Bool) : Bool :=
  match op with
  | .eql => boolK r k
  | .neq => boolK (Bool.not r) k
  | _ => false

/-- A comparison with a literal nil. -/
def nilCmp (P : Program) (t : Nat) (y : Operand) (x : AV) (k : Bool → Bool) : Bool :=
  match P.underlying t, y with
  | some (.pointer _), .const (.pointer none) => nilP x k
  | some (.slice _), .const (.slice none 0 0) => nilS x k
  | some (.map ..), .const (.map none) => nilM x k
  | some (.func ..), .const .nilFunc => nilF x k
  | some (.interface _), .const .nilIface => nilI x k
  | _, _ => false

theorem eqRes_ok {op : BinOp} {r : Bool} {k : AV → Bool} (h : eqRes op r k = true) :
    ∃ v v', k v = true ∧ (∀ θ, Ev.conc θ v = some v') ∧ ((op = .eql ∧ v' = .bool r) ∨ (op = .neq ∧ v' = .bool !r)) := by
  cases op <;> simp only [eqRes, boolK_eq, Bool.false_eq_true] at h
  · exact ⟨_, _, h, fun _ => rfl, .inl ⟨rfl, rfl⟩⟩
  · exact ⟨_, _, h, fun _ => rfl, .inr ⟨rfl, rfl⟩⟩

theorem equal_of {P : Program} {t : TypeId} {x y : Value} {r : Bool} {w : World} (h : ∀ d, (Op.equalIn (d + 1) t x y).run P w = .ok r w) : (Op.equal t x y).run P w = .ok r w := h 9999

/-- An equality of two values that are no integers and no strings, out of the equality of the type. -/
theorem run_eqRes {P : Program} {op : BinOp} {r : Bool} {v' : Value} {t : Nat} {xo yo : Operand} {x y : Value} {w : World}
    (h : (op = .eql ∧ v' = .bool r) ∨ (op = .neq ∧ v' = .bool !r)) (hg : (eqGuard op t xo yo x y).run P w = .ok () w)
    (h1 : binOp .eql t x y = (do pure (.bool (← Op.equal t x y)) : Sem Value)) (h2 : binOp .neq t x y = (do pure (.bool (!(← Op.equal t x y))) : Sem Value))
    (he : (Op.equal t x y).run P w = .ok r w) :
    ((do eqGuard op t xo yo x y; binOp op t x y) : Sem Value).run P w = .ok v' w := by
  rcases h with ⟨rfl, rfl⟩ | ⟨rfl, rfl⟩
  · rw [h1]; simp [hg, he]
  · rw [h2]; simp [hg, he]

def binE (P : Program) (op : BinOp) (t : Nat) (yo : Operand) (x y : AV) (k : AV → Bool) : Bool :=
  match P.underlying t with
  | some (.int _) => (match op with
    | .shl | .shr => shiftE op x y k
    | _ => x.ckInts y fun kd a b => binInt op kd a b k)
  | some .string => x.ckStr fun n c => y.ckStr fun m d => binStr op n c m d k
  | some .bool => x.ckBool fun a => y.ckBool fun b => eqRes op (Bool.rec (Bool.not b) b a) k
  | some (.struct _) | some (.array ..) => (match aggOffs P t with
    | some is => if P.eqGuardType P.depth t then false else x.ckAgg fun l => y.ckAgg fun m => eqOffs is l m fun r => eqRes op r k
    | none => false)
  | _ => nilCmp P t yo x fun r => eqRes op r k

theorem nilCmp_ok {P : Program} {t : Nat} {yo : Operand} {x : AV} {k : Bool → Bool} (h : nilCmp P t yo x k = true) :
    ∃ r, k r = true ∧ ∀ (θ : Theta) (xv : Value) (a : Act) (xo : Operand) (op : BinOp) (v' : Value) (w : World), VR θ x xv → ((op = .eql ∧ v' = .bool r) ∨ (op = .neq ∧ v' = .bool !r)) →
      ((do eqGuard op t xo yo xv (a.eval yo); binOp op t xv (a.eval yo)) : Sem Value).run P w = .ok v' w := by
  unfold nilCmp at h
  split at h
  · rename_i e hu
    cases x <;> first | exact (Bool.false_ne_true h).elim | skip
    · exact ⟨true, h, fun θ xv a xo op v' w hv hr => by
        rw [hv.nilp]
        refine run_eqRes hr ?_ rfl rfl ?_
        · rcases hr with ⟨rfl, _⟩ | ⟨rfl, _⟩ <;> simp [eqGuard]
        · exact equal_of fun d => by simp [Op.equalIn, run_underlying hu, Act.eval]⟩
    · exact ⟨false, h, fun θ xv a xo op v' w hv hr => by
        obtain ⟨l, _, rfl⟩ := hv.ptr
        refine run_eqRes hr ?_ rfl rfl ?_
        · rcases hr with ⟨rfl, _⟩ | ⟨rfl, _⟩ <;> simp [eqGuard]
        · exact equal_of fun d => by simp [Op.equalIn, run_underlying hu, Act.eval]⟩
  · rename_i e hu
    cases x <;> first | exact (Bool.false_ne_true h).elim | skip
    · exact ⟨true, h, fun θ xv a xo op v' w hv hr => by
        rw [hv.nils]
        refine run_eqRes hr ?_ rfl rfl ?_
        · rcases hr with ⟨rfl, _⟩ | ⟨rfl, _⟩ <;> simp [eqGuard]
        · exact equal_of fun d => by simp [Op.equalIn, run_underlying hu, Act.eval]⟩
    · exact ⟨false, h, fun θ xv a xo op v' w hv hr => by
        obtain ⟨l, _, rfl⟩ := hv.sl
        refine run_eqRes hr ?_ rfl rfl ?_
        · rcases hr with ⟨rfl, _⟩ | ⟨rfl, _⟩ <;> simp [eqGuard]
        · exact equal_of fun d => by simp [Op.equalIn, run_underlying hu, Act.eval]⟩
    · exact ⟨false, h, fun θ xv a xo op v' w hv hr => by
        have hc := hv.conc (by simp)
        simp only [Ev.conc, Option.map_eq_some_iff] at hc
        obtain ⟨l, _, hc⟩ := hc
        have : ∃ ad n c, xv = .slice (some ad) n c := by rw [← hc]; split <;> exact ⟨_, _, _, rfl⟩
        obtain ⟨ad, n, c, rfl⟩ := this
        refine run_eqRes hr ?_ rfl rfl ?_
        · rcases hr with ⟨rfl, _⟩ | ⟨rfl, _⟩ <;> simp [eqGuard]
        · exact equal_of fun d => by simp [Op.equalIn, run_underlying hu, Act.eval]⟩
  · rename_i e1 e2 hu
    cases x <;> first | exact (Bool.false_ne_true h).elim | skip
    · exact ⟨true, h, fun θ xv a xo op v' w hv hr => by
        rw [hv.nilm]
        refine run_eqRes hr ?_ rfl rfl ?_
        · rcases hr with ⟨rfl, _⟩ | ⟨rfl, _⟩ <;> simp [eqGuard]
        · exact equal_of fun d => by simp [Op.equalIn, run_underlying hu, Act.eval]⟩
    · exact ⟨false, h, fun θ xv a xo op v' w hv hr => by
        obtain ⟨l, _, rfl⟩ := hv.map
        refine run_eqRes hr ?_ rfl rfl ?_
        · rcases hr with ⟨rfl, _⟩ | ⟨rfl, _⟩ <;> simp [eqGuard]
        · exact equal_of fun d => by simp [Op.equalIn, run_underlying hu, Act.eval]⟩
  · rename_i e1 e2 e3 hu
    cases x <;> first | exact (Bool.false_ne_true h).elim | skip
    · exact ⟨false, h, fun θ xv a xo op v' w hv hr => by
        obtain ⟨_, _, _, _, _, _, rfl⟩ := hv.fn
        refine run_eqRes hr ?_ rfl rfl ?_
        · rcases hr with ⟨rfl, _⟩ | ⟨rfl, _⟩ <;> simp [eqGuard]
        · exact equal_of fun d => by simp [Op.equalIn, run_underlying hu, Act.eval]⟩
    · exact ⟨true, h, fun θ xv a xo op v' w hv hr => by
        have hc := hv.conc (by simp)
        simp only [Ev.conc, Option.some.injEq] at hc
        subst hc
        refine run_eqRes hr ?_ rfl rfl ?_
        · rcases hr with ⟨rfl, _⟩ | ⟨rfl, _⟩ <;> simp [eqGuard]
        · exact equal_of fun d => by simp [Op.equalIn, run_underlying hu, Act.eval]⟩
  · rename_i e hu
    cases x <;> first | exact (Bool.false_ne_true h).elim | skip
    · exact ⟨false, h, fun θ xv a xo op v' w hv hr => by
        have hc := hv.conc (by simp)
        simp only [Ev.conc, Option.map_eq_some_iff] at hc
        obtain ⟨y, _, rfl⟩ := hc
        refine run_eqRes hr ?_ rfl rfl ?_
        · rcases hr with ⟨rfl, _⟩ | ⟨rfl, _⟩ <;> simp [eqGuard]
        · exact equal_of fun d => by simp [Op.equalIn, run_underlying hu, Act.eval]⟩
    · exact ⟨true, h, fun θ xv a xo op v' w hv hr => by
        have hc := hv.conc (by simp)
        simp only [Ev.conc, Option.some.injEq] at hc
        subst hc
        refine run_eqRes hr ?_ rfl rfl ?_
        · rcases hr with ⟨rfl, _⟩ | ⟨rfl, _⟩ <;> simp [eqGuard, Act.eval]
        · exact equal_of fun d => by simp [Op.equalIn, run_underlying hu, Act.eval]⟩
  · cases h

theorem pure_bin {P : Program} {env : List AV} {o : Oper} {op : BinOp} {t yt : Nat} {x y : Operand} {k : AV → Bool} (ho : o.op = .binOp op t x y yt)
    (h : binE P op t y (ev P env x) (ev P env y) k = true) : ∃ v, k v = true ∧ PureSpec P env o v := by
  unfold binE at h
  have hox : x ∈ o.op.operands := by simp [ho, Op.operands]
  have hoy : y ∈ o.op.operands := by simp [ho, Op.operands]
  split at h
  · rename_i kd0 hu
    have gen : ∀ (kd : IntKind) (a b : Int), ev P env x = .int kd a → ev P env y = .int kd b → binInt op kd a b k = true → ∃ v, k v = true ∧ PureSpec P env o v := by
      intro kd a b hx hy h
      obtain ⟨v, v', hk, hc, hr⟩ := binInt_ok (P := P) h
      refine ⟨v, hk, fun θ ac w hO => ⟨v', ?_, .inr (hc θ)⟩⟩
      have vx := hO.at hox; have vy := hO.at hoy
      rw [hx] at vx; rw [hy] at vy
      have hg : ∀ w, (eqGuard op t x y (.int kd a) (.int kd b)).run P w = .ok () w := fun w => by cases op <;> simp [eqGuard]
      simp [execOp, ho, vx.int, vy.int, hg, hr t w]
    split at h
    · obtain ⟨kd, a, hx, h1⟩ := ckInt_iff.1 h
      obtain ⟨kd', z, hy, h2⟩ := ckInt_iff.1 h1
      obtain ⟨b, rfl, h3⟩ := natOf_iff.1 h2
      simp only [intK_eq] at h3
      refine ⟨_, h3, fun θ ac w hO => ⟨.int kd (kd.wrap (a * 2 ^ (min b kd.bits))), ?_, .inr rfl⟩⟩
      have vx := hO.at hox; have vy := hO.at hoy
      rw [hx] at vx; rw [hy] at vy
      have hb : ¬ ((b : Int) < 0) := by omega
      simp [execOp, ho, vx.int, vy.int, eqGuard, binOp, Op.shift, hb]
    · obtain ⟨kd, a, hx, h1⟩ := ckInt_iff.1 h
      obtain ⟨kd', z, hy, h2⟩ := ckInt_iff.1 h1
      obtain ⟨b, rfl, h3⟩ := natOf_iff.1 h2
      simp only [forceZ_eq] at h3
      refine ⟨_, h3, fun θ ac w hO => ⟨.int kd (a.fdiv (2 ^ (min b kd.bits))), ?_, .inr rfl⟩⟩
      have vx := hO.at hox; have vy := hO.at hoy
      rw [hx] at vx; rw [hy] at vy
      have hb : ¬ ((b : Int) < 0) := by omega
      simp [execOp, ho, vx.int, vy.int, eqGuard, binOp, Op.shift, hb]
    · obtain ⟨kd, a, b, hx, hy, h3⟩ := ckInts_iff h
      exact gen kd a b hx hy h3
  · rename_i hu
    obtain ⟨n, c, hx, h1⟩ := ckStr_iff.1 h
    obtain ⟨m, d, hy, h2⟩ := ckStr_iff.1 h1
    obtain ⟨v, v', hk, hc, hr⟩ := binStr_ok (P := P) h2
    refine ⟨v, hk, fun θ ac w hO => ⟨v', ?_, .inr (hc θ)⟩⟩
    have vx := hO.at hox; have vy := hO.at hoy
    rw [hx] at vx; rw [hy] at vy
    have hg : ∀ w, (eqGuard op t x y (.string (strOf n c)) (.string (strOf m d))).run P w = .ok () w := fun w => by cases op <;> simp [eqGuard]
    simp [execOp, ho, vx.str, vy.str, hg, hr t w]
  · rename_i hu
    obtain ⟨a, hx, h1⟩ := ckBool_iff.1 h
    obtain ⟨b, hy, h2⟩ := ckBool_iff.1 h1
    obtain ⟨v, v', hk, hc, hr⟩ := eqRes_ok h2
    refine ⟨v, hk, fun θ ac w hO => ⟨v', ?_, .inr (hc θ)⟩⟩
    have vx := hO.at hox; have vy := hO.at hoy
    rw [hx] at vx; rw [hy] at vy
    have e : (Bool.rec (Bool.not b) b a : Bool) = (a == b) := by cases a <;> cases b <;> rfl
    rw [e] at hr
    have := run_eqRes (P := P) (w := w) (t := t) (xo := x) (yo := y) (x := .bool a) (y := .bool b) hr (by rcases hr with ⟨rfl, _⟩ | ⟨rfl, _⟩ <;> simp [eqGuard]) rfl rfl
      (run_equal_bool w t a b hu)
    simp only [execOp, ho, vx.bool, vy.bool, Sem.run_bind, this, Result.andThen_ok, Sem.run_pure]
  all_goals first
    | (rename_i hu
       split at h
       · rename_i is his
         split at h
         · cases h
         · rename_i hgt
           obtain ⟨l, hx, h1⟩ := ckAgg_iff.1 h
           obtain ⟨m, hy, h2⟩ := ckAgg_iff.1 h1
           obtain ⟨r, h3, hq⟩ := agg_equal his h2 9998
           obtain ⟨v, v', hk, hc, hr⟩ := eqRes_ok h3
           refine ⟨v, hk, fun θ ac w hO => ⟨v', ?_, .inr (hc θ)⟩⟩
           have vx := hO.at hox; have vy := hO.at hoy
           rw [hx] at vx; rw [hy] at vy
           obtain ⟨xs, hxs, vx⟩ := vx.agg
           obtain ⟨ys, hys, vy⟩ := vy.agg
           have := run_eqRes (P := P) (w := w) (t := t) (xo := x) (yo := y) (x := .agg xs.toArray) (y := .agg ys.toArray) hr
             (run_eqGuard_agg w op t x y xs.toArray ys.toArray (by simpa using hgt)) rfl rfl (hq θ xs ys w hxs hys)
           simp only [execOp, ho, vx, vy, Sem.run_bind, this, Result.andThen_ok, Sem.run_pure]
       · cases h)
    | (obtain ⟨r, h1, hq⟩ := nilCmp_ok h
       obtain ⟨v, v', hk, hc, hr⟩ := eqRes_ok h1
       refine ⟨v, hk, fun θ ac w hO => ⟨v', ?_, .inr (hc θ)⟩⟩
       have := hq θ (ac.eval x) ac x op v' w (hO.at hox) hr
       simp only [execOp, ho, Sem.run_bind] at this ⊢
       rw [this]
       rfl)

end
end Ev
