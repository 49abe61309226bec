/- A part of the proof that GcRoom returns true: text EvB. -/
import Derived.Test.YtfhilpdbmfbbdaaGreatDoorEvA
import Derived.WalkSpells
namespace Ev
open Go
open Go.RowKit
noncomputable section
def intOffs (P : Program) : List Field → Option (List Nat)
  | [] => some []
  | f :: fs =>
    match intOffs P fs with
    | none => none
    | some l => if f.name ≠ "_" then (match P.underlying f.type with | some (.int _) => some (f.offset :: l) | _ => none) else some l
def eqOffs : List Nat → List AV → List AV → (Bool → Bool) → Bool
  | [], _, _, k => k true
  | i :: is, l, m, k => nthK i l fun a => nthK i m fun b => eqIS a b fun e => Bool.rec (k false) (eqOffs is l m k) e
theorem eqOffs_fields {P : Program} (d : Nat) {k : Bool → Bool} : ∀ {fs : List Field} {is : List Nat} {l m : List AV}, intOffs P fs = some is → eqOffs is l m k = true →
    ∃ r, k r = true ∧ ∀ (θ : Theta) (xs ys : List Value) (w : World), concs θ l = some xs → concs θ m = some ys → (Op.eqFields (d + 1) xs.toArray ys.toArray fs).run P w = .ok r w
  | [], is, l, m, hi, h => by
    simp only [intOffs, Option.some.injEq] at hi
    subst hi
    exact ⟨true, h, fun θ xs ys w _ _ => by simp [Op.eqFields]⟩
  | f :: fs, is, l, m, hi, h => by
    simp only [intOffs] at hi
    split at hi
    · cases hi
    · rename_i is' his
      split at hi
      · rename_i hn
        split at hi
        · rename_i kd hu
          injection hi with hi
          subst hi
          simp only [eqOffs] at h
          obtain ⟨a, ha, h⟩ := nthK_iff.1 h
          obtain ⟨b, hb, h⟩ := nthK_iff.1 h
          obtain ⟨e, h3, hab⟩ := eqIS_ok h
          clear h
          have hagg : isAggT P f.type = some false := by simp [isAggT, hu]
          have step : ∀ (θ : Theta) (xs ys : List Value) (w : World), concs θ l = some xs → concs θ m = some ys →
              (Op.eqFields (d + 1) xs.toArray ys.toArray (f :: fs)).run P w = if e = true then (Op.eqFields (d + 1) xs.toArray ys.toArray fs).run P w else .ok false w := by
            intro θ xs ys w hx hy
            obtain ⟨v, hv, hc⟩ := concs_getElem hx ha
            obtain ⟨u, hu', hc'⟩ := concs_getElem hy hb
            obtain ⟨kd', x, y, rfl, rfl, hxy⟩ := hab θ v u (.inr hc) (.inr hc')
            have p1 : (part f.type xs.toArray f.offset).run P w = .ok (.int kd' x) w := by simp [part, run_isAggT hagg, hv]
            have p2 : (part f.type ys.toArray f.offset).run P w = .ok (.int kd' y) w := by simp [part, run_isAggT hagg, hu']
            simp only [Op.eqFields, if_pos hn, Sem.run_bind, p1, p2, Result.andThen_ok, run_equalIn_int w d f.type kd' kd x y hu]
            rw [hxy]
            cases e <;> simp
          cases e with
          | false => exact ⟨false, h3, fun θ xs ys w hx hy => by rw [step θ xs ys w hx hy]; simp⟩
          | true =>
            obtain ⟨r, hk, hr⟩ := eqOffs_fields d his h3
            exact ⟨r, hk, fun θ xs ys w hx hy => by rw [step θ xs ys w hx hy, if_pos rfl]; exact hr θ xs ys w hx hy⟩
        · cases hi
      · rename_i hn
        injection hi with hi
        subst hi
        obtain ⟨r, hk, hr⟩ := eqOffs_fields d his h
        exact ⟨r, hk, fun θ xs ys w hx hy => by simp only [Op.eqFields, if_neg hn]; exact hr θ xs ys w hx hy⟩
theorem eqOffs_items {P : Program} (d : Nat) {e : TypeId} {kd : IntKind} (hu : P.underlying e = some (.int kd)) (hc : P.cellsOf e = 1) {k : Bool → Bool} :
    ∀ {is : List Nat} {l m : List AV}, eqOffs is l m k = true →
    ∃ r, k r = true ∧ ∀ (θ : Theta) (xs ys : List Value) (w : World), concs θ l = some xs → concs θ m = some ys → (Op.eqItems (d + 1) e (P.cellsOf e) xs.toArray ys.toArray is).run P w = .ok r w
  | [], l, m, h => ⟨true, h, fun θ xs ys w _ _ => by simp [Op.eqItems]⟩
  | i :: is, l, m, h => by
    simp only [eqOffs] at h
    obtain ⟨a, ha, h⟩ := nthK_iff.1 h
    obtain ⟨b, hb, h⟩ := nthK_iff.1 h
    obtain ⟨e', h3, hab⟩ := eqIS_ok h
    clear h
    have hagg : isAggT P e = some false := by simp [isAggT, hu]
    have step : ∀ (θ : Theta) (xs ys : List Value) (w : World), concs θ l = some xs → concs θ m = some ys →
        (Op.eqItems (d + 1) e (P.cellsOf e) xs.toArray ys.toArray (i :: is)).run P w = if e' = true then (Op.eqItems (d + 1) e (P.cellsOf e) xs.toArray ys.toArray is).run P w else .ok false w := by
      intro θ xs ys w hx hy
      obtain ⟨v, hv, hc1⟩ := concs_getElem hx ha
      obtain ⟨u, hu', hc2⟩ := concs_getElem hy hb
      obtain ⟨kd', x, y, rfl, rfl, hxy⟩ := hab θ v u (.inr hc1) (.inr hc2)
      have p1 : (part e xs.toArray i).run P w = .ok (.int kd' x) w := by simp [part, run_isAggT hagg, hv]
      have p2 : (part e ys.toArray i).run P w = .ok (.int kd' y) w := by simp [part, run_isAggT hagg, hu']
      simp only [Op.eqItems, hc, Nat.mul_one, Sem.run_bind, p1, p2, Result.andThen_ok, run_equalIn_int w d e kd' kd x y hu]
      rw [hxy]
      cases e' <;> simp
    cases e' with
    | false => exact ⟨false, h3, fun θ xs ys w hx hy => by rw [step θ xs ys w hx hy]; simp⟩
    | true =>
      obtain ⟨r, hk, hr⟩ := eqOffs_items d hu hc h3
      exact ⟨r, hk, fun θ xs ys w hx hy => by rw [step θ xs ys w hx hy, if_pos rfl]; exact hr θ xs ys w hx hy⟩
def aggOffs (P : Program) (t : Nat) : Option (List Nat) :=
  match P.underlying t with
  | some (.struct fields) => if P.stoodInHeld t then none else intOffs P fields.toList
  | some (.array n e) => (match P.underlying e with | some (.int _) => if P.cellsOf e = 1 then some (List.range n) else none | _ => none)
  | _ => none
theorem agg_equal {P : Program} {t : Nat} {is : List Nat} (ha : aggOffs P t = some is) {k : Bool → Bool} {l m : List AV} (h : eqOffs is l m k = true) (d : Nat) :
    ∃ r, k r = true ∧ ∀ (θ : Theta) (xs ys : List Value) (w : World), concs θ l = some xs → concs θ m = some ys → (Op.equalIn (d + 2) t (.agg xs.toArray) (.agg ys.toArray)).run P w = .ok r w := by
  unfold aggOffs at ha
  split at ha
  · rename_i fields hu
    split at ha
    · cases ha
    · rename_i hs
      have hs : P.stoodInHeld t = false := by simpa using hs
      obtain ⟨r, hk, hr⟩ := eqOffs_fields d ha h
      have hf : P.underlying t = some (.struct (P.fieldsOf t)) := by rw [hu]; simp [Program.fieldsOf, hu]
      have hf' : P.fieldsOf t = fields := by simp [Program.fieldsOf, hu]
      exact ⟨r, hk, fun θ xs ys w hx hy => by rw [run_equalIn_struct w (d + 1) t _ _ hf hs, hf']; exact hr θ xs ys w hx hy⟩
  · rename_i n e hu
    split at ha
    · rename_i kd hue
      split at ha
      · rename_i hc
        injection ha with ha
        subst ha
        obtain ⟨r, hk, hr⟩ := eqOffs_items d hue hc h
        obtain ⟨i, hi, _⟩ := info_of_cells (P := P) (t := e) (by omega)
        exact ⟨r, hk, fun θ xs ys w hx hy => by rw [run_equalIn_array w (d + 1) _ _ hu hi]; exact hr θ xs ys w hx hy⟩
      · cases ha
    · cases ha
  · cases ha
end
end Ev
namespace Ev
open Go
open Go.RowKit
noncomputable section
def nilP (x : AV) (k : Bool → Bool) : Bool :=
  AV.rec (motive_1 := fun _ => Bool) (motive_2 := fun _ => Bool) false (fun _ => false) (fun _ _ => false) (fun _ _ => false) (k true) (fun _ _ => k false) false (fun _ _ _ _ => false) (fun _ _ _ _ => false) false (fun _ => false) (fun _ _ _ _ _ => false) false (fun _ _ _ => false) false (fun _ _ => false) (fun _ _ => false) (fun _ => false) (fun _ => false) false (fun _ _ _ _ => false) x
def nilS (x : AV) (k : Bool → Bool) : Bool :=
  AV.rec (motive_1 := fun _ => Bool) (motive_2 := fun _ => Bool) false (fun _ => false) (fun _ _ => false) (fun _ _ => false) false (fun _ _ => false) (k true) (fun _ _ _ _ => k false) (fun _ _ _ _ => k false) false (fun _ => false) (fun _ _ _ _ _ => false) false (fun _ _ _ => false) false (fun _ _ => false) (fun _ _ => false) (fun _ => false) (fun t => t.ckS fun _ _ _ _ _ _ => k false) false (fun _ _ _ _ => false) x
def nilM (x : AV) (k : Bool → Bool) : Bool :=
  AV.rec (motive_1 := fun _ => Bool) (motive_2 := fun _ => Bool) false (fun _ => false) (fun _ _ => false) (fun _ _ => false) false (fun _ _ => false) false (fun _ _ _ _ => false) (fun _ _ _ _ => false) (k true) (fun _ => k false) (fun _ _ _ _ _ => false) false (fun _ _ _ => false) false (fun _ _ => false) (fun _ _ => false) (fun _ => false) (fun _ => false) false (fun _ _ _ _ => false) x
def nilF (x : AV) (k : Bool → Bool) : Bool :=
  AV.rec (motive_1 := fun _ => Bool) (motive_2 := fun _ => Bool) false (fun _ => false) (fun _ _ => false) (fun _ _ => false) false (fun _ _ => false) false (fun _ _ _ _ => false) (fun _ _ _ _ => false) false (fun _ => false) (fun _ _ _ _ _ => k false) (k true) (fun _ _ _ => false) false (fun _ _ => false) (fun _ _ => false) (fun _ => false) (fun _ => false) false (fun _ _ _ _ => false) x
def nilI (x : AV) (k : Bool → Bool) : Bool :=
  AV.rec (motive_1 := fun _ => Bool) (motive_2 := fun _ => Bool) false (fun _ => false) (fun _ _ => false) (fun _ _ => false) false (fun _ _ => false) false (fun _ _ _ _ => false) (fun _ _ _ _ => false) false (fun _ => false) (fun _ _ _ _ _ => false) false (fun _ _ _ => k false) (k true) (fun _ _ => false) (fun _ _ => false) (fun _ => false) (fun _ => false) false (fun _ _ _ _ => false) x
def eqRes (op : BinOp) (r : Bool) (k : AV → Bool) : Bool :=
  match op with
  | .eql => boolK r k
  | .neq => boolK (Bool.not r) k
  | _ => false
def nilCmp (P : Program) (t : Nat) (y : Operand) (x : AV) (k : Bool → Bool) : Bool :=
  match P.underlying t, y with
  | some (.pointer _), .const (.pointer none) => nilP x k
  | some (.slice _), .const (.slice none 0 0) => nilS x k
  | some (.map ..), .const (.map none) => nilM x k
  | some (.func ..), .const .nilFunc => nilF x k
  | some (.interface _), .const .nilIface => nilI x k
  | _, _ => false
theorem eqRes_ok {op : BinOp} {r : Bool} {k : AV → Bool} (h : eqRes op r k = true) :
    ∃ v v', k v = true ∧ (∀ θ, Ev.conc θ v = some v') ∧ ((op = .eql ∧ v' = .bool r) ∨ (op = .neq ∧ v' = .bool !r)) := by
  cases op <;> simp only [eqRes, boolK_eq, Bool.false_eq_true] at h
  · exact ⟨_, _, h, fun _ => rfl, .inl ⟨rfl, rfl⟩⟩
  · exact ⟨_, _, h, fun _ => rfl, .inr ⟨rfl, rfl⟩⟩
theorem equal_of {P : Program} {t : TypeId} {x y : Value} {r : Bool} {w : World} (h : ∀ d, (Op.equalIn (d + 1) t x y).run P w = .ok r w) : (Op.equal t x y).run P w = .ok r w := h 9999
theorem run_eqRes {P : Program} {op : BinOp} {r : Bool} {v' : Value} {t : Nat} {xo yo : Operand} {x y : Value} {w : World}
    (h : (op = .eql ∧ v' = .bool r) ∨ (op = .neq ∧ v' = .bool !r)) (hg : (eqGuard op t xo yo x y).run P w = .ok () w)
    (h1 : binOp .eql t x y = (do pure (.bool (← Op.equal t x y)) : Sem Value)) (h2 : binOp .neq t x y = (do pure (.bool (!(← Op.equal t x y))) : Sem Value))
    (he : (Op.equal t x y).run P w = .ok r w) :
    ((do eqGuard op t xo yo x y; binOp op t x y) : Sem Value).run P w = .ok v' w := by
  rcases h with ⟨rfl, rfl⟩ | ⟨rfl, rfl⟩
  · rw [h1]; simp [hg, he]
  · rw [h2]; simp [hg, he]
def binE (P : Program) (op : BinOp) (t : Nat) (yo : Operand) (x y : AV) (k : AV → Bool) : Bool :=
  match P.underlying t with
  | some (.int _) => (match op with
    | .shl | .shr => shiftE op x y k
    | _ => intsE op x y k)
  | some .string => x.ckStr fun n c => y.ckStr fun m d => binStr op n c m d k
  | some .bool => x.ckBool fun a => y.ckBool fun b => eqRes op (Bool.rec (Bool.not b) b a) k
  | some (.struct _) | some (.array ..) => (match aggOffs P t with
    | some is => iteS (P.eqGuardType P.depth t = true) false (x.ckAgg fun l => y.ckAgg fun m => eqOffs is l m fun r => eqRes op r k)
    | none => false)
  | _ => nilCmp P t yo x fun r => eqRes op r k
theorem nilCmp_ok {P : Program} {t : Nat} {yo : Operand} {x : AV} {k : Bool → Bool} (h : nilCmp P t yo x k = true) :
    ∃ r, k r = true ∧ ∀ (θ : Theta) (xv : Value) (a : Act) (xo : Operand) (op : BinOp) (v' : Value) (w : World), VR θ x xv → ((op = .eql ∧ v' = .bool r) ∨ (op = .neq ∧ v' = .bool !r)) →
      ((do eqGuard op t xo yo xv (a.eval yo); binOp op t xv (a.eval yo)) : Sem Value).run P w = .ok v' w := by
  unfold nilCmp at h
  split at h
  · rename_i e hu
    cases x <;> first | exact (Bool.false_ne_true h).elim | skip
    · exact ⟨true, h, fun θ xv a xo op v' w hv hr => by
        rw [hv.nilp]
        refine run_eqRes hr ?_ rfl rfl ?_
        · rcases hr with ⟨rfl, _⟩ | ⟨rfl, _⟩ <;> simp [eqGuard]
        · exact equal_of fun d => by simp [Op.equalIn, run_underlying hu, Act.eval]⟩
    · exact ⟨false, h, fun θ xv a xo op v' w hv hr => by
        obtain ⟨l, _, rfl⟩ := hv.ptr
        refine run_eqRes hr ?_ rfl rfl ?_
        · rcases hr with ⟨rfl, _⟩ | ⟨rfl, _⟩ <;> simp [eqGuard]
        · exact equal_of fun d => by simp [Op.equalIn, run_underlying hu, Act.eval]⟩
  · rename_i e hu
    cases x <;> first | exact (Bool.false_ne_true h).elim | skip
    · exact ⟨true, h, fun θ xv a xo op v' w hv hr => by
        rw [hv.nils]
        refine run_eqRes hr ?_ rfl rfl ?_
        · rcases hr with ⟨rfl, _⟩ | ⟨rfl, _⟩ <;> simp [eqGuard]
        · exact equal_of fun d => by simp [Op.equalIn, run_underlying hu, Act.eval]⟩
    · exact ⟨false, h, fun θ xv a xo op v' w hv hr => by
        obtain ⟨l, _, rfl⟩ := hv.sl
        refine run_eqRes hr ?_ rfl rfl ?_
        · rcases hr with ⟨rfl, _⟩ | ⟨rfl, _⟩ <;> simp [eqGuard]
        · exact equal_of fun d => by simp [Op.equalIn, run_underlying hu, Act.eval]⟩
    · exact ⟨false, h, fun θ xv a xo op v' w hv hr => by
        have hc := hv.conc (by simp)
        simp only [Ev.conc, Option.map_eq_some_iff] at hc
        obtain ⟨l, _, hc⟩ := hc
        have : ∃ ad n c, xv = .slice (some ad) n c := by rw [← hc]; split <;> exact ⟨_, _, _, rfl⟩
        obtain ⟨ad, n, c, rfl⟩ := this
        refine run_eqRes hr ?_ rfl rfl ?_
        · rcases hr with ⟨rfl, _⟩ | ⟨rfl, _⟩ <;> simp [eqGuard]
        · exact equal_of fun d => by simp [Op.equalIn, run_underlying hu, Act.eval]⟩
    · obtain ⟨b, s, lo, hi, n, es, et, h1⟩ := SymT.ckS_iff h
      subst et
      exact ⟨false, h1, fun θ xv a xo op v' w hv hr => by
        obtain ⟨z, l, _, _, _, _, _, rfl⟩ := hv.symS
        refine run_eqRes hr ?_ rfl rfl ?_
        · rcases hr with ⟨rfl, _⟩ | ⟨rfl, _⟩ <;> simp [eqGuard]
        · exact equal_of fun d => by simp [Op.equalIn, run_underlying hu, Act.eval]⟩
  · rename_i e1 e2 hu
    cases x <;> first | exact (Bool.false_ne_true h).elim | skip
    · exact ⟨true, h, fun θ xv a xo op v' w hv hr => by
        rw [hv.nilm]
        refine run_eqRes hr ?_ rfl rfl ?_
        · rcases hr with ⟨rfl, _⟩ | ⟨rfl, _⟩ <;> simp [eqGuard]
        · exact equal_of fun d => by simp [Op.equalIn, run_underlying hu, Act.eval]⟩
    · exact ⟨false, h, fun θ xv a xo op v' w hv hr => by
        obtain ⟨l, _, rfl⟩ := hv.map
        refine run_eqRes hr ?_ rfl rfl ?_
        · rcases hr with ⟨rfl, _⟩ | ⟨rfl, _⟩ <;> simp [eqGuard]
        · exact equal_of fun d => by simp [Op.equalIn, run_underlying hu, Act.eval]⟩
  · rename_i e1 e2 e3 hu
    cases x <;> first | exact (Bool.false_ne_true h).elim | skip
    · exact ⟨false, h, fun θ xv a xo op v' w hv hr => by
        obtain ⟨_, _, _, _, _, _, rfl⟩ := hv.fn
        refine run_eqRes hr ?_ rfl rfl ?_
        · rcases hr with ⟨rfl, _⟩ | ⟨rfl, _⟩ <;> simp [eqGuard]
        · exact equal_of fun d => by simp [Op.equalIn, run_underlying hu, Act.eval]⟩
    · exact ⟨true, h, fun θ xv a xo op v' w hv hr => by
        have hc := hv.conc (by simp)
        simp only [Ev.conc, Option.some.injEq] at hc
        subst hc
        refine run_eqRes hr ?_ rfl rfl ?_
        · rcases hr with ⟨rfl, _⟩ | ⟨rfl, _⟩ <;> simp [eqGuard]
        · exact equal_of fun d => by simp [Op.equalIn, run_underlying hu, Act.eval]⟩
  · rename_i e hu
    cases x <;> first | exact (Bool.false_ne_true h).elim | skip
    · exact ⟨false, h, fun θ xv a xo op v' w hv hr => by
        have hc := hv.conc (by simp)
        simp only [Ev.conc, Option.map_eq_some_iff] at hc
        obtain ⟨y, _, rfl⟩ := hc
        refine run_eqRes hr ?_ rfl rfl ?_
        · rcases hr with ⟨rfl, _⟩ | ⟨rfl, _⟩ <;> simp [eqGuard]
        · exact equal_of fun d => by simp [Op.equalIn, run_underlying hu, Act.eval]⟩
    · exact ⟨true, h, fun θ xv a xo op v' w hv hr => by
        have hc := hv.conc (by simp)
        simp only [Ev.conc, Option.some.injEq] at hc
        subst hc
        refine run_eqRes hr ?_ rfl rfl ?_
        · rcases hr with ⟨rfl, _⟩ | ⟨rfl, _⟩ <;> simp [eqGuard, Act.eval]
        · exact equal_of fun d => by simp [Op.equalIn, run_underlying hu, Act.eval]⟩
  · cases h
theorem pure_bin {P : Program} {env : List AV} {o : Oper} {op : BinOp} {t yt : Nat} {x y : Operand} {k : AV → Bool} (ho : o.op = .binOp op t x y yt)
    (h : binE P op t y (ev P env x) (ev P env y) k = true) : ∃ v, k v = true ∧ PureSpec P env o v := by
  unfold binE at h
  have hox : x ∈ o.op.operands := by simp [ho, Op.operands]
  have hoy : y ∈ o.op.operands := by simp [ho, Op.operands]
  split at h
  · rename_i kd0 hu
    have gen : ∀ (kd : IntKind) (a b : Int), ev P env x = .int kd a → ev P env y = .int kd b → binInt op kd a b k = true → ∃ v, k v = true ∧ PureSpec P env o v := by
      intro kd a b hx hy h
      obtain ⟨v, v', hk, hc, hr⟩ := binInt_ok (P := P) h
      refine ⟨v, hk, fun θ ac w hO => ⟨v', ?_, .inr (hc θ)⟩⟩
      have vx := hO.at hox; have vy := hO.at hoy
      rw [hx] at vx; rw [hy] at vy
      have hg : ∀ w, (eqGuard op t x y (.int kd a) (.int kd b)).run P w = .ok () w := fun w => by cases op <;> simp [eqGuard]
      simp [execOp, ho, vx.int, vy.int, hg, hr t w]
    split at h
    · obtain ⟨kd, a, hx, h1⟩ := ckInt_iff.1 h
      obtain ⟨kd', z, hy, h2⟩ := ckInt_iff.1 h1
      obtain ⟨b, rfl, h3⟩ := natOf_iff.1 h2
      simp only [intK_eq] at h3
      refine ⟨_, h3, fun θ ac w hO => ⟨.int kd (kd.wrap (a * 2 ^ (min b kd.bits))), ?_, .inr rfl⟩⟩
      have vx := hO.at hox; have vy := hO.at hoy
      rw [hx] at vx; rw [hy] at vy
      have hb : ¬ ((b : Int) < 0) := by omega
      simp [execOp, ho, vx.int, vy.int, eqGuard, binOp, Op.shift, hb]
    · obtain ⟨kd, a, hx, h1⟩ := ckInt_iff.1 h
      obtain ⟨kd', z, hy, h2⟩ := ckInt_iff.1 h1
      obtain ⟨b, rfl, h3⟩ := natOf_iff.1 h2
      simp only [forceZ_eq] at h3
      refine ⟨_, h3, fun θ ac w hO => ⟨.int kd (a.fdiv (2 ^ (min b kd.bits))), ?_, .inr rfl⟩⟩
      have vx := hO.at hox; have vy := hO.at hoy
      rw [hx] at vx; rw [hy] at vy
      have hb : ¬ ((b : Int) < 0) := by omega
      simp [execOp, ho, vx.int, vy.int, eqGuard, binOp, Op.shift, hb]
    · obtain ⟨v, hk, hq⟩ := intsE_ok (P := P) h
      refine ⟨v, hk, fun θ ac w hO => ?_⟩
      obtain ⟨kd, a, b, v', ea, eb, hc, hr⟩ := hq θ _ _ (hO.at hox) (hO.at hoy)
      refine ⟨v', ?_, .inr hc⟩
      have hg : ∀ w, (eqGuard op t x y (.int kd a) (.int kd b)).run P w = .ok () w := fun w => by cases op <;> simp [eqGuard]
      simp [execOp, ho, ea, eb, hg, hr t w]
  · rename_i hu
    obtain ⟨n, c, hx, h1⟩ := ckStr_iff.1 h
    obtain ⟨m, d, hy, h2⟩ := ckStr_iff.1 h1
    obtain ⟨v, v', hk, hc, hr⟩ := binStr_ok (P := P) h2
    refine ⟨v, hk, fun θ ac w hO => ⟨v', ?_, .inr (hc θ)⟩⟩
    have vx := hO.at hox; have vy := hO.at hoy
    rw [hx] at vx; rw [hy] at vy
    have hg : ∀ w, (eqGuard op t x y (.string (strOf n c)) (.string (strOf m d))).run P w = .ok () w := fun w => by cases op <;> simp [eqGuard]
    simp [execOp, ho, vx.str, vy.str, hg, hr t w]
  · rename_i hu
    obtain ⟨a, hx, h1⟩ := ckBool_iff.1 h
    obtain ⟨b, hy, h2⟩ := ckBool_iff.1 h1
    obtain ⟨v, v', hk, hc, hr⟩ := eqRes_ok h2
    refine ⟨v, hk, fun θ ac w hO => ⟨v', ?_, .inr (hc θ)⟩⟩
    have vx := hO.at hox; have vy := hO.at hoy
    rw [hx] at vx; rw [hy] at vy
    have e : (Bool.rec (Bool.not b) b a : Bool) = (a == b) := by cases a <;> cases b <;> rfl
    rw [e] at hr
    have := run_eqRes (P := P) (w := w) (t := t) (xo := x) (yo := y) (x := .bool a) (y := .bool b) hr (by rcases hr with ⟨rfl, _⟩ | ⟨rfl, _⟩ <;> simp [eqGuard]) rfl rfl
      (run_equal_bool w t a b hu)
    simp only [execOp, ho, vx.bool, vy.bool, Sem.run_bind, this, Result.andThen_ok, Sem.run_pure]
  all_goals first
    | (rename_i hu
       split at h
       · rename_i is his
         rw [iteS_eq] at h
         split at h
         · cases h
         · rename_i hgt
           obtain ⟨l, hx, h1⟩ := ckAgg_iff.1 h
           obtain ⟨m, hy, h2⟩ := ckAgg_iff.1 h1
           obtain ⟨r, h3, hq⟩ := agg_equal his h2 9998
           obtain ⟨v, v', hk, hc, hr⟩ := eqRes_ok h3
           refine ⟨v, hk, fun θ ac w hO => ⟨v', ?_, .inr (hc θ)⟩⟩
           have vx := hO.at hox; have vy := hO.at hoy
           rw [hx] at vx; rw [hy] at vy
           obtain ⟨xs, hxs, vx⟩ := vx.agg
           obtain ⟨ys, hys, vy⟩ := vy.agg
           have := run_eqRes (P := P) (w := w) (t := t) (xo := x) (yo := y) (x := .agg xs.toArray) (y := .agg ys.toArray) hr
             (run_eqGuard_agg w op t x y xs.toArray ys.toArray (by simpa using hgt)) rfl rfl (hq θ xs ys w hxs hys)
           simp only [execOp, ho, vx, vy, Sem.run_bind, this, Result.andThen_ok, Sem.run_pure]
       · cases h)
    | (obtain ⟨r, h1, hq⟩ := nilCmp_ok h
       obtain ⟨v, v', hk, hc, hr⟩ := eqRes_ok h1
       refine ⟨v, hk, fun θ ac w hO => ⟨v', ?_, .inr (hc θ)⟩⟩
       have := hq θ (ac.eval x) ac x op v' w (hO.at hox) hr
       simp only [execOp, ho, Sem.run_bind] at this ⊢
       rw [this]
       rfl)
end
end Ev
namespace Ev
open Go
open Go.RowKit
noncomputable section
def unE (op : UnOp) (x : AV) (k : AV → Bool) : Bool :=
  match op with
  | .neg => x.ckInt fun kd a => intK kd (Int.sub 0 a) k
  | .not => x.ckBool fun b => boolK (Bool.not b) k
  | .xor => x.ckInt fun kd a => binInt .xor kd (Bool.rec kd.max (-1) kd.signed) a k
  | _ => false
theorem pure_un {P : Program} {env : List AV} {o : Oper} {op : UnOp} {t : Nat} {x : Operand} {k : AV → Bool} (ho : o.op = .unOp op t x)
    (h : unE op (ev P env x) k = true) : ∃ v, k v = true ∧ PureSpec P env o v := by
  have hox : x ∈ o.op.operands := by simp [ho, Op.operands]
  unfold unE at h
  split at h
  · obtain ⟨kd, a, hx, h⟩ := ckInt_iff.1 h
    rw [intK_eq] at h
    refine ⟨_, h, fun θ ac w hO => ⟨.int kd (kd.wrap (0 - a)), ?_, .inr rfl⟩⟩
    have vx := hO.at hox
    rw [hx] at vx
    simp [execOp, ho, vx.int, Op.unary, Op.intArith]
  · obtain ⟨b, hx, h⟩ := ckBool_iff.1 h
    rw [boolK_eq] at h
    refine ⟨_, h, fun θ ac w hO => ⟨.bool !b, ?_, .inr rfl⟩⟩
    have vx := hO.at hox
    rw [hx] at vx
    simp [execOp, ho, vx.bool, Op.unary]
  · obtain ⟨kd, a, hx, h⟩ := ckInt_iff.1 h
    obtain ⟨v, v', hk, hc, hr⟩ := binInt_ok (P := P) h
    refine ⟨v, hk, fun θ ac w hO => ⟨v', ?_, .inr (hc θ)⟩⟩
    have vx := hO.at hox
    rw [hx] at vx
    have e : (Bool.rec kd.max (-1) kd.signed : Int) = if kd.signed then -1 else kd.max := by cases kd.signed <;> rfl
    have hr := hr 0 w
    rw [e] at hr
    have e2 : (Op.intBits .xor kd (if kd.signed = true then -1 else kd.max) a).run P w = .ok v' w := by
      simpa [binOp] using hr
    simp [execOp, ho, vx.int, Op.unary, e2]
  · cases h
def convE (P : Program) (s d : Nat) (x : AV) (k : AV → Bool) : Bool :=
  match P.underlying s, P.underlying d with
  | some (.int _), some (.int kd) => x.ckInt fun _ a => intK kd a k
  | some .string, some .string => x.ckStr fun _ _ => k x
  | _, _ => false
theorem pure_conv {P : Program} {env : List AV} {o : Oper} {s d : Nat} {x : Operand} {k : AV → Bool} (ho : o.op = .convert s d x)
    (h : convE P s d (ev P env x) k = true) : ∃ v, k v = true ∧ PureSpec P env o v := by
  have hox : x ∈ o.op.operands := by simp [ho, Op.operands]
  unfold convE at h
  split at h
  · rename_i k1 kd h1 h2
    obtain ⟨kd', a, hx, h⟩ := ckInt_iff.1 h
    rw [intK_eq] at h
    refine ⟨_, h, fun θ ac w hO => ⟨.int kd (kd.wrap a), ?_, .inr rfl⟩⟩
    have vx := hO.at hox
    rw [hx] at vx
    simp [execOp, ho, vx.int, convert, run_underlying h1, run_underlying h2, Conv.intToInt]
  · rename_i h1 h2
    obtain ⟨n, c, hx, h⟩ := ckStr_iff.1 h
    refine ⟨_, h, fun θ ac w hO => ⟨.string (strOf n c), ?_, .inr (by rw [hx]; rfl)⟩⟩
    have vx := hO.at hox
    rw [hx] at vx
    simp [execOp, ho, vx.str, convert, run_underlying h1, run_underlying h2]
  · cases h
def bnd (x : Option AV) (d : Nat) (f : Nat → Bool) : Bool :=
  match x with
  | none => f d
  | some a => a.ckInt fun _ z => natOf z f
def sliceK (es : Nat) (x : AV) (lo hi : Option AV) (k : AV → Bool) : Bool :=
  x.ckSl (bnd lo 0 fun l => bnd hi 0 fun h => ifB (Bool.and (Nat.beq l 0) (Nat.beq h 0)) (k .nils))
    (fun b o len cap => bnd lo 0 fun l => bnd hi len fun h => ifB (Nat.ble l h)
      (Cap.rec (motive := fun _ => Bool)
        (fun c => ifB (Nat.ble h c) (Bool.rec (forceN (Nat.add o (Nat.mul l es)) fun q => forceN (Nat.sub h l) fun n => forceN (Nat.sub c l) fun c => k (.sl b q n (.known c))) (k (.sl b o 0 (.known 0))) (Nat.beq c l)))
        (fun e => ifB (Bool.and (Nat.beq e es) (Nat.ble h len)) (Bool.rec (k (.sle b o l e)) (forceN (Nat.add o (Nat.mul l es)) fun q => forceN (Nat.sub h l) fun n => k (.sl b q n (.opn e))) (Bool.or (Nat.beq l 0) (Nat.blt l len)))) cap))
    (fun _ _ _ _ => false)
def sliceStrK (x : AV) (lo hi : Option AV) (k : AV → Bool) : Bool :=
  x.ckStr fun n c => bnd lo 0 fun l => bnd hi n fun h => ifB (Bool.and (Nat.ble l h) (Nat.ble h n))
    (forceN (Nat.sub h l) fun m => forceN (Nat.mod (Nat.div c (Nat.pow 256 l)) (Nat.pow 256 m)) fun d => k (.str m d))
def sliceArrK (n es : Nat) (x : AV) (lo hi : Option AV) (k : AV → Bool) : Bool :=
  x.ckPtr fun b o => bnd lo 0 fun l => bnd hi n fun h => ifB (Bool.and (Nat.ble l h) (Nat.ble h n))
    (Bool.rec (forceN (Nat.add o (Nat.mul l es)) fun q => forceN (Nat.sub h l) fun m => forceN (Nat.sub n l) fun c => k (.sl b q m (.known c))) (k (.sl b o 0 (.known 0))) (Nat.beq n l))
def sliceE (P : Program) (t : Nat) (x : AV) (lo hi : Option AV) (k : AV → Bool) : Bool :=
  match P.underlying t with
  | some .string => sliceStrK x lo hi k
  | some (.slice e) => iteS (P.cellsOf e = 0) false (sliceK (P.cellsOf e) x lo hi k)
  | some (.array n e) => iteS (P.cellsOf e = 0) false (sliceArrK n (P.cellsOf e) x lo hi k)
  | _ => false
theorem bnd_ok {x : Option AV} {d : Nat} {f : Nat → Bool} (h : bnd x d f = true) :
    ∃ n : Nat, f n = true ∧ (x = none → n = d) ∧ ∀ (θ : Theta) (v : Value) (a : AV), x = some a → VR θ a v → ∃ kd, v = .int kd n := by
  unfold bnd at h
  cases x with
  | none => exact ⟨d, h, fun _ => rfl, fun θ v a e => by cases e⟩
  | some a =>
    obtain ⟨kd, z, rfl, h⟩ := ckInt_iff.1 h
    obtain ⟨n, rfl, h⟩ := natOf_iff.1 h
    refine ⟨n, h, (fun e => by cases e), fun θ v a e hv => ?_⟩
    injection e with e
    subst e
    exact ⟨kd, hv.int⟩
theorem run_sliceBound_nat {P : Program} (kd : IntKind) (n y : Nat) (code : BoundsCode) (w : World) (h : n ≤ y) : (Instr.sliceBound (.int kd n) y code).run P w = .ok n w := by
  have h1 : (0 : Int) ≤ (n : Int) ∧ (n : Int) ≤ (y : Int) := by omega
  simp [Instr.sliceBound, asIntOf, h]
theorem run_sliceBounds_nat {P : Program} (isS : Bool) (len cap l h : Nat) (lo hi : Option Value) (w : World)
    (hl : (lo = none ∧ l = 0) ∨ ∃ kd, lo = some (.int kd l)) (hh : (hi = none ∧ h = len) ∨ ∃ kd, hi = some (.int kd h)) (h1 : l ≤ h) (h2 : h ≤ cap) :
    (Instr.sliceBounds isS len cap lo hi none).run P w = .ok (l, h, cap) w := by
  rcases hl with ⟨rfl, rfl⟩ | ⟨kd, rfl⟩ <;> rcases hh with ⟨rfl, rfl⟩ | ⟨kd', rfl⟩ <;> simp [Instr.sliceBounds, run_sliceBound_nat, h1, h2]
theorem opt_bnd {P : Program} {θ : Theta} {env : List AV} {ac : Act} {lo : Option Operand} {d n : Nat} (hO : ∀ x, lo = some x → VR θ (ev P env x) (ac.eval x))
    (h1 : lo.map (ev P env) = none → n = d) (h2 : ∀ (v : Value) (a : AV), lo.map (ev P env) = some a → VR θ a v → ∃ kd, v = .int kd n) :
    (lo.map ac.eval = none ∧ n = d) ∨ ∃ kd, lo.map ac.eval = some (.int kd n) := by
  cases lo with
  | none => exact .inl ⟨rfl, h1 rfl⟩
  | some x =>
    obtain ⟨kd, e⟩ := h2 (ac.eval x) (ev P env x) rfl (hO x rfl)
    exact .inr ⟨kd, by simp [e]⟩
theorem strOf_extract (n c l h : Nat) (h2 : h ≤ n) (h1 : l ≤ h) : (strOf n c).extract l h = strOf (h - l) (c / 256 ^ l % 256 ^ (h - l)) := by
  apply ByteArray.ext
  apply Array.ext'
  have e : ((strOf n c).extract l h).data.toList = ((bytesOf n c).take h).drop l := by
    rw [ByteArray.data_extract]
    simp [strOf, List.drop_take]
  rw [e]
  show _ = bytesOf (h - l) (c / 256 ^ l % 256 ^ (h - l))
  rw [bytesOf_mod]
  apply List.ext_getElem?
  intro i
  by_cases hi : i < h - l
  · rw [bytesOf_get _ _ _ hi, List.getElem?_drop, List.getElem?_take, if_pos (by omega), bytesOf_get _ _ _ (by omega), Nat.div_div_eq_div_mul, ← Nat.pow_add]
  · rw [List.getElem?_eq_none (by simp [bytesOf_length]; omega), List.getElem?_eq_none (by simp [bytesOf_length]; omega)]
theorem pure_slice {P : Program} {env : List AV} {o : Oper} {t : Nat} {x : Operand} {lo hi : Option Operand} {k : AV → Bool} (ho : o.op = .slice t x lo hi none)
    (h : sliceE P t (ev P env x) (lo.map (ev P env)) (hi.map (ev P env)) k = true) : ∃ v, k v = true ∧ PureSpec P env o v := by
  have hox : x ∈ o.op.operands := by simp [ho, Op.operands]
  have hol : ∀ y, lo = some y → y ∈ o.op.operands := fun y e => by simp [ho, Op.operands, e]
  have hoh : ∀ y, hi = some y → y ∈ o.op.operands := fun y e => by simp [ho, Op.operands, e]
  unfold sliceE at h
  simp only [iteS_eq] at h
  split at h
  · rename_i hu
    obtain ⟨n, c, hx, h⟩ := ckStr_iff.1 h
    obtain ⟨l, h, l1, l2⟩ := bnd_ok h
    obtain ⟨g, h, g1, g2⟩ := bnd_ok h
    obtain ⟨hb, h⟩ := ifB_iff.1 h
    simp only [forceN_eq] at h
    have hb : l ≤ g ∧ g ≤ n := by simpa using hb
    refine ⟨_, h, fun θ ac w hO => ⟨.string ((strOf n c).extract l g), ?_, .inr ?_⟩⟩
    · have vx := hO.at hox
      rw [hx] at vx
      have e1 := opt_bnd (fun y e => hO.at (hol y e)) l1 (l2 θ)
      have e2 := opt_bnd (fun y e => hO.at (hoh y e)) g1 (g2 θ)
      have e3 := run_sliceBounds_nat (P := P) false (strOf n c).size (strOf n c).size l g (lo.map ac.eval) (hi.map ac.eval) w e1 (by rw [strOf_size]; exact e2) hb.1 (by rw [strOf_size]; exact hb.2)
      simp [execOp, ho, vx.str, Instr.sliceAt, Instr.slice, run_underlying hu, e3]
    · simp only [Ev.conc]; congr 2; exact (strOf_extract n c l g hb.2 hb.1).symm
  · rename_i e hu
    split at h
    · cases h
    · rename_i hz
      obtain ⟨inf, hinf, _⟩ := info_of_cells hz
      rcases ckSl_iff.1 h with ⟨hx, h⟩ | ⟨b, q, len, cap, hx, h⟩ | ⟨_, _, _, _, _, h⟩
      · obtain ⟨l, h, l1, l2⟩ := bnd_ok h
        obtain ⟨g, h, g1, g2⟩ := bnd_ok h
        obtain ⟨hb, h⟩ := ifB_iff.1 h
        have hb : l = 0 ∧ g = 0 := by simpa using hb
        obtain ⟨rfl, rfl⟩ := hb
        refine ⟨_, h, fun θ ac w hO => ⟨.slice none 0 0, ?_, .inr rfl⟩⟩
        have vx := hO.at hox
        rw [hx] at vx
        have e1 := opt_bnd (fun y e => hO.at (hol y e)) l1 (l2 θ)
        have e2 := opt_bnd (fun y e => hO.at (hoh y e)) g1 (g2 θ)
        have e3 := run_sliceBounds_nat (P := P) true 0 0 0 0 (lo.map ac.eval) (hi.map ac.eval) w e1 e2 (Nat.le_refl _) (Nat.le_refl _)
        simp [execOp, ho, vx.nils, Instr.sliceAt, Instr.slice, run_underlying hu, e3, run_sizeOf w hinf]
      · obtain ⟨l, h, l1, l2⟩ := bnd_ok h
        obtain ⟨g, h, g1, g2⟩ := bnd_ok h
        obtain ⟨hlg, h⟩ := ifB_iff.1 h
        have hlg : l ≤ g := by simpa using hlg
        have run : ∀ (θ : Theta) (ac : Act) (w : World) (ad : Addr) (c : Nat), Opd P θ env o ac → ac.eval x = .slice (some ad) len c → g ≤ c →
            (execOp ac.eval o).run P w = .ok (.value (.slice (some (if c = l then ad else ad.add (l * P.cellsOf e))) (g - l) (c - l))) w := by
          intro θ ac w ad c hO vx hgc
          have e1 := opt_bnd (fun y e => hO.at (hol y e)) l1 (l2 θ)
          have e2 := opt_bnd (fun y e => hO.at (hoh y e)) g1 (g2 θ)
          have e3 := run_sliceBounds_nat (P := P) true len c l g (lo.map ac.eval) (hi.map ac.eval) w e1 e2 hlg hgc
          simp only [execOp, ho, vx, Instr.sliceAt, Instr.slice, Sem.run_bind, run_underlying hu, Result.andThen_ok, Option.map_none, e3, run_sizeOf w hinf, Sem.run_pure]
          congr 3
          split <;> simp
        cases cap with
        | known c =>
          obtain ⟨hgc, h⟩ := ifB_iff.1 h
          have hgc : g ≤ c := by simpa using hgc
          cases hcl : Nat.beq c l with
          | true =>
            have hcl' : c = l := by simpa using hcl
            simp only [hcl] at h
            refine ⟨_, h, fun θ ac w hO => ?_⟩
            have vx := hO.at hox
            rw [hx] at vx
            obtain ⟨lc, hlc, vx⟩ := vx.sl
            refine ⟨_, run θ ac w _ _ hO vx hgc, .inr ?_⟩
            have e0 : g - l = 0 := by omega
            have e1 : Cap.of (.known c) lc q - l = 0 := by show c - l = 0; omega
            have e2 : Cap.of (.known c) lc q = l := hcl'
            rw [if_pos e2, e0, e1, conc_slk hlc]
          | false =>
            have hcl' : c ≠ l := by intro e'; rw [e'] at hcl; simp at hcl
            simp only [hcl, forceN_eq] at h
            refine ⟨_, h, fun θ ac w hO => ?_⟩
            have vx := hO.at hox
            rw [hx] at vx
            obtain ⟨lc, hlc, vx⟩ := vx.sl
            refine ⟨_, run θ ac w _ _ hO vx hgc, .inr ?_⟩
            have e2 : Cap.of (.known c) lc q ≠ l := hcl'
            rw [if_neg e2, Loc.addr_add, conc_slk hlc]
            rfl
        | opn es =>
          obtain ⟨hc, h⟩ := ifB_iff.1 h
          have hc : es = P.cellsOf e ∧ g ≤ len := by simpa using hc
          obtain ⟨rfl, hgl⟩ := hc
          cases hll : Bool.or (Nat.beq l 0) (Nat.blt l len) with
          | false =>
            rw [hll] at h
            have h : k (.sle b q l (P.cellsOf e)) = true := h
            have hll : l ≠ 0 ∧ ¬ l < len := by
              simp only [Bool.or_eq_false_iff, blt_eq, decide_eq_false_iff_not] at hll
              exact ⟨fun e => by rw [e] at hll; simp at hll, hll.2⟩
            refine ⟨_, h, fun θ ac w hO => ?_⟩
            have vx := hO.at hox
            rw [hx] at vx
            obtain ⟨lc, hlc, vx, hok⟩ := vx.sl'
            have hok : len ≤ (lc.size - q) / P.cellsOf e := hok
            refine ⟨_, run θ ac w _ _ hO vx (by show g ≤ (lc.size - q) / P.cellsOf e; omega), .inr ?_⟩
            have e0 : g - l = 0 := by omega
            simp only [Ev.conc, hlc, Option.map_some]
            rw [e0]
            congr 1
            show _ = Value.slice (some (if (lc.size - q) / P.cellsOf e = l then lc.addr q else (lc.addr q).add (l * P.cellsOf e))) 0 ((lc.size - q) / P.cellsOf e - l)
            split
            · rename_i hcl; rw [hcl, Nat.sub_self]
            · rw [Loc.addr_add]
          | true =>
          rw [hll] at h
          have hll : l = 0 ∨ l < len := by simpa [blt_eq] using hll
          simp only [forceN_eq] at h
          refine ⟨_, h, fun θ ac w hO => ?_⟩
          have vx := hO.at hox
          rw [hx] at vx
          obtain ⟨lc, hlc, vx, hok⟩ := vx.sl'
          have hok : len ≤ (lc.size - q) / P.cellsOf e := hok
          have hpos : 0 < P.cellsOf e := by omega
          have hdiv : (lc.size - (q + l * P.cellsOf e)) / P.cellsOf e = (lc.size - q) / P.cellsOf e - l := by
            rw [← Nat.sub_sub, Nat.mul_comm, Nat.sub_mul_div]
          refine ⟨_, run θ ac w _ _ hO vx (by show g ≤ (lc.size - q) / P.cellsOf e; omega), .inr ?_⟩
          have hk : Cap.ok (.opn (P.cellsOf e)) lc (q + l * P.cellsOf e) (g - l) := by show g - l ≤ _; rw [hdiv]; omega
          have e4 : conc θ (.sl b (q.add (l.mul (P.cellsOf e))) (g.sub l) (.opn (P.cellsOf e))) = some (.slice (some (lc.addr (q + l * P.cellsOf e))) (g - l) ((lc.size - q) / P.cellsOf e - l)) := by
            rw [← hdiv]; exact conc_sl hlc hk
          rw [e4]
          congr 2
          split
          · rename_i hcl
            have hcl : (lc.size - q) / P.cellsOf e = l := hcl
            have : l = 0 := by omega
            subst this
            simp
          · rw [Loc.addr_add]
      · cases h
  · rename_i n e hu
    split at h
    · cases h
    · rename_i hz
      obtain ⟨inf, hinf, _⟩ := info_of_cells hz
      obtain ⟨b, q, hx, h⟩ := ckPtr_iff.1 h
      obtain ⟨l, h, l1, l2⟩ := bnd_ok h
      obtain ⟨g, h, g1, g2⟩ := bnd_ok h
      obtain ⟨hb, h⟩ := ifB_iff.1 h
      have hb : l ≤ g ∧ g ≤ n := by simpa using hb
      have run : ∀ (θ : Theta) (ac : Act) (w : World) (ad : Addr), Opd P θ env o ac → ac.eval x = .pointer (some ad) →
          (execOp ac.eval o).run P w = .ok (.value (.slice (some (if n = l then ad else ad.add (l * P.cellsOf e))) (g - l) (n - l))) w := by
        intro θ ac w ad hO vx
        have e1 := opt_bnd (fun y e => hO.at (hol y e)) l1 (l2 θ)
        have e2 := opt_bnd (fun y e => hO.at (hoh y e)) g1 (g2 θ)
        have e3 := run_sliceBounds_nat (P := P) false n n l g (lo.map ac.eval) (hi.map ac.eval) w e1 e2 hb.1 hb.2
        simp [execOp, ho, vx, Instr.sliceAt, Instr.sureAddr, run_underlying hu, e3, run_sizeOf w hinf]
      cases hcl : Nat.beq n l with
      | true =>
        have hcl' : n = l := by simpa using hcl
        simp only [hcl] at h
        refine ⟨_, h, fun θ ac w hO => ?_⟩
        have vx := hO.at hox
        rw [hx] at vx
        obtain ⟨lc, hlc, vx⟩ := vx.ptr
        refine ⟨_, run θ ac w _ hO vx, .inr ?_⟩
        have e0 : g - l = 0 := by omega
        have e1 : n - l = 0 := by omega
        rw [if_pos hcl', e0, e1, conc_slk hlc]
      | false =>
        have hcl' : n ≠ l := by intro e'; rw [e'] at hcl; simp at hcl
        simp only [hcl, forceN_eq] at h
        refine ⟨_, h, fun θ ac w hO => ?_⟩
        have vx := hO.at hox
        rw [hx] at vx
        obtain ⟨lc, hlc, vx⟩ := vx.ptr
        refine ⟨_, run θ ac w _ hO vx, .inr ?_⟩
        rw [if_neg hcl', Loc.addr_add, conc_slk hlc]
        rfl
  · cases h
end
end Ev
namespace Ev
open Go
open Go.RowKit
noncomputable section
def zeroA (P : Program) (t : Nat) : Option (List AV) :=
  match (P.info? t).bind (·.zero) with
  | some v => (match absV v with
    | .agg l => if l.length = P.cellsOf t then some l else none
    | .bad => none
    | .tup _ => none
    | a => if P.cellsOf t = 1 then some [a] else none)
  | none => none
def layK (off size : Nat) (agg : Bool) (v : AV) (cells : List AV) (k : List AV → Bool) : Bool :=
  match agg with
  | false => iteS (size = 1 ∧ off < cells.length) (v.ckOne (k (cells.set off v))) false
  | true => v.ckAgg fun l => ifB (Bool.and (Nat.beq l.length size) (Nat.ble (off + size) cells.length)) (k (cells.take off ++ l ++ cells.drop (off + size)))
def layAll (place : Nat → Option (Nat × Nat × Bool)) : List (Nat × AV) → List AV → (List AV → Bool) → Bool
  | [], cells, k => hi (k cells)
  | (i, v) :: rest, cells, k =>
    match place i with
    | none => false
    | some (off, size, agg) => layK off size agg v cells fun cells => layAll place rest cells k
def fieldPl (P : Program) (fields : Array Field) (i : Nat) : Option (Nat × Nat × Bool) :=
  match fields[i]? with
  | some f => (match isAggT P f.type with
    | some b => if P.cellsOf f.type = 0 then none else some (f.offset, P.cellsOf f.type, b)
    | none => none)
  | none => none
def elemPl (P : Program) (e : Nat) (i : Nat) : Option (Nat × Nat × Bool) :=
  match isAggT P e with
  | some b => if P.cellsOf e = 0 then none else some (i * P.cellsOf e, P.cellsOf e, b)
  | none => none
theorem one_cells {θ : Theta} {a : AV} {v : Value} (h : a.one = true) (hc : Ev.conc θ a = some v) : v.cells = #[v] ∧ v.oneCell' = true := by
  cases a <;> simp only [AV.one, Bool.false_eq_true] at h
  case bool b => simp [Ev.conc] at hc; subst hc; exact ⟨rfl, rfl⟩
  case int k n => simp [Ev.conc] at hc; subst hc; exact ⟨rfl, rfl⟩
  case str n c => simp [Ev.conc] at hc; subst hc; exact ⟨rfl, rfl⟩
  case nilp => simp [Ev.conc] at hc; subst hc; exact ⟨rfl, rfl⟩
  case nils => simp [Ev.conc] at hc; subst hc; exact ⟨rfl, rfl⟩
  case nilm => simp [Ev.conc] at hc; subst hc; exact ⟨rfl, rfl⟩
  case nilf => simp [Ev.conc] at hc; subst hc; exact ⟨rfl, rfl⟩
  case nili => simp [Ev.conc] at hc; subst hc; exact ⟨rfl, rfl⟩
  case ptr b o => obtain ⟨l, _, rfl⟩ := VR.ptr (.inr hc); exact ⟨rfl, rfl⟩
  case sl b o n c => obtain ⟨l, _, rfl⟩ := VR.sl (.inr hc); exact ⟨rfl, rfl⟩
  case sle b o lo es =>
    simp only [Ev.conc, Option.map_eq_some_iff] at hc
    obtain ⟨l, _, hc⟩ := hc
    rw [← hc]
    split <;> exact ⟨rfl, rfl⟩
  case map b => obtain ⟨l, _, rfl⟩ := VR.map (.inr hc); exact ⟨rfl, rfl⟩
  case fn f x y => obtain ⟨_, _, _, _, _, _, rfl⟩ := VR.fn (.inr hc); exact ⟨rfl, rfl⟩
  case iface t y =>
    simp only [Ev.conc, Option.map_eq_some_iff] at hc
    obtain ⟨_, _, rfl⟩ := hc
    exact ⟨rfl, rfl⟩
  case opq i =>
    simp only [Ev.conc, Option.bind_eq_some_iff] at hc
    obtain ⟨u, _, hc⟩ := hc
    split at hc
    · rename_i hok
      injection hc with hc
      subst hc
      have h1 : u.oneCell' = true := by
        unfold opqOk at hok
        rw [Bool.and_eq_true] at hok
        exact hok.1
      refine ⟨?_, h1⟩
      cases u <;> first | rfl | (simp [Value.oneCell'] at h1)
    · cases hc
  case sym t =>
    simp only [Ev.conc] at hc
    have h1 := t.conc_one hc
    refine ⟨?_, h1⟩
    cases v <;> first | rfl | (simp [Value.oneCell'] at h1)
theorem concs_set {θ : Theta} : ∀ {l : List AV} {vs : List Value} (i : Nat) {a : AV} {v : Value}, concs θ l = some vs → Ev.conc θ a = some v → concs θ (l.set i a) = some (vs.set i v)
  | [], vs, i, a, v, h, _ => by simp [concs] at h; subst h; simp [concs]
  | b :: l, vs, 0, a, v, h, ha => by
    obtain ⟨x, y, h1, h2, rfl⟩ := concs_cons.1 h
    exact concs_cons.2 ⟨v, y, ha, h2, rfl⟩
  | b :: l, vs, i + 1, a, v, h, ha => by
    obtain ⟨x, y, h1, h2, rfl⟩ := concs_cons.1 h
    exact concs_cons.2 ⟨x, y.set i v, h1, concs_set i h2 ha, rfl⟩
theorem fold_splice : ∀ (l : List Value) (off j : Nat) (cs : Array Value), off + j + l.length ≤ cs.size →
    (((l.zipIdx j).toArray.foldl (fun (cs : Array Value) (x : Value × Nat) => cs.setIfInBounds (off + x.2) x.1) cs)).toList = cs.toList.take (off + j) ++ l ++ cs.toList.drop (off + j + l.length)
  | [], off, j, cs, _ => by simp
  | v :: l, off, j, cs, h => by
    simp only [List.length_cons] at h
    have ih := fold_splice l off (j + 1) (cs.setIfInBounds (off + j) v) (by simp; omega)
    simp only [List.zipIdx_cons, List.foldl_toArray, List.foldl_cons] at ih ⊢
    rw [ih]
    simp only [Array.toList_setIfInBounds, List.length_cons]
    have hlt : off + j < cs.toList.length := by simp; omega
    rw [show off + (j + 1) = (off + j) + 1 from by omega, List.take_succ_eq_append_getElem (by simpa using hlt)]
    simp only [List.getElem_set_self, List.take_set_of_le (Nat.le_refl _), List.append_assoc, List.cons_append, List.nil_append]
    rw [List.drop_set_of_lt (by omega)]
    congr 3
    rw [show off + j + 1 + l.length = off + j + (l.length + 1) from by omega]
theorem concs_splice {θ : Theta} {cells l : List AV} {cs ls : List Value} (off : Nat) (h : concs θ cells = some cs) (h' : concs θ l = some ls) :
    concs θ (cells.take off ++ l ++ cells.drop (off + l.length)) = some (cs.take off ++ ls ++ cs.drop (off + ls.length)) := by
  rw [concs_length h']
  exact concs_append (concs_append (concs_take _ h) h') (concs_drop _ h)
theorem layAll_ok {P : Program} {pl : Nat → Option (Nat × Nat × Bool)} {rp : Nat → Option (Nat × Nat)} (hpl : ∀ i off size agg, pl i = some (off, size, agg) → rp i = some (off, size)) {env : List AV} {k : List AV → Bool} :
    ∀ {parts : List (Nat × Operand)} {cells : List AV}, layAll pl (parts.map fun p => (p.1, ev P env p.2)) cells k = true →
    ∃ out, k out = true ∧ out.length = cells.length ∧ ∀ (θ : Theta) (ac : Act) (cs : List Value), concs θ cells = some cs → (∀ p ∈ parts, VR θ (ev P env p.2) (ac.eval p.2)) →
      ∃ vs, concs θ out = some vs ∧ Instr.fill rp cs.toArray (parts.map fun p => (p.1, ac.eval p.2)) = some vs.toArray
  | [], cells, h => ⟨cells, h, rfl, fun θ ac cs hc _ => ⟨cs, hc, rfl⟩⟩
  | (i, x) :: parts, cells, h => by
    simp only [List.map_cons, layAll] at h
    split at h
    · cases h
    · rename_i off size agg hp
      have hr := hpl i off size agg hp
      unfold layK at h
      simp only [iteS_eq] at h
      split at h
      · split at h
        · rename_i hs
          obtain ⟨rfl, hlt⟩ := hs
          obtain ⟨h1, h⟩ := ckOne_iff.1 h
          obtain ⟨out, hk, hl, ho⟩ := layAll_ok hpl h
          refine ⟨out, hk, by simpa using hl, fun θ ac cs hc hv => ?_⟩
          have hx := (hv (i, x) (by simp)).conc (by intro e; simp only at e; rw [e] at h1; simp [AV.one] at h1)
          obtain ⟨hcells, _⟩ := one_cells h1 hx
          obtain ⟨vs, hvs, hf⟩ := ho θ ac (cs.set off (ac.eval x)) (concs_set off hc hx) (fun p hp => hv p (by simp [hp]))
          refine ⟨vs, hvs, ?_⟩
          have hlen := concs_length hc
          simp only [List.map_cons, Instr.fill, hr, hcells]
          rw [if_neg (by simp; omega)]
          rw [← hf]
          congr 1
          simp
        · cases h
      · obtain ⟨l, hx, h⟩ := ckAgg_iff.1 h
        obtain ⟨hb, h⟩ := ifB_iff.1 h
        have hb : l.length = size ∧ off + size ≤ cells.length := by simpa using hb
        obtain ⟨rfl, hle⟩ := hb
        obtain ⟨out, hk, hl, ho⟩ := layAll_ok hpl h
        refine ⟨out, hk, by rw [hl]; simp; omega, fun θ ac cs hc hv => ?_⟩
        have hv0 := hv (i, x) (by simp)
        simp only [hx] at hv0
        obtain ⟨ls, hls, hv0⟩ := hv0.agg
        have hlen := concs_length hc
        have hlen' := concs_length hls
        obtain ⟨vs, hvs, hf⟩ := ho θ ac _ (concs_splice off hc hls) (fun p hp => hv p (by simp [hp]))
        refine ⟨vs, hvs, ?_⟩
        have hcells : (ac.eval x).cells = ls.toArray := by rw [hv0]; rfl
        simp only [List.map_cons, Instr.fill, hr, hcells]
        rw [if_neg (by simp; omega)]
        rw [← hf]
        congr 1
        apply Array.ext'
        have := fold_splice ls off 0 cs.toArray (by simp; omega)
        simp only [Nat.add_zero] at this
        simpa using this
theorem run_zeroValue_of {P : Program} {t : TypeId} {v : Value} (h : (P.info? t).bind (·.zero) = some v) (w : World) : (zeroValue t).run P w = .ok v w := by
  cases hi : P.info? t with
  | none => simp [hi] at h
  | some i =>
    simp only [hi, Option.bind_some] at h
    simp [zeroValue, typeInfo, hi, h]
theorem absS_one (v : Value) : absS v = .bad ∨ (absS v).one = true := by
  cases v with
  | pointer a => cases a <;> simp [absS, AV.one]
  | slice a n c =>
    cases a with
    | none => cases n with
      | zero => cases c <;> simp [absS, AV.one]
      | succ n => exact .inl rfl
    | some a => exact .inl rfl
  | map r => cases r <;> simp [absS, AV.one]
  | func f a b => simp only [absS]; split <;> simp [AV.one]
  | _ => simp [absS, AV.one]
theorem absV_cases (v : Value) : absV v = .bad ∨ (∃ l, absV v = .agg l) ∨ (∃ l, absV v = .tup l) ∨ (absV v).one = true := by
  cases v with
  | agg cs => simp only [absV]; split <;> simp
  | tuple cs => simp only [absV]; split <;> simp
  | iface t v => simp only [absV]; split <;> simp [AV.one]
  | bool b => exact (absS_one (.bool b)).imp id fun h => .inr (.inr h)
  | int k n => exact (absS_one (.int k n)).imp id fun h => .inr (.inr h)
  | float k b => exact (absS_one (.float k b)).imp id fun h => .inr (.inr h)
  | complex k a b => exact (absS_one (.complex k a b)).imp id fun h => .inr (.inr h)
  | string s => exact (absS_one (.string s)).imp id fun h => .inr (.inr h)
  | pointer a => exact (absS_one (.pointer a)).imp id fun h => .inr (.inr h)
  | slice a n c => exact (absS_one (.slice a n c)).imp id fun h => .inr (.inr h)
  | map r => exact (absS_one (.map r)).imp id fun h => .inr (.inr h)
  | chan r => exact (absS_one (.chan r)).imp id fun h => .inr (.inr h)
  | func f x y => exact (absS_one (.func f x y)).imp id fun h => .inr (.inr h)
  | nilFunc => exact (absS_one .nilFunc).imp id fun h => .inr (.inr h)
  | nilIface => exact (absS_one .nilIface).imp id fun h => .inr (.inr h)
theorem zeroA_ok {P : Program} {t : Nat} {l : List AV} (h : zeroA P t = some l) : l.length = P.cellsOf t ∧ ∃ zv : Value, (∀ w, (zeroValue t).run P w = .ok zv w) ∧ ∀ (θ : Theta), ∃ vs, concs θ l = some vs ∧ zv.cells = vs.toArray := by
  unfold zeroA at h
  split at h
  · rename_i v hz
    have hrun := run_zeroValue_of hz
    have hok := fun θ => absV_ok θ v
    rcases absV_cases v with hb | ⟨l', hl⟩ | ⟨l', hl⟩ | h1
    · rw [hb] at h; cases h
    · rw [hl] at h
      simp only at h
      split at h
      · rename_i hlen
        injection h with h
        subst h
        refine ⟨hlen, v, hrun, fun θ => ?_⟩
        have := hok θ
        rw [hl] at this
        obtain ⟨vs, hvs, rfl⟩ := this.agg
        exact ⟨vs, hvs, rfl⟩
      · cases h
    · rw [hl] at h; cases h
    · have hd : (if P.cellsOf t = 1 then some [absV v] else none) = some l := by
        revert h h1
        cases absV v <;> simp [AV.one]
      split at hd
      · rename_i hc
        injection hd with hd
        subst hd
        refine ⟨by simp [hc], v, hrun, fun θ => ?_⟩
        have hv := (hok θ).conc (by intro e; rw [e] at h1; simp [AV.one] at h1)
        exact ⟨[v], concs_cons.2 ⟨v, [], hv, rfl, rfl⟩, (one_cells h1 hv).1⟩
      · cases hd
  · cases h
def buildE2 (P : Program) (t : Nat) (ps : List (Nat × AV)) (k : AV → Bool) : Bool :=
  match P.underlying t, zeroA P t with
  | some (.struct fields), some z => layAll (fieldPl P fields) ps z fun l => k (.agg l)
  | some (.array _ e), some z => layAll (elemPl P e) ps z fun l => k (.agg l)
  | _, _ => false
def buildE (P : Program) (env : List AV) (t : Nat) (parts : Array (Nat × Operand)) (k : AV → Bool) : Bool :=
  match P.underlying t, zeroA P t with
  | some (.struct fields), some z => layAll (fieldPl P fields) (parts.toList.map fun p => (p.1, ev P env p.2)) z fun l => k (.agg l)
  | some (.array _ e), some z => layAll (elemPl P e) (parts.toList.map fun p => (p.1, ev P env p.2)) z fun l => k (.agg l)
  | _, _ => false
theorem run_mapM_places {P : Program} (fields : Array Field) (w : World) (h : ∀ f ∈ fields, ∃ i, P.info? f.type = some i) :
    (fields.mapM fun f => do pure (f.offset, ← sizeOf f.type) : Sem (Array (Nat × Nat))).run P w = .ok (fields.map fun f => (f.offset, P.cellsOf f.type)) w := by
  obtain ⟨l⟩ := fields
  have key : ∀ l : List Field, (∀ f ∈ l, ∃ i, P.info? f.type = some i) → (l.mapM fun f => do pure (f.offset, ← sizeOf f.type) : Sem (List (Nat × Nat))).run P w = .ok (l.map fun f => (f.offset, P.cellsOf f.type)) w := by
    intro l
    induction l with
    | nil => intro _; simp
    | cons f l ih =>
      intro h
      obtain ⟨i, hi⟩ := h f (by simp)
      have ih := ih fun g hg => h g (by simp [hg])
      simp only [List.mapM_cons, Sem.run_bind, run_sizeOf w hi, Result.andThen_ok, Sem.run_pure, ih, List.map_cons]
  have := key l (fun f hf => h f (by simpa using hf))
  rw [Array.mapM_eq_mapM_toList, Sem.run_map, this]
  simp
theorem fieldPl_ok {P : Program} {fields : Array Field} {i off size : Nat} {agg : Bool} (h : fieldPl P fields i = some (off, size, agg)) :
    (fields.map fun f => (f.offset, P.cellsOf f.type))[i]? = some (off, size) := by
  unfold fieldPl at h
  split at h
  · rename_i f hf
    split at h
    · split at h
      · cases h
      · injection h with h
        injection h with h1 h2
        injection h2 with h2 h3
        simp [hf, h1, h2]
    · cases h
  · cases h
theorem elemPl_ok {P : Program} {e i off size : Nat} {agg : Bool} (h : elemPl P e i = some (off, size, agg)) : some (i * P.cellsOf e, P.cellsOf e) = some (off, size) ∧ P.cellsOf e ≠ 0 := by
  unfold elemPl at h
  split at h
  · split at h
    · cases h
    · rename_i hz
      injection h with h
      injection h with h1 h2
      injection h2 with h2 h3
      exact ⟨by rw [h1, h2], hz⟩
  · cases h
def infosOK (P : Program) (fields : Array Field) : Bool := fields.all fun f => (P.info? f.type).isSome
theorem pure_build {P : Program} {env : List AV} {o : Oper} {t : Nat} {parts : Array (Nat × Operand)} {k : AV → Bool} (ho : o.op = .build t parts)
    (h : buildE P env t parts k = true) (hi : ∀ fields, P.underlying t = some (.struct fields) → infosOK P fields = true) (he : ∀ n e, P.underlying t = some (.array n e) → P.cellsOf e ≠ 0) :
    ∃ v, k v = true ∧ PureSpec P env o v := by
  have hop : ∀ p ∈ parts.toList, p.2 ∈ o.op.operands := fun p hp => by
    simp only [ho, Op.operands, List.mem_toArray, List.mem_map]
    exact ⟨p, hp, rfl⟩
  unfold buildE at h
  split at h
  · rename_i fields z hu hz
    obtain ⟨out, hk, hl, hq⟩ := layAll_ok (rp := fun i => (fields.map fun f => (f.offset, P.cellsOf f.type))[i]?) (fun i off size agg e => fieldPl_ok e) h
    refine ⟨_, hk, fun θ ac w hO => ?_⟩
    obtain ⟨_, zv, hzr, hzc⟩ := zeroA_ok hz
    obtain ⟨zs, hzs, hcells⟩ := hzc θ
    obtain ⟨vs, hvs, hfill⟩ := hq θ ac zs hzs (fun p hp => hO.at (hop p hp))
    refine ⟨.agg vs.toArray, ?_, .inr (by simp [Ev.conc, hvs])⟩
    have hinf := hi fields hu
    have hm := run_mapM_places (P := P) fields w (fun f hf => by
      have := (Array.all_eq_true_iff_forall_mem.1 hinf) f hf
      cases hx : P.info? f.type with
      | none => simp [hx] at this
      | some i => exact ⟨i, rfl⟩)
    have hpl : (parts.map fun (p : Nat × Operand) => (p.1, ac.eval p.2)).toList = parts.toList.map fun p => (p.1, ac.eval p.2) := by simp
    simp only [execOp, ho, Instr.build, Sem.run_bind, hzr, Result.andThen_ok, run_underlying hu, hm, hcells, hpl, hfill, Sem.run_pure]
  · rename_i n e z hu hz
    have hne := he n e hu
    obtain ⟨inf, hinf, _⟩ := info_of_cells hne
    obtain ⟨out, hk, hl, hq⟩ := layAll_ok (rp := fun i => some (i * P.cellsOf e, P.cellsOf e)) (fun i off size agg e => (elemPl_ok e).1) h
    refine ⟨_, hk, fun θ ac w hO => ?_⟩
    obtain ⟨_, zv, hzr, hzc⟩ := zeroA_ok hz
    obtain ⟨zs, hzs, hcells⟩ := hzc θ
    obtain ⟨vs, hvs, hfill⟩ := hq θ ac zs hzs (fun p hp => hO.at (hop p hp))
    refine ⟨.agg vs.toArray, ?_, .inr (by simp [Ev.conc, hvs])⟩
    have hpl : (parts.map fun (p : Nat × Operand) => (p.1, ac.eval p.2)).toList = parts.toList.map fun p => (p.1, ac.eval p.2) := by simp
    simp only [execOp, ho, Instr.build, Sem.run_bind, hzr, Result.andThen_ok, run_underlying hu, run_sizeOf w hinf, hcells, hpl, hfill, Sem.run_pure]
  · cases h
def AV.ckLn (a : AV) (n : Bool) (f : Nat → Bool) : Bool :=
  AV.rec (motive_1 := fun _ => Bool) (motive_2 := fun _ => Bool) false (fun _ => false) (fun _ _ => false) (fun _ _ => false) false (fun _ _ => false) n (fun _ _ len _ => f len) (fun _ _ _ _ => n) false (fun _ => false) (fun _ _ _ _ _ => false) false (fun _ _ _ => false) false (fun _ _ => false) (fun _ _ => false) (fun i => ifB (Nat.ble 1048576 i) (f (Nat.sub (Nat.div i 1048576) 1))) (fun _ => false) false (fun _ _ _ _ => false) a
theorem ckLn_iff {a : AV} {n : Bool} {f : Nat → Bool} (h : a.ckLn n f = true) : (a = .nils ∧ n = true) ∨ (∃ b o len cap, a = .sl b o len cap ∧ f len = true) ∨ (∃ b o lo es, a = .sle b o lo es ∧ n = true) ∨ ∃ i, a = .opq i ∧ 1048576 ≤ i ∧ f (i / 1048576 - 1) = true := by
  cases a
  case nils => exact .inl ⟨rfl, h⟩
  case sl b o len cap => exact .inr (.inl ⟨b, o, len, cap, rfl, h⟩)
  case sle b o lo es => exact .inr (.inr (.inl ⟨b, o, lo, es, rfl, h⟩))
  case opq i =>
    have h : ifB (Nat.ble 1048576 i) (f (Nat.sub (Nat.div i 1048576) 1)) = true := h
    obtain ⟨h1, h2⟩ := ifB_iff.1 h
    exact .inr (.inr (.inr ⟨i, rfl, Nat.le_of_ble_eq_true h1, h2⟩))
  all_goals exact (Bool.false_ne_true h).elim
def AV.ckLS (a : AV) (n : Bool) (f : Nat → Bool) (g : SymT → Bool) : Bool :=
  AV.rec (motive_1 := fun _ => Bool) (motive_2 := fun _ => Bool) false (fun _ => false) (fun _ _ => false) (fun _ _ => false) false (fun _ _ => false) n (fun _ _ len _ => f len) (fun _ _ _ _ => n) false (fun _ => false) (fun _ _ _ _ _ => false) false (fun _ _ _ => false) false (fun _ _ => false) (fun _ _ => false) (fun i => ifB (Nat.ble 1048576 i) (f (Nat.sub (Nat.div i 1048576) 1))) g false (fun _ _ _ _ => false) a
theorem ckLS_iff {a : AV} {n : Bool} {f : Nat → Bool} {g : SymT → Bool} (h : a.ckLS n f g = true) : (∃ t, a = .sym t ∧ g t = true) ∨ a.ckLn n f = true := by
  cases a <;> first | exact .inr h | exact .inl ⟨_, rfl, h⟩
def lenSlK (x : AV) (k : AV → Bool) : Bool := x.ckLS (k (.int .i64 0)) (fun len => k (.int .i64 (.ofNat len))) fun t => t.ckS fun _ s lo hi n _ => k (.sym (.int s lo hi (.ofNat n)))
def lenE (P : Program) (t : Nat) (x : AV) (k : AV → Bool) : Bool :=
  match P.underlying t with
  | some .string => x.ckStr fun n _ => k (.int .i64 (.ofNat n))
  | some (.slice _) => lenSlK x k
  | some (.array n _) => k (.int .i64 (.ofNat n))
  | _ => false
theorem pure_len {P : Program} {env : List AV} {o : Oper} {c : Call} {t : Nat} {x : Operand} {k : AV → Bool} (ho : o.op = .call c) (hc : c.callee = .builtin .len) (ha : c.args = #[x]) (ht : c.argTypes[0]? = some t)
    (h : lenE P t (ev P env x) k = true) : ∃ v, k v = true ∧ PureSpec P env o v := by
  have hox : x ∈ o.op.operands := by simp [ho, Op.operands, Call.operands, hc, ha]
  have run : ∀ (ac : Act) (w : World) (v : Value), (Builtin.len_ c.argTypes o.type #[ac.eval x]).run P w = .ok v w → (execOp ac.eval o).run P w = .ok (.value v) w := by
    intro ac w v hr
    simp [execOp, ho, resolve, hc, ha, invoke, builtin, hr]
  unfold lenE at h
  split at h
  · rename_i hu
    obtain ⟨n, d, hx, h⟩ := ckStr_iff.1 h
    refine ⟨_, h, fun θ ac w hO => ⟨.int .i64 n, run ac w _ ?_, .inr rfl⟩⟩
    have vx := hO.at hox
    rw [hx] at vx
    simp [Builtin.len_, ht, vx.str, run_underlying hu, strOf_size, goInt]
  · rename_i e hu
    rcases ckLS_iff h with ⟨t', hx, h0⟩ | h
    · clear h
      obtain ⟨b, s, lo, hi, n, es, et, h1⟩ := SymT.ckS_iff h0
      clear h0
      subst et
      refine ⟨_, h1, fun θ ac w hO => ?_⟩
      have vx := hO.at hox
      rw [hx] at vx
      obtain ⟨z, l, hz, hl, _, _, _, vx⟩ := vx.symS
      refine ⟨.int .i64 (z + n : Nat), run ac w _ ?_, .inr (by simp [Ev.conc, SymT.conc, hz])⟩
      simp [Builtin.len_, ht, vx, run_underlying hu, goInt]
    rcases ckLn_iff h with ⟨hx, h⟩ | ⟨b, q, len, cap, hx, h⟩ | ⟨b, q, lo, es, hx, h⟩ | ⟨i, hx, hi, h⟩
    · refine ⟨_, h, fun θ ac w hO => ⟨.int .i64 0, run ac w _ ?_, .inr rfl⟩⟩
      have vx := hO.at hox
      rw [hx] at vx
      simp [Builtin.len_, ht, vx.nils, run_underlying hu, goInt]
    · refine ⟨_, h, fun θ ac w hO => ⟨.int .i64 len, run ac w _ ?_, .inr rfl⟩⟩
      have vx := hO.at hox
      rw [hx] at vx
      obtain ⟨l, _, vx⟩ := vx.sl
      simp [Builtin.len_, ht, vx, run_underlying hu, goInt]
    · refine ⟨_, h, fun θ ac w hO => ⟨.int .i64 0, run ac w _ ?_, .inr rfl⟩⟩
      have vx := hO.at hox
      rw [hx] at vx
      have hcc := vx.conc (by simp)
      simp only [Ev.conc, Option.map_eq_some_iff] at hcc
      obtain ⟨l, _, hcc⟩ := hcc
      have : ∃ ad cp, ac.eval x = .slice (some ad) 0 cp := by rw [← hcc]; split <;> exact ⟨_, _, rfl⟩
      obtain ⟨ad, cp, e⟩ := this
      simp [Builtin.len_, ht, e, run_underlying hu, goInt]
    · refine ⟨_, h, fun θ ac w hO => ⟨.int .i64 (i / 1048576 - 1 : Nat), run ac w _ ?_, .inr rfl⟩⟩
      have vx := hO.at hox
      rw [hx] at vx
      have hcc := vx.conc (by simp)
      simp only [Ev.conc, Option.bind_eq_some_iff] at hcc
      obtain ⟨u, _, hcc⟩ := hcc
      split at hcc
      · rename_i hok
        injection hcc with hcc
        subst hcc
        unfold opqOk at hok
        have hlt : Nat.blt i 1048576 = false := by
          cases hb : Nat.blt i 1048576 with
          | false => rfl
          | true => rw [Nat.blt_eq] at hb; omega
        rw [hlt, Bool.false_or, Bool.and_eq_true] at hok
        have h2 := hok.2
        split at h2
        · rename_i ad len cp e
          have hl : len = i / 1048576 - 1 := Nat.eq_of_beq_eq_true h2
          simp [Builtin.len_, ht, e, run_underlying hu, goInt, hl]
        · cases h2
      · cases hcc
  · rename_i n e hu
    refine ⟨_, h, fun θ ac w hO => ⟨.int .i64 n, run ac w _ ?_, .inr rfl⟩⟩
    simp [Builtin.len_, ht, run_underlying hu, goInt]
  · cases h
def minE (mx : Bool) (x y : AV) (k : AV → Bool) : Bool := x.ckInts y fun kd a b => Bool.rec (Bool.rec (k (.int kd a)) (k (.int kd b)) (ltZ b a)) (Bool.rec (k (.int kd a)) (k (.int kd b)) (ltZ a b)) mx
theorem pure_min {P : Program} {env : List AV} {o : Oper} {c : Call} {mx : Bool} {x y : Operand} {k : AV → Bool} (ho : o.op = .call c) (hc : c.callee = .builtin (if mx then .max else .min)) (ha : c.args = #[x, y])
    (h : minE mx (ev P env x) (ev P env y) k = true) : ∃ v, k v = true ∧ PureSpec P env o v := by
  have hox : x ∈ o.op.operands := by cases mx <;> simp [ho, Op.operands, Call.operands, hc, ha]
  have hoy : y ∈ o.op.operands := by cases mx <;> simp [ho, Op.operands, Call.operands, hc, ha]
  obtain ⟨kd, a, b, hx, hy, h⟩ := ckInts_iff h
  cases mx with
  | false =>
    simp only [ltZ_eq] at h
    by_cases hlt : b < a
    · simp only [decide_eq_true hlt] at h
      refine ⟨_, h, fun θ ac w hO => ⟨.int kd b, ?_, .inr rfl⟩⟩
      have vx := hO.at hox; have vy := hO.at hoy
      rw [hx] at vx; rw [hy] at vy
      simp [execOp, ho, resolve, hc, ha, invoke, builtin, Builtin.min_, Builtin.min2, vx.int, vy.int, hlt]
    · simp only [decide_eq_false hlt] at h
      refine ⟨_, h, fun θ ac w hO => ⟨.int kd a, ?_, .inr rfl⟩⟩
      have vx := hO.at hox; have vy := hO.at hoy
      rw [hx] at vx; rw [hy] at vy
      simp [execOp, ho, resolve, hc, ha, invoke, builtin, Builtin.min_, Builtin.min2, vx.int, vy.int, hlt]
  | true =>
    simp only [ltZ_eq] at h
    by_cases hlt : a < b
    · simp only [decide_eq_true hlt] at h
      refine ⟨_, h, fun θ ac w hO => ⟨.int kd b, ?_, .inr rfl⟩⟩
      have vx := hO.at hox; have vy := hO.at hoy
      rw [hx] at vx; rw [hy] at vy
      simp [execOp, ho, resolve, hc, ha, invoke, builtin, Builtin.max_, Builtin.max2, vx.int, vy.int, hlt]
    · simp only [decide_eq_false hlt] at h
      refine ⟨_, h, fun θ ac w hO => ⟨.int kd a, ?_, .inr rfl⟩⟩
      have vx := hO.at hox; have vy := hO.at hoy
      rw [hx] at vx; rw [hy] at vy
      simp [execOp, ho, resolve, hc, ha, invoke, builtin, Builtin.max_, Builtin.max2, vx.int, vy.int, hlt]
end
end Ev
