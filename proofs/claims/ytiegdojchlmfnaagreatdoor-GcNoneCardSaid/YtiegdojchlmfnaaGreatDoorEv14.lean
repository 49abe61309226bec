/- A part of the proof that GcNone returns true: text Ev14. -/
import Derived.Test.YtiegdojchlmfnaaGreatDoorEv13
namespace Ev
open Go
open Go.RowKit
noncomputable section

/-! ### Maps: looking for a key -/

theorem strOf_beq (n c m d : Nat) : eqStr n c m d = (strOf n c == strOf m d) := by
  rw [eqStr_eq, ByteArray.toList_eq, ByteArray.toList_eq]
  show (bytesOf n c == bytesOf m d) = ((bytesOf n c).toArray == (bytesOf m d).toArray)
  rw [Bool.eq_iff_iff, beq_iff_eq, beq_iff_eq]
  constructor
  · intro h; rw [h]
  · intro h; simpa using h

def keyEq (a b : AV) (yes no : Bool) : Bool :=
  AV.casesOn (motive_1 := fun _ => Bool) a false (fun _ => false)
    (fun k x => b.ckInt fun k' y => Bool.rec false (Bool.rec no yes (eqZ x y)) (kdEq k k'))
    (fun n c => b.ckStr fun m d => Bool.rec no yes (eqStr n c m d))
    false (fun _ _ => false) false (fun _ _ _ _ => false) (fun _ _ _ _ => false) false (fun _ => false) (fun _ _ _ => false) false (fun _ _ => false) false (fun _ => false) (fun _ => false) (fun _ => false)

/-- A key of a kind that is compared on the spot. -/
def keyOk (d : TypeDesc) (a : AV) (y : Bool) : Bool :=
  match d with
  | .int _ => a.ckInt fun _ _ => y
  | .string => a.ckStr fun _ _ => y
  | _ => false

def KeyOk (d : TypeDesc) (a : AV) : Prop := ((∃ k, d = .int k) ∧ ∃ k n, a = .int k n) ∨ (d = .string ∧ ∃ n c, a = .str n c)

theorem keyOk_iff {d : TypeDesc} {a : AV} {y : Bool} (h : keyOk d a y = true) : KeyOk d a ∧ y = true := by
  cases d <;> simp only [keyOk, Bool.false_eq_true] at h
  case int k => obtain ⟨k', n, rfl, hy⟩ := ckInt_iff.1 h; exact ⟨.inl ⟨⟨k, rfl⟩, k', n, rfl⟩, hy⟩
  case string => obtain ⟨n, c, rfl, hy⟩ := ckStr_iff.1 h; exact ⟨.inr ⟨rfl, n, c, rfl⟩, hy⟩

theorem keyEq_ok {d : TypeDesc} {a b : AV} {yes no : Bool} (hd : KeyOk d a) (h : keyEq a b yes no = true) :
    (yes = true ∧ ∀ θ va vb, Ev.conc θ a = some va → Ev.conc θ b = some vb → Instr.sameNow d va vb = some true ∧ vb = va) ∨
    (no = true ∧ ∀ θ va vb, Ev.conc θ a = some va → Ev.conc θ b = some vb → Instr.sameNow d va vb = some false) := by
  rcases hd with ⟨⟨k0, rfl⟩, k, x, rfl⟩ | ⟨rfl, n, c, rfl⟩
  · have h2 : (b.ckInt fun k' y => Bool.rec (motive := fun _ => Bool) false (Bool.rec (motive := fun _ => Bool) no yes (eqZ x y)) (kdEq k k')) = true := h
    clear h
    obtain ⟨k', y, rfl, h⟩ := ckInt_iff.1 h2
    clear h2
    cases hk : kdEq k k' with
    | false => simp [hk] at h
    | true =>
      obtain rfl := kdEq_iff hk
      simp only [hk, eqZ_eq] at h
      cases hxy : (x == y) with
      | true =>
        simp only [hxy] at h
        have e : x = y := by simpa using hxy
        subst e
        refine .inl ⟨h, fun θ va vb ha hb => ?_⟩
        simp only [Ev.conc, Option.some.injEq] at ha hb
        subst ha; subst hb
        simp [Instr.sameNow]
      | false =>
        simp only [hxy] at h
        refine .inr ⟨h, fun θ va vb ha hb => ?_⟩
        simp only [Ev.conc, Option.some.injEq] at ha hb
        subst ha; subst hb
        simp [Instr.sameNow, hxy]
  · have h2 : (b.ckStr fun m d => Bool.rec (motive := fun _ => Bool) no yes (eqStr n c m d)) = true := h
    clear h
    obtain ⟨m, e, rfl, h⟩ := ckStr_iff.1 h2
    clear h2
    rw [strOf_beq] at h
    cases hs : (strOf n c == strOf m e) with
    | true =>
      simp only [hs] at h
      refine .inl ⟨h, fun θ va vb ha hb => ?_⟩
      simp only [Ev.conc, Option.some.injEq] at ha hb
      subst ha; subst hb
      refine ⟨by simp [Instr.sameNow, hs], ?_⟩
      have hs' : (bytesOf n c).toArray = (bytesOf m e).toArray := by
        have : ((bytesOf n c).toArray == (bytesOf m e).toArray) = true := hs
        exact beq_iff_eq.1 this
      simp only [strOf, hs']
    | false =>
      simp only [hs] at h
      refine .inr ⟨h, fun θ va vb ha hb => ?_⟩
      simp only [Ev.conc, Option.some.injEq] at ha hb
      subst ha; subst hb
      simp [Instr.sameNow, hs]

def Ents.find (es : Ents) (key : AV) (no : Bool) (yes : AV → Bool) : Bool :=
  Ents.rec (motive := fun _ => Bool) no (fun k v _ _ ih => keyEq key k (yes v) ih) es

theorem Ents.find_ok {d : TypeDesc} {key : AV} (hd : KeyOk d key) {no : Bool} {yes : AV → Bool} : ∀ {es : Ents}, es.find key no yes = true →
    (no = true ∧ ∀ θ kv l i, Ev.conc θ key = some kv → EntsRel θ es l → Instr.findNow d kv l i = some none) ∨
    (∃ v, yes v = true ∧ ∀ θ kv l i, Ev.conc θ key = some kv → EntsRel θ es l → ∃ j v', Instr.findNow d kv l i = some (some (j, v')) ∧ Ev.conc θ v = some v')
  | .nil, h => .inl ⟨h, fun θ kv l i _ hl => by cases hl; rfl⟩
  | .cons k v b es, h => by
    have h : keyEq key k (yes v) (es.find key no yes) = true := h
    rcases keyEq_ok hd h with ⟨hy, hq⟩ | ⟨hn, hq⟩
    · refine .inr ⟨v, hy, fun θ kv l i hk hl => ?_⟩
      cases hl with
      | cons hk' hv hl =>
        have := (hq θ _ _ hk hk').1
        exact ⟨i, _, by simp [Instr.findNow, this], hv⟩
    · rcases Ents.find_ok hd hn with ⟨hno, hr⟩ | ⟨u, hu, hr⟩
      · refine .inl ⟨hno, fun θ kv l i hk hl => ?_⟩
        cases hl with
        | cons hk' hv hl =>
          have := hq θ _ _ hk hk'
          simp [Instr.findNow, this, hr θ kv _ (i + 1) hk hl]
      · refine .inr ⟨u, hu, fun θ kv l i hk hl => ?_⟩
        cases hl with
        | cons hk' hv hl =>
          have := hq θ _ _ hk hk'
          obtain ⟨j, v', hj, hc⟩ := hr θ kv _ (i + 1) hk hl
          exact ⟨j, v', by simp [Instr.findNow, this, hj], hc⟩

theorem run_checkKey {P : Program} {kt : Nat} {d : TypeDesc} {key : AV} (hu : P.underlying kt = some d) (hd : KeyOk d key) {θ : Theta} {kv : Value} (hk : Ev.conc θ key = some kv) (b : Bool) (w : World) :
    (Instr.checkKey b 10000 kt kv).run P w = .ok () w := by
  rcases hd with ⟨⟨k0, rfl⟩, k, x, rfl⟩ | ⟨rfl, n, c, rfl⟩
  · simp only [Ev.conc, Option.some.injEq] at hk
    subst hk
    rw [show (10000 : Nat) = 9999 + 1 from rfl, Instr.checkKey]
    simp only [Sem.run_bind, run_underlying hu, Result.andThen_ok, Sem.run_pure]
  · simp only [Ev.conc, Option.some.injEq] at hk
    subst hk
    rw [show (10000 : Nat) = 9999 + 1 from rfl, Instr.checkKey]
    simp only [Sem.run_bind, run_underlying hu, Result.andThen_ok, Sem.run_pure]

theorem run_findKey {P : Program} {kt : Nat} {d : TypeDesc} (hu : P.underlying kt = some d) {kv : Value} {l : List MapEntry} {r : Option (Nat × Value)} (h : Instr.findNow d kv l 0 = some r) (w : World) :
    (Instr.findKey kt kv l).run P w = .ok r w := by
  simp [Instr.findKey, run_underlying hu, h]

theorem run_getObj_of {P : Program} {w : World} {r : Nat} {o : Obj} (h : w.heap[r]? = some o) (ho : ∀ c e f, o ≠ .cells c e f) : (getObj r).run P w = .ok o w := by
  cases o <;> simp_all [getObj, Sem.run]

/-- The zero value of a type, as a value. -/
def zeroV (P : Program) (t : Nat) (k : AV → Bool) : Bool :=
  match (P.info? t).bind (·.zero) with
  | some v => (absV v).ckOk (k (absV v))
  | none => false

theorem zeroV_ok {P : Program} {t : Nat} {k : AV → Bool} (h : zeroV P t k = true) : ∃ v v', k v = true ∧ v ≠ .bad ∧ (∀ w, (zeroValue t).run P w = .ok v' w) ∧ ∀ θ, Ev.conc θ v = some v' := by
  unfold zeroV at h
  split at h
  · rename_i v hz
    obtain ⟨hb, hk⟩ := ckOk_iff.1 h
    exact ⟨_, v, hk, hb, run_zeroValue_of hz, fun θ => (absV_ok θ v).conc hb⟩
  · cases h

def okK (ok : Bool) (v : AV) (b : Bool) (k : AV → Bool) : Bool := Bool.rec (k v) (k (.tup [v, .bool b])) ok

theorem okK_ok {ok : Bool} {v : AV} {b : Bool} {k : AV → Bool} (h : okK ok v b k = true) : ∃ u, k u = true ∧ ∀ θ v', Ev.conc θ v = some v' → Ev.conc θ u = some (if ok then .tuple #[v', .bool b] else v') := by
  cases ok with
  | false => exact ⟨_, h, fun θ v' hv => by simpa using hv⟩
  | true => exact ⟨_, h, fun θ v' hv => by simp [Ev.conc, concs, hv]⟩

def lookupE (P : Program) (t : Nat) (x key : AV) (ok : Bool) (H : Heap) (k : AV → Bool) : Bool :=
  match P.underlying t with
  | some (.map kt e) => (match P.underlying kt with
    | some d => keyOk d key (x.ckMap (zeroV P e fun z => okK ok z false k) fun b => at_ H b fun bl => bl.ckMap fun es _ => es.find key (zeroV P e fun z => okK ok z false k) fun v => okK ok v true k)
    | none => false)
  | _ => false

theorem read_lookup {P : Program} {env : List AV} {o : Oper} {H : Heap} {t : Nat} {x y : Operand} {ok : Bool} {k : AV → Bool} (ho : o.op = .lookup t x y ok)
    (h : lookupE P t (ev P env x) (ev P env y) ok H k = true) : ∃ v, k v = true ∧ ReadSpec P env o H v := by
  unfold lookupE at h
  split at h
  · rename_i kt e hu
    split at h
    · rename_i d hd
      obtain ⟨hK, h⟩ := keyOk_iff h
      have hkb : ev P env y ≠ .bad := by rcases hK with ⟨_, _, _, e⟩ | ⟨_, _, _, e⟩ <;> rw [e] <;> simp
      rcases ckMap_iff.1 h with ⟨hx, h⟩ | ⟨b, hx, h⟩
      · obtain ⟨z, z', h, hzb, hzr, hzc⟩ := zeroV_ok h
        obtain ⟨u, hk, hq⟩ := okK_ok h
        refine ⟨u, hk, fun θ ac w B r hO => ?_⟩
        have vx := hO.at (x := x) (by simp [ho, Op.operands])
        have vy := (hO.at (x := y) (by simp [ho, Op.operands])).conc hkb
        rw [hx] at vx
        refine ⟨_, ?_, .inr (hq θ z' (hzc θ))⟩
        simp [execOp, ho, Instr.lookup, run_underlying hu, vx.nilm, run_checkKey hd hK vy, run_findKey hd (show Instr.findNow d (ac.eval y) [] 0 = some none from rfl), hzr]
      · obtain ⟨hb, h⟩ := at_iff.1 h
        obtain ⟨es, clk, hbl, h⟩ := ckMap'_iff.1 h
        rcases Ents.find_ok hK h with ⟨h, hf⟩ | ⟨v, h, hf⟩
        · obtain ⟨z, z', h, hzb, hzr, hzc⟩ := zeroV_ok h
          obtain ⟨u, hk, hq⟩ := okK_ok h
          refine ⟨u, hk, fun θ ac w B r hO => ?_⟩
          have vx := hO.at (x := x) (by simp [ho, Op.operands])
          have vy := (hO.at (x := y) (by simp [ho, Op.operands])).conc hkb
          rw [hx] at vx
          obtain ⟨l, hl, vx⟩ := vx.map
          have hr := r.at hl
          rw [hbl] at hr
          obtain ⟨_, es', hw, hes⟩ := hr
          refine ⟨_, ?_, .inr (hq θ z' (hzc θ))⟩
          simp [execOp, ho, Instr.lookup, run_underlying hu, vx, run_getObj_of hw (by simp), run_checkKey hd hK vy, run_findKey hd (hf θ _ _ 0 vy hes), hzr]
        · obtain ⟨u, hk, hq⟩ := okK_ok h
          refine ⟨u, hk, fun θ ac w B r hO => ?_⟩
          have vx := hO.at (x := x) (by simp [ho, Op.operands])
          have vy := (hO.at (x := y) (by simp [ho, Op.operands])).conc hkb
          rw [hx] at vx
          obtain ⟨l, hl, vx⟩ := vx.map
          have hr := r.at hl
          rw [hbl] at hr
          obtain ⟨_, es', hw, hes⟩ := hr
          obtain ⟨j, v', hj, hv'⟩ := hf θ _ _ 0 vy hes
          refine ⟨_, ?_, .inr (hq θ v' hv')⟩
          simp [execOp, ho, Instr.lookup, run_underlying hu, vx, run_getObj_of hw (by simp), run_checkKey hd hK vy, run_findKey hd hj]
    · cases h
  · cases h

/-! ### How many entries a map holds -/

def Ents.lenK (es : Ents) (k : Nat → Bool) : Bool := Ents.rec (motive := fun _ => Nat → Bool) (fun n => k n) (fun _ _ _ _ ih n => forceN (Nat.succ n) ih) es 0

def Ents.len : Ents → Nat
  | .nil => 0
  | .cons _ _ _ l => l.len + 1

theorem Ents.lenK_eq (es : Ents) (k : Nat → Bool) : es.lenK k = k es.len := by
  have : ∀ (es : Ents) (n : Nat), Ents.rec (motive := fun _ => Nat → Bool) (fun n => k n) (fun _ _ _ _ ih n => forceN (Nat.succ n) ih) es n = k (es.len + n) := by
    intro es
    induction es with
    | nil => intro n; simp [Ents.len]
    | cons a b c l ih => intro n; show forceN (n + 1) _ = _; rw [forceN_eq, ih]; simp only [Ents.len]; congr 1; omega
  exact this es 0

theorem EntsRel.length {θ : Theta} {es : Ents} {l : List MapEntry} (h : EntsRel θ es l) : l.length = es.len := by
  induction h with
  | nil => rfl
  | cons _ _ _ ih => simp [Ents.len, ih]

def lenMapE (P : Program) (t : Nat) (x : AV) (H : Heap) (k : AV → Bool) : Bool :=
  match P.underlying t with
  | some (.map _ _) => x.ckMap (k (.int .i64 0)) fun b => at_ H b fun bl => bl.ckMap fun es _ => es.lenK fun n => k (.int .i64 (.ofNat n))
  | _ => false

theorem read_lenMap {P : Program} {env : List AV} {o : Oper} {H : Heap} {c : Call} {t : Nat} {x : Operand} {k : AV → Bool} (ho : o.op = .call c) (hc : c.callee = .builtin .len) (ha : c.args = #[x]) (ht : c.argTypes[0]? = some t)
    (h : lenMapE P t (ev P env x) H k = true) : ∃ v, k v = true ∧ ReadSpec P env o H v := by
  have hox : x ∈ o.op.operands := by simp [ho, Op.operands, Call.operands, hc, ha]
  have run : ∀ (ac : Act) (w : World) (v : Value), (Builtin.len_ c.argTypes o.type #[ac.eval x]).run P w = .ok v w → (execOp ac.eval o).run P w = .ok (.value v) w := by
    intro ac w v hr
    simp [execOp, ho, resolve, hc, ha, invoke, builtin, hr]
  unfold lenMapE at h
  split at h
  · rename_i kt e hu
    rcases ckMap_iff.1 h with ⟨hx, h⟩ | ⟨b, hx, h⟩
    · refine ⟨_, h, fun θ ac w B r hO => ⟨.int .i64 0, run ac w _ ?_, .inr rfl⟩⟩
      have vx := hO.at hox
      rw [hx] at vx
      simp [Builtin.len_, ht, vx.nilm, run_underlying hu, goInt]
    · obtain ⟨hb, h⟩ := at_iff.1 h
      obtain ⟨es, clk, hbl, h⟩ := ckMap'_iff.1 h
      rw [Ents.lenK_eq] at h
      refine ⟨_, h, fun θ ac w B r hO => ⟨.int .i64 es.len, run ac w _ ?_, .inr rfl⟩⟩
      have vx := hO.at hox
      rw [hx] at vx
      obtain ⟨l, hl, vx⟩ := vx.map
      have hr := r.at hl
      rw [hbl] at hr
      obtain ⟨_, es', hw, hes⟩ := hr
      have := hes.length
      simp [Builtin.len_, ht, vx, run_underlying hu, run_getObj_of hw (by simp), goInt, ← this]
  · cases h

/-! ### Are two pointers equal -/

/-- A known block. -/
def liveK (H : Heap) (b : Nat) (y : Bool) : Bool := at_ H b fun bl => Blk.casesOn (motive := fun _ => Bool) bl false (fun _ _ _ _ => y) (fun _ _ => false) (fun _ _ _ _ => false) (fun _ _ _ => false) false

theorem liveK_iff {H : Heap} {b : Nat} {y : Bool} (h : liveK H b y = true) : (∃ ro ex len c, hfn H b = .cells ro ex len c) ∧ y = true := by
  obtain ⟨_, h⟩ := at_iff.1 h
  revert h
  cases hfn H b with
  | cells ro ex len c => intro h; exact ⟨⟨ro, ex, len, c, rfl⟩, h⟩
  | _ => intro h; exact (Bool.false_ne_true h).elim

end
end Ev
