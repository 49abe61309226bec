/- A part of the proof that GcNone returns true: text Ev10. -/
import Derived.Test.YtiegdojchlmfnaaGreatDoorEv9
namespace Ev
open Go
open Go.RowKit
noncomputable section

/-! ### Structs, arrays and literals of slices -/

/-- The cells of a zero value. -/
def zeroA (P : Program) (t : Nat) : Option (List AV) :=
  match (P.info? t).bind (·.zero) with
  | some v => (match absV v with
    | .agg l => if l.length = P.cellsOf t then some l else none
    | .bad => none
    | .tup _ => none
    | a => if P.cellsOf t = 1 then some [a] else none)
  | none => none

/-- One part of an aggregate is laid: where it goes, of how many cells it is, and whether its type is an aggregate's. -/
def layK (off size : Nat) (agg : Bool) (v : AV) (cells : List AV) (k : List AV → Bool) : Bool :=
  match agg with
  | false => if size = 1 ∧ off < cells.length then v.ckOne (k (cells.set off v)) else false
  | true => v.ckAgg fun l => ifB (Bool.and (Nat.beq l.length size) (Nat.ble (off + size) cells.length)) (k (cells.take off ++ l ++ cells.drop (off + size)))

def layAll (place : Nat → Option (Nat × Nat × Bool)) : List (Nat × AV) → List AV → (List AV → Bool) → Bool
  | [], cells, k => hi (k cells)
  | (i, v) :: rest, cells, k =>
    match place i with
    | none => false
    | some (off, size, agg) => layK off size agg v cells fun cells => layAll place rest cells k

/-- The places of a struct's fields. -/
def fieldPl (P : Program) (fields : Array Field) (i : Nat) : Option (Nat × Nat × Bool) :=
  match fields[i]? with
  | some f => (match isAggT P f.type with
    | some b => if P.cellsOf f.type = 0 then none else some (f.offset, P.cellsOf f.type, b)
    | none => none)
  | none => none

def elemPl (P : Program) (e : Nat) (i : Nat) : Option (Nat × Nat × Bool) :=
  match isAggT P e with
  | some b => if P.cellsOf e = 0 then none else some (i * P.cellsOf e, P.cellsOf e, b)
  | none => none

theorem one_cells {θ : Theta} {a : AV} {v : Value} (h : a.one = true) (hc : Ev.conc θ a = some v) : v.cells = #[v] ∧ v.oneCell' = true := by
  cases a <;> simp only [AV.one, Bool.false_eq_true] at h
  case bool b => simp [Ev.conc] at hc; subst hc; exact ⟨rfl, rfl⟩
  case int k n => simp [Ev.conc] at hc; subst hc; exact ⟨rfl, rfl⟩
  case str n c => simp [Ev.conc] at hc; subst hc; exact ⟨rfl, rfl⟩
  case nilp => simp [Ev.conc] at hc; subst hc; exact ⟨rfl, rfl⟩
  case nils => simp [Ev.conc] at hc; subst hc; exact ⟨rfl, rfl⟩
  case nilm => simp [Ev.conc] at hc; subst hc; exact ⟨rfl, rfl⟩
  case nilf => simp [Ev.conc] at hc; subst hc; exact ⟨rfl, rfl⟩
  case nili => simp [Ev.conc] at hc; subst hc; exact ⟨rfl, rfl⟩
  case ptr b o => obtain ⟨l, _, rfl⟩ := VR.ptr (.inr hc); exact ⟨rfl, rfl⟩
  case sl b o n c => obtain ⟨l, _, rfl⟩ := VR.sl (.inr hc); exact ⟨rfl, rfl⟩
  case sle b o lo es =>
    simp only [Ev.conc, Option.map_eq_some_iff] at hc
    obtain ⟨l, _, hc⟩ := hc
    rw [← hc]
    split <;> exact ⟨rfl, rfl⟩
  case map b => obtain ⟨l, _, rfl⟩ := VR.map (.inr hc); exact ⟨rfl, rfl⟩
  case fn f x y => obtain ⟨_, _, _, _, _, _, rfl⟩ := VR.fn (.inr hc); exact ⟨rfl, rfl⟩
  case iface t y =>
    simp only [Ev.conc, Option.map_eq_some_iff] at hc
    obtain ⟨_, _, rfl⟩ := hc
    exact ⟨rfl, rfl⟩

theorem concs_set {θ : Theta} : ∀ {l : List AV} {vs : List Value} (i : Nat) {a : AV} {v : Value}, concs θ l = some vs → Ev.conc θ a = some v → concs θ (l.set i a) = some (vs.set i v)
  | [], vs, i, a, v, h, _ => by simp [concs] at h; subst h; simp [concs]
  | b :: l, vs, 0, a, v, h, ha => by
    obtain ⟨x, y, h1, h2, rfl⟩ := concs_cons.1 h
    exact concs_cons.2 ⟨v, y, ha, h2, rfl⟩
  | b :: l, vs, i + 1, a, v, h, ha => by
    obtain ⟨x, y, h1, h2, rfl⟩ := concs_cons.1 h
    exact concs_cons.2 ⟨x, y.set i v, h1, concs_set i h2 ha, rfl⟩

theorem fold_splice : ∀ (l : List Value) (off j : Nat) (cs : Array Value), off + j + l.length ≤ cs.size →
    (((l.zipIdx j).toArray.foldl (fun (cs : Array Value) (x : Value × Nat) => cs.setIfInBounds (off + x.2) x.1) cs)).toList = cs.toList.take (off + j) ++ l ++ cs.toList.drop (off + j + l.length)
  | [], off, j, cs, _ => by simp
  | v :: l, off, j, cs, h => by
    simp only [List.length_cons] at h
    have ih := fold_splice l off (j + 1) (cs.setIfInBounds (off + j) v) (by simp; omega)
    simp only [List.zipIdx_cons, List.foldl_toArray, List.foldl_cons] at ih ⊢
    rw [ih]
    simp only [Array.toList_setIfInBounds, List.length_cons]
    have hlt : off + j < cs.toList.length := by simp; omega
    rw [show off + (j + 1) = (off + j) + 1 from by omega, List.take_succ_eq_append_getElem (by simpa using hlt)]
    simp only [List.getElem_set_self, List.take_set_of_le (Nat.le_refl _), List.append_assoc, List.cons_append, List.nil_append]
    rw [List.drop_set_of_lt (by omega)]
    congr 3
    rw [show off + j + 1 + l.length = off + j + (l.length + 1) from by omega]

theorem concs_splice {θ : Theta} {cells l : List AV} {cs ls : List Value} (off : Nat) (h : concs θ cells = some cs) (h' : concs θ l = some ls) :
    concs θ (cells.take off ++ l ++ cells.drop (off + l.length)) = some (cs.take off ++ ls ++ cs.drop (off + ls.length)) := by
  rw [concs_length h']
  exact concs_append (concs_append (concs_take _ h) h') (concs_drop _ h)

/-- The real parts of an aggregate, laid one after the other. -/
theorem layAll_ok {P : Program} {pl : Nat → Option (Nat × Nat × Bool)} {rp : Nat → Option (Nat × Nat)} (hpl : ∀ i off size agg, pl i = some (off, size, agg) → rp i = some (off, size)) {env : List AV} {k : List AV → Bool} :
    ∀ {parts : List (Nat × Operand)} {cells : List AV}, layAll pl (parts.map fun p => (p.1, ev P env p.2)) cells k = true →
    ∃ out, k out = true ∧ out.length = cells.length ∧ ∀ (θ : Theta) (ac : Act) (cs : List Value), concs θ cells = some cs → (∀ p ∈ parts, VR θ (ev P env p.2) (ac.eval p.2)) →
      ∃ vs, concs θ out = some vs ∧ Instr.fill rp cs.toArray (parts.map fun p => (p.1, ac.eval p.2)) = some vs.toArray
  | [], cells, h => ⟨cells, h, rfl, fun θ ac cs hc _ => ⟨cs, hc, rfl⟩⟩
  | (i, x) :: parts, cells, h => by
    simp only [List.map_cons, layAll] at h
    split at h
    · cases h
    · rename_i off size agg hp
      have hr := hpl i off size agg hp
      unfold layK at h
      split at h
      · split at h
        · rename_i hs
          obtain ⟨rfl, hlt⟩ := hs
          obtain ⟨h1, h⟩ := ckOne_iff.1 h
          obtain ⟨out, hk, hl, ho⟩ := layAll_ok hpl h
          refine ⟨out, hk, by simpa using hl, fun θ ac cs hc hv => ?_⟩
          have hx := (hv (i, x) (by simp)).conc (by intro e; simp only at e; rw [e] at h1; simp [AV.one] at h1)
          obtain ⟨hcells, _⟩ := one_cells h1 hx
          obtain ⟨vs, hvs, hf⟩ := ho θ ac (cs.set off (ac.eval x)) (concs_set off hc hx) (fun p hp => hv p (by simp [hp]))
          refine ⟨vs, hvs, ?_⟩
          have hlen := concs_length hc
          simp only [List.map_cons, Instr.fill, hr, hcells]
          rw [if_neg (by simp; omega)]
          rw [← hf]
          congr 1
          simp
        · cases h
      · obtain ⟨l, hx, h⟩ := ckAgg_iff.1 h
        obtain ⟨hb, h⟩ := ifB_iff.1 h
        have hb : l.length = size ∧ off + size ≤ cells.length := by simpa using hb
        obtain ⟨rfl, hle⟩ := hb
        obtain ⟨out, hk, hl, ho⟩ := layAll_ok hpl h
        refine ⟨out, hk, by rw [hl]; simp; omega, fun θ ac cs hc hv => ?_⟩
        have hv0 := hv (i, x) (by simp)
        simp only [hx] at hv0
        obtain ⟨ls, hls, hv0⟩ := hv0.agg
        have hlen := concs_length hc
        have hlen' := concs_length hls
        obtain ⟨vs, hvs, hf⟩ := ho θ ac _ (concs_splice off hc hls) (fun p hp => hv p (by simp [hp]))
        refine ⟨vs, hvs, ?_⟩
        have hcells : (ac.eval x).cells = ls.toArray := by rw [hv0]; rfl
        simp only [List.map_cons, Instr.fill, hr, hcells]
        rw [if_neg (by simp; omega)]
        rw [← hf]
        congr 1
        apply Array.ext'
        have := fold_splice ls off 0 cs.toArray (by simp; omega)
        simp only [Nat.add_zero] at this
        simpa using this

theorem run_zeroValue_of {P : Program} {t : TypeId} {v : Value} (h : (P.info? t).bind (·.zero) = some v) (w : World) : (zeroValue t).run P w = .ok v w := by
  cases hi : P.info? t with
  | none => simp [hi] at h
  | some i =>
    simp only [hi, Option.bind_some] at h
    simp [zeroValue, typeInfo, hi, h]

theorem absS_one (v : Value) : absS v = .bad ∨ (absS v).one = true := by
  cases v with
  | pointer a => cases a <;> simp [absS, AV.one]
  | slice a n c =>
    cases a with
    | none => cases n with
      | zero => cases c <;> simp [absS, AV.one]
      | succ n => exact .inl rfl
    | some a => exact .inl rfl
  | map r => cases r <;> simp [absS, AV.one]
  | func f a b => simp only [absS]; split <;> simp [AV.one]
  | _ => simp [absS, AV.one]

theorem absV_cases (v : Value) : absV v = .bad ∨ (∃ l, absV v = .agg l) ∨ (∃ l, absV v = .tup l) ∨ (absV v).one = true := by
  cases v with
  | agg cs => simp only [absV]; split <;> simp
  | tuple cs => simp only [absV]; split <;> simp
  | iface t v => simp only [absV]; split <;> simp [AV.one]
  | bool b => exact (absS_one (.bool b)).imp id fun h => .inr (.inr h)
  | int k n => exact (absS_one (.int k n)).imp id fun h => .inr (.inr h)
  | float k b => exact (absS_one (.float k b)).imp id fun h => .inr (.inr h)
  | complex k a b => exact (absS_one (.complex k a b)).imp id fun h => .inr (.inr h)
  | string s => exact (absS_one (.string s)).imp id fun h => .inr (.inr h)
  | pointer a => exact (absS_one (.pointer a)).imp id fun h => .inr (.inr h)
  | slice a n c => exact (absS_one (.slice a n c)).imp id fun h => .inr (.inr h)
  | map r => exact (absS_one (.map r)).imp id fun h => .inr (.inr h)
  | chan r => exact (absS_one (.chan r)).imp id fun h => .inr (.inr h)
  | func f x y => exact (absS_one (.func f x y)).imp id fun h => .inr (.inr h)
  | nilFunc => exact (absS_one .nilFunc).imp id fun h => .inr (.inr h)
  | nilIface => exact (absS_one .nilIface).imp id fun h => .inr (.inr h)

theorem zeroA_ok {P : Program} {t : Nat} {l : List AV} (h : zeroA P t = some l) : l.length = P.cellsOf t ∧ ∃ zv : Value, (∀ w, (zeroValue t).run P w = .ok zv w) ∧ ∀ (θ : Theta), ∃ vs, concs θ l = some vs ∧ zv.cells = vs.toArray := by
  unfold zeroA at h
  split at h
  · rename_i v hz
    have hrun := run_zeroValue_of hz
    have hok := fun θ => absV_ok θ v
    rcases absV_cases v with hb | ⟨l', hl⟩ | ⟨l', hl⟩ | h1
    · rw [hb] at h; cases h
    · rw [hl] at h
      simp only at h
      split at h
      · rename_i hlen
        injection h with h
        subst h
        refine ⟨hlen, v, hrun, fun θ => ?_⟩
        have := hok θ
        rw [hl] at this
        obtain ⟨vs, hvs, rfl⟩ := this.agg
        exact ⟨vs, hvs, rfl⟩
      · cases h
    · rw [hl] at h; cases h
    · have hd : (if P.cellsOf t = 1 then some [absV v] else none) = some l := by
        revert h h1
        cases absV v <;> simp [AV.one]
      split at hd
      · rename_i hc
        injection hd with hd
        subst hd
        refine ⟨by simp [hc], v, hrun, fun θ => ?_⟩
        have hv := (hok θ).conc (by intro e; rw [e] at h1; simp [AV.one] at h1)
        exact ⟨[v], concs_cons.2 ⟨v, [], hv, rfl, rfl⟩, (one_cells h1 hv).1⟩
      · cases hd
  · cases h

/-! ### build -/

def buildE2 (P : Program) (t : Nat) (ps : List (Nat × AV)) (k : AV → Bool) : Bool :=
  match P.underlying t, zeroA P t with
  | some (.struct fields), some z => layAll (fieldPl P fields) ps z fun l => k (.agg l)
  | some (.array _ e), some z => layAll (elemPl P e) ps z fun l => k (.agg l)
  | _, _ => false

def buildE (P : Program) (env : List AV) (t : Nat) (parts : Array (Nat × Operand)) (k : AV → Bool) : Bool :=
  match P.underlying t, zeroA P t with
  | some (.struct fields), some z => layAll (fieldPl P fields) (parts.toList.map fun p => (p.1, ev P env p.2)) z fun l => k (.agg l)
  | some (.array _ e), some z => layAll (elemPl P e) (parts.toList.map fun p => (p.1, ev P env p.2)) z fun l => k (.agg l)
  | _, _ => false

theorem run_mapM_places {P : Program} (fields : Array Field) (w : World) (h : ∀ f ∈ fields, ∃ i, P.info? f.type = some i) :
    (fields.mapM fun f => do pure (f.offset, ← sizeOf f.type) : Sem (Array (Nat × Nat))).run P w = .ok (fields.map fun f => (f.offset, P.cellsOf f.type)) w := by
  obtain ⟨l⟩ := fields
  have key : ∀ l : List Field, (∀ f ∈ l, ∃ i, P.info? f.type = some i) → (l.mapM fun f => do pure (f.offset, ← sizeOf f.type) : Sem (List (Nat × Nat))).run P w = .ok (l.map fun f => (f.offset, P.cellsOf f.type)) w := by
    intro l
    induction l with
    | nil => intro _; simp
    | cons f l ih =>
      intro h
      obtain ⟨i, hi⟩ := h f (by simp)
      have ih := ih fun g hg => h g (by simp [hg])
      simp only [List.mapM_cons, Sem.run_bind, run_sizeOf w hi, Result.andThen_ok, Sem.run_pure, ih, List.map_cons]
  have := key l (fun f hf => h f (by simpa using hf))
  rw [Array.mapM_eq_mapM_toList, Sem.run_map, this]
  simp

theorem fieldPl_ok {P : Program} {fields : Array Field} {i off size : Nat} {agg : Bool} (h : fieldPl P fields i = some (off, size, agg)) :
    (fields.map fun f => (f.offset, P.cellsOf f.type))[i]? = some (off, size) := by
  unfold fieldPl at h
  split at h
  · rename_i f hf
    split at h
    · split at h
      · cases h
      · injection h with h
        injection h with h1 h2
        injection h2 with h2 h3
        simp [hf, h1, h2]
    · cases h
  · cases h

theorem elemPl_ok {P : Program} {e i off size : Nat} {agg : Bool} (h : elemPl P e i = some (off, size, agg)) : some (i * P.cellsOf e, P.cellsOf e) = some (off, size) ∧ P.cellsOf e ≠ 0 := by
  unfold elemPl at h
  split at h
  · split at h
    · cases h
    · rename_i hz
      injection h with h
      injection h with h1 h2
      injection h2 with h2 h3
      exact ⟨by rw [h1, h2], hz⟩
  · cases h

def infosOK (P : Program) (fields : Array Field) : Bool := fields.all fun f => (P.info? f.type).isSome

theorem pure_build {P : Program} {env : List AV} {o : Oper} {t : Nat} {parts : Array (Nat × Operand)} {k : AV → Bool} (ho : o.op = .build t parts)
    (h : buildE P env t parts k = true) (hi : ∀ fields, P.underlying t = some (.struct fields) → infosOK P fields = true) (he : ∀ n e, P.underlying t = some (.array n e) → P.cellsOf e ≠ 0) :
    ∃ v, k v = true ∧ PureSpec P env o v := by
  have hop : ∀ p ∈ parts.toList, p.2 ∈ o.op.operands := fun p hp => by
    simp only [ho, Op.operands, List.mem_toArray, List.mem_map]
    exact ⟨p, hp, rfl⟩
  unfold buildE at h
  split at h
  · rename_i fields z hu hz
    obtain ⟨out, hk, hl, hq⟩ := layAll_ok (rp := fun i => (fields.map fun f => (f.offset, P.cellsOf f.type))[i]?) (fun i off size agg e => fieldPl_ok e) h
    refine ⟨_, hk, fun θ ac w hO => ?_⟩
    obtain ⟨_, zv, hzr, hzc⟩ := zeroA_ok hz
    obtain ⟨zs, hzs, hcells⟩ := hzc θ
    obtain ⟨vs, hvs, hfill⟩ := hq θ ac zs hzs (fun p hp => hO.at (hop p hp))
    refine ⟨.agg vs.toArray, ?_, .inr (by simp [Ev.conc, hvs])⟩
    have hinf := hi fields hu
    have hm := run_mapM_places (P := P) fields w (fun f hf => by
      have := (Array.all_eq_true_iff_forall_mem.1 hinf) f hf
      cases hx : P.info? f.type with
      | none => simp [hx] at this
      | some i => exact ⟨i, rfl⟩)
    have hpl : (parts.map fun (p : Nat × Operand) => (p.1, ac.eval p.2)).toList = parts.toList.map fun p => (p.1, ac.eval p.2) := by simp
    simp only [execOp, ho, Instr.build, Sem.run_bind, hzr, Result.andThen_ok, run_underlying hu, hm, hcells, hpl, hfill, Sem.run_pure]
  · rename_i n e z hu hz
    have hne := he n e hu
    obtain ⟨inf, hinf, _⟩ := info_of_cells hne
    obtain ⟨out, hk, hl, hq⟩ := layAll_ok (rp := fun i => some (i * P.cellsOf e, P.cellsOf e)) (fun i off size agg e => (elemPl_ok e).1) h
    refine ⟨_, hk, fun θ ac w hO => ?_⟩
    obtain ⟨_, zv, hzr, hzc⟩ := zeroA_ok hz
    obtain ⟨zs, hzs, hcells⟩ := hzc θ
    obtain ⟨vs, hvs, hfill⟩ := hq θ ac zs hzs (fun p hp => hO.at (hop p hp))
    refine ⟨.agg vs.toArray, ?_, .inr (by simp [Ev.conc, hvs])⟩
    have hpl : (parts.map fun (p : Nat × Operand) => (p.1, ac.eval p.2)).toList = parts.toList.map fun p => (p.1, ac.eval p.2) := by simp
    simp only [execOp, ho, Instr.build, Sem.run_bind, hzr, Result.andThen_ok, run_underlying hu, run_sizeOf w hinf, hcells, hpl, hfill, Sem.run_pure]
  · cases h

/-! ### len, min, max -/

def lenE (P : Program) (t : Nat) (x : AV) (k : AV → Bool) : Bool :=
  match P.underlying t with
  | some .string => x.ckStr fun n _ => k (.int .i64 (.ofNat n))
  | some (.slice _) => x.ckSl (k (.int .i64 0)) (fun _ _ len _ => k (.int .i64 (.ofNat len))) (fun _ _ _ _ => k (.int .i64 0))
  | some (.array n _) => k (.int .i64 (.ofNat n))
  | _ => false

theorem pure_len {P : Program} {env : List AV} {o : Oper} {c : Call} {t : Nat} {x : Operand} {k : AV → Bool} (ho : o.op = .call c) (hc : c.callee = .builtin .len) (ha : c.args = #[x]) (ht : c.argTypes[0]? = some t)
    (h : lenE P t (ev P env x) k = true) : ∃ v, k v = true ∧ PureSpec P env o v := by
  have hox : x ∈ o.op.operands := by simp [ho, Op.operands, Call.operands, hc, ha]
  have run : ∀ (ac : Act) (w : World) (v : Value), (Builtin.len_ c.argTypes o.type #[ac.eval x]).run P w = .ok v w → (execOp ac.eval o).run P w = .ok (.value v) w := by
    intro ac w v hr
    simp [execOp, ho, resolve, hc, ha, invoke, builtin, hr]
  unfold lenE at h
  split at h
  · rename_i hu
    obtain ⟨n, d, hx, h⟩ := ckStr_iff.1 h
    refine ⟨_, h, fun θ ac w hO => ⟨.int .i64 n, run ac w _ ?_, .inr rfl⟩⟩
    have vx := hO.at hox
    rw [hx] at vx
    simp [Builtin.len_, ht, vx.str, run_underlying hu, strOf_size, goInt]
  · rename_i e hu
    rcases ckSl_iff.1 h with ⟨hx, h⟩ | ⟨b, q, len, cap, hx, h⟩ | ⟨b, q, lo, es, hx, h⟩
    · refine ⟨_, h, fun θ ac w hO => ⟨.int .i64 0, run ac w _ ?_, .inr rfl⟩⟩
      have vx := hO.at hox
      rw [hx] at vx
      simp [Builtin.len_, ht, vx.nils, run_underlying hu, goInt]
    · refine ⟨_, h, fun θ ac w hO => ⟨.int .i64 len, run ac w _ ?_, .inr rfl⟩⟩
      have vx := hO.at hox
      rw [hx] at vx
      obtain ⟨l, _, vx⟩ := vx.sl
      simp [Builtin.len_, ht, vx, run_underlying hu, goInt]
    · refine ⟨_, h, fun θ ac w hO => ⟨.int .i64 0, run ac w _ ?_, .inr rfl⟩⟩
      have vx := hO.at hox
      rw [hx] at vx
      have hcc := vx.conc (by simp)
      simp only [Ev.conc, Option.map_eq_some_iff] at hcc
      obtain ⟨l, _, hcc⟩ := hcc
      have : ∃ ad cp, ac.eval x = .slice (some ad) 0 cp := by rw [← hcc]; split <;> exact ⟨_, _, rfl⟩
      obtain ⟨ad, cp, e⟩ := this
      simp [Builtin.len_, ht, e, run_underlying hu, goInt]
  · rename_i n e hu
    refine ⟨_, h, fun θ ac w hO => ⟨.int .i64 n, run ac w _ ?_, .inr rfl⟩⟩
    simp [Builtin.len_, ht, run_underlying hu, goInt]
  · cases h

def minE (mx : Bool) (x y : AV) (k : AV → Bool) : Bool := x.ckInts y fun kd a b => Bool.rec (Bool.rec (k (.int kd a)) (k (.int kd b)) (ltZ b a)) (Bool.rec (k (.int kd a)) (k (.int kd b)) (ltZ a b)) mx

theorem pure_min {P : Program} {env : List AV} {o : Oper} {c : Call} {mx : Bool} {x y : Operand} {k : AV → Bool} (ho : o.op = .call c) (hc : c.callee = .builtin (if mx then .max else .min)) (ha : c.args = #[x, y])
    (h : minE mx (ev P env x) (ev P env y) k = true) : ∃ v, k v = true ∧ PureSpec P env o v := by
  have hox : x ∈ o.op.operands := by cases mx <;> simp [ho, Op.operands, Call.operands, hc, ha]
  have hoy : y ∈ o.op.operands := by cases mx <;> simp [ho, Op.operands, Call.operands, hc, ha]
  obtain ⟨kd, a, b, hx, hy, h⟩ := ckInts_iff h
  cases mx with
  | false =>
    simp only [ltZ_eq] at h
    by_cases hlt : b < a
    · simp only [decide_eq_true hlt] at h
      refine ⟨_, h, fun θ ac w hO => ⟨.int kd b, ?_, .inr rfl⟩⟩
      have vx := hO.at hox; have vy := hO.at hoy
      rw [hx] at vx; rw [hy] at vy
      simp [execOp, ho, resolve, hc, ha, invoke, builtin, Builtin.min_, Builtin.min2, vx.int, vy.int, hlt]
    · simp only [decide_eq_false hlt] at h
      refine ⟨_, h, fun θ ac w hO => ⟨.int kd a, ?_, .inr rfl⟩⟩
      have vx := hO.at hox; have vy := hO.at hoy
      rw [hx] at vx; rw [hy] at vy
      simp [execOp, ho, resolve, hc, ha, invoke, builtin, Builtin.min_, Builtin.min2, vx.int, vy.int, hlt]
  | true =>
    simp only [ltZ_eq] at h
    by_cases hlt : a < b
    · simp only [decide_eq_true hlt] at h
      refine ⟨_, h, fun θ ac w hO => ⟨.int kd b, ?_, .inr rfl⟩⟩
      have vx := hO.at hox; have vy := hO.at hoy
      rw [hx] at vx; rw [hy] at vy
      simp [execOp, ho, resolve, hc, ha, invoke, builtin, Builtin.max_, Builtin.max2, vx.int, vy.int, hlt]
    · simp only [decide_eq_false hlt] at h
      refine ⟨_, h, fun θ ac w hO => ⟨.int kd a, ?_, .inr rfl⟩⟩
      have vx := hO.at hox; have vy := hO.at hoy
      rw [hx] at vx; rw [hy] at vy
      simp [execOp, ho, resolve, hc, ha, invoke, builtin, Builtin.max_, Builtin.max2, vx.int, vy.int, hlt]

end
end Ev
