/- A part of the proof that GcRoom returns true: text EvE. -/
import Derived.Test.YtfhilpdbmfbbdaaGreatDoorEvD
import Derived.KernelRfl
import Derived.RangeFuncCalls
namespace Ev
open Go
open Go.RowKit
noncomputable section
def AV.ckIface (a : AV) (f : Nat → AV → Bool) : Bool :=
  AV.rec (motive_1 := fun _ => Bool) (motive_2 := fun _ => Bool) false (fun _ => false) (fun _ _ => false) (fun _ _ => false) false (fun _ _ => false) false (fun _ _ _ _ => false) (fun _ _ _ _ => false) false (fun _ => false) (fun _ _ _ _ _ => false) false (fun x0 x1 _ => f x0 x1) false (fun _ _ => false) (fun _ _ => false) (fun _ => false) (fun _ => false) false (fun _ _ _ _ => false) a
theorem ckIface_iff {a : AV} {f : Nat → AV → Bool} : a.ckIface f = true ↔ ∃ t v, a = .iface t v ∧ f t v = true := by
  cases a <;> simp [AV.ckIface]
  constructor
  · intro h; exact ⟨_, _, ⟨rfl, rfl⟩, h⟩
  · rintro ⟨_, _, ⟨rfl, rfl⟩, h⟩; exact h
theorem VR.iface {θ : Theta} {t : Nat} {x : AV} {v : Value} (h : VR θ (.iface t x) v) : ∃ y, Ev.conc θ x = some y ∧ v = .iface t y := by
  have := h.conc (by simp)
  simp only [Ev.conc, Option.map_eq_some_iff] at this
  obtain ⟨y, hy, e⟩ := this
  exact ⟨y, hy, e.symm⟩
def tyAsE (P : Program) (t : Nat) (x : AV) (k : AV → Bool) : Bool :=
  match P.underlying t with
  | some (.interface _) | none => false
  | some _ => x.ckIface fun t' v => ifB (Nat.beq t' t) (k v)
theorem pure_tyAs {P : Program} {env : List AV} {o : Oper} {x : Operand} {xt t : Nat} {k : AV → Bool} (ho : o.op = .typeAssert x xt t false)
    (h : tyAsE P t (ev P env x) k = true) : ∃ v, k v = true ∧ PureSpec P env o v := by
  unfold tyAsE at h
  split at h
  · cases h
  · cases h
  · rename_i d hd hu
    obtain ⟨t', v, hx, h1⟩ := ckIface_iff.1 h
    obtain ⟨ht, hk⟩ := ifB_iff.1 h1
    clear h h1
    obtain rfl : t' = t := by simpa using ht
    refine ⟨_, hk, fun θ ac w hO => ?_⟩
    have hv := hO.at (x := x) (by simp [ho, Op.operands])
    rw [hx] at hv
    obtain ⟨y, hy, e⟩ := hv.iface
    refine ⟨y, ?_, .inr hy⟩
    simp only [execOp, ho, e, Instr.typeAssert, Sem.run_bind, run_underlying hu, Result.andThen_ok]
    cases d <;> first | exact absurd hu (hd _) | simp
def Ents.del (es : Ents) (is : List Nat) (H : Heap) (key : AV) (k : Ents → Bool) : Bool :=
  Ents.rec (motive := fun _ => (Ents → Bool) → Bool) (fun k => k .nil) (fun k' v' b l ih k => keyEq is H key k' (k l) (ih fun l' => k (.cons k' v' b l'))) es k
theorem Ents.del_ok {P : Program} {kt : Nat} {fl : Bool} {H : Heap} {key : AV} (hd : KeyOk P kt fl key) : ∀ {es : Ents} {k : Ents → Bool}, es.del (keyIs P kt) H key k = true →
    ∃ es', k es' = true ∧ ∀ θ B w kv l i, HRel P θ (hfn H) B w → Ev.conc θ key = some kv → EntsRel θ es l →
      (FindAt P w kt fl kv l i none ∧ EntsRel θ es' l) ∨ (∃ j v, FindAt P w kt fl kv l i (some (i + j, v)) ∧ j < l.length ∧ EntsRel θ es' (l.eraseIdx j))
  | .nil, k, h => ⟨_, h, fun θ B w kv l i _ _ hl => by cases hl; exact .inl ⟨hd.nil w kv i, .nil⟩⟩
  | .cons k' v' b es, k, h => by
    have h : keyEq (keyIs P kt) H key k' (k es) (es.del (keyIs P kt) H key fun l' => k (.cons k' v' b l')) = true := h
    rcases hd.eq H k' _ _ h with ⟨hy, hq⟩ | ⟨hn, hq⟩
    · refine ⟨_, hy, fun θ B w kv l i r hk hl => ?_⟩
      cases hl with
      | cons hk' hv' hl =>
        rename_i kc vc lc
        have h1 := (hq θ B w _ _ r hk hk').1
        exact .inr ⟨0, vc, FindAt.hit h1, by simp, by simpa using hl⟩
    · obtain ⟨es', hk2, hr⟩ := Ents.del_ok hd hn
      refine ⟨_, hk2, fun θ B w kv l i r hk hl => ?_⟩
      cases hl with
      | cons hk' hv' hl =>
        have h1 := hq θ B w _ _ r hk hk'
        rcases hr θ B w kv _ (i + 1) r hk hl with ⟨h2, h3⟩ | ⟨j, v, h2, hj, h3⟩
        · exact .inl ⟨FindAt.miss h1 h2, .cons hk' hv' h3⟩
        · refine .inr ⟨j + 1, v, FindAt.miss h1 (by rw [show i + (j + 1) = i + 1 + j from by omega]; exact h2), by simpa using hj, by simpa using EntsRel.cons hk' hv' h3⟩
def delE (P : Program) (t : Nat) (H : Heap) (m key : AV) (k : AV → Heap → Bool) : Bool :=
  match P.underlying t with
  | some (.map kt _) => keyOk P kt key (m.ckMap false fun b => at_ H b fun bl => bl.ckMap fun es clk => es.del (keyIs P kt) H key fun es' => hput H b (.map es' clk) fun H => k (.tup []) H)
  | _ => false
theorem heavy_del {P : Program} {env : List AV} {o : Oper} {c : Call} {t : Nat} {m x : Operand} {H : Heap} {n : Nat} {k : AV → Heap → Bool} (ho : o.op = .call c) (hc : c.callee = .builtin .delete) (ha : c.args = #[m, x]) (ht : c.argTypes[0]? = some t)
    (h : delE P t H (ev P env m) (ev P env x) k = true) : ∃ v H', k v H' = true ∧ HeavySpec P env o H n v H' n := by
  have hops : o.op.operands = #[m, x] := by simp [ho, Op.operands, Call.operands, hc, ha]
  have run : ∀ (ac : Act) (w w' : World) (v : Value), (Builtin.delete_ c.argTypes o.type #[ac.eval m, ac.eval x]).run P w = .ok v w' → (execOp ac.eval o).run P w = .ok (.value v) w' := by
    intro ac w w' v hr
    simp [execOp, ho, resolve, hc, ha, invoke, builtin, hr]
  unfold delE at h
  split at h
  · rename_i kt e hu
    · obtain ⟨⟨fl, hK⟩, h⟩ := keyOk_iff h
      have hkb := hK.bad
      rcases ckMap_iff.1 h with ⟨_, h⟩ | ⟨b, hx, h⟩
      · cases h
      · obtain ⟨hb, h⟩ := at_iff.1 h
        obtain ⟨es, clk, hbl, h⟩ := ckMap'_iff.1 h
        obtain ⟨es', h, hq⟩ := Ents.del_ok hK h
        rw [hput_eq] at h
        refine ⟨_, _, h, fun θ ac w B r f hB hO => ?_⟩
        have vm := hO.at (x := m) (by simp [hops])
        have vx := (hO.at (x := x) (by simp [hops])).conc hkb
        rw [hx] at vm
        obtain ⟨l, hl, vm⟩ := vm.map
        have hr := r.at hl
        rw [hbl] at hr
        obtain ⟨_, l0, hw, hes⟩ := hr
        rcases hq θ B w _ _ 0 r vx hes with ⟨h2, h3⟩ | ⟨j, v, h2, hj, h3⟩
        · refine ⟨.tuple #[], _, θ, .inl (run ac w _ _ ?_), by
            rw [hfn_put _ _ hb]
            exact went_map r f hl hbl (es' := es') (l := l0) (clk' := clk) h3 rfl, .inr (by simp [Ev.conc, concs])⟩
          simp [Builtin.delete_, ht, vm, run_underlying hu, run_getObj_of hw (by simp), hK.chk θ _ _ w vx, hK.find h2, run_setObj_map _ hw]
        · rw [Nat.zero_add] at h2
          have hlt : j < l0.size := by simpa using hj
          refine ⟨.tuple #[], _, θ, .inl (run ac w _ _ ?_), by
            rw [hfn_put _ _ hb]
            exact went_map r f hl hbl (es' := es') (l := l0.eraseIdxIfInBounds j) (clk' := clk) (by simpa [Array.eraseIdxIfInBounds, hlt] using h3) rfl, .inr (by simp [Ev.conc, concs])⟩
          simp [Builtin.delete_, ht, vm, run_underlying hu, run_getObj_of hw (by simp), hK.chk θ _ _ w vx, hK.find h2, run_setObj_map _ hw]
  · cases h
def Ents.get (es : Ents) (is : List Nat) (H : Heap) (key : AV) (no : Bool) (yes : AV → Nat → Bool) : Bool :=
  Ents.rec (motive := fun _ => Bool) no (fun k v b _ ih => keyEq is H key k (yes v b) ih) es
theorem Ents.get_ok {P : Program} {kt : Nat} {fl : Bool} {H : Heap} {key : AV} (hd : KeyOk P kt fl key) {no : Bool} {yes : AV → Nat → Bool} : ∀ {es : Ents}, es.get (keyIs P kt) H key no yes = true →
    (no = true ∧ ∀ θ B w kv l i, HRel P θ (hfn H) B w → Ev.conc θ key = some kv → EntsRel θ es l → FindAt P w kt fl kv l i none) ∨
    (∃ v b, yes v b = true ∧ ∀ θ B w kv l i, HRel P θ (hfn H) B w → Ev.conc θ key = some kv → EntsRel θ es l → ∃ j e, FindAt P w kt fl kv l i (some (i + j, e.val)) ∧ l[j]? = some e ∧ e.key = kv ∧ e.born = b ∧ Ev.conc θ v = some e.val)
  | .nil, h => .inl ⟨h, fun θ B w kv l i _ _ hl => by cases hl; exact hd.nil w kv i⟩
  | .cons k v b es, h => by
    have h : keyEq (keyIs P kt) H key k (yes v b) (es.get (keyIs P kt) H key no yes) = true := h
    rcases hd.eq H k _ _ h with ⟨hy, hq⟩ | ⟨hn, hq⟩
    · refine .inr ⟨v, b, hy, fun θ B w kv l i r hk hl => ?_⟩
      cases hl with
      | cons hk' hv hl =>
        obtain ⟨h1, h2⟩ := hq θ B w _ _ r hk hk'
        exact ⟨0, _, FindAt.hit h1, rfl, h2, rfl, hv⟩
    · rcases Ents.get_ok hd hn with ⟨hno, hr⟩ | ⟨u, b', hu, hr⟩
      · refine .inl ⟨hno, fun θ B w kv l i r hk hl => ?_⟩
        cases hl with
        | cons hk' hv hl => exact FindAt.miss (hq θ B w _ _ r hk hk') (hr θ B w kv _ (i + 1) r hk hl)
      · refine .inr ⟨u, b', hu, fun θ B w kv l i r hk hl => ?_⟩
        cases hl with
        | cons hk' hv hl =>
          obtain ⟨j, e, hj, h1, h2, h3, h4⟩ := hr θ B w kv _ (i + 1) r hk hl
          exact ⟨j + 1, e, FindAt.miss (hq θ B w _ _ r hk hk') (by rw [show i + (j + 1) = i + 1 + j from by omega]; exact hj), by simpa using h1, h2, h3, h4⟩
def Ents.snoc (es : Ents) (key val : AV) (clk : Nat) (k : Ents → Bool) : Bool :=
  Ents.rec (motive := fun _ => (Ents → Bool) → Bool) (fun k => k (.cons key val clk .nil)) (fun k' v' b _ ih k => ih fun l' => k (.cons k' v' b l')) es k
theorem Ents.snoc_ok {key val : AV} {clk : Nat} : ∀ {es : Ents} {k : Ents → Bool}, es.snoc key val clk k = true →
    ∃ es', k es' = true ∧ ∀ θ kv vv l, Ev.conc θ key = some kv → Ev.conc θ val = some vv → EntsRel θ es l → EntsRel θ es' (l ++ [⟨kv, vv, clk⟩])
  | .nil, k, h => ⟨_, h, fun θ kv vv l hk hv hl => by cases hl; exact .cons hk hv .nil⟩
  | .cons k' v' b es, k, h => by
    have h : es.snoc key val clk (fun l' => k (.cons k' v' b l')) = true := h
    obtain ⟨es', hk2, hr⟩ := Ents.snoc_ok h
    refine ⟨_, hk2, fun θ kv vv l hk hv hl => ?_⟩
    cases hl with
    | cons hk' hv' hl => exact .cons hk' hv' (hr θ kv vv _ hk hv hl)
def mapEntE (P : Program) (t : Nat) (H : Heap) (m key : AV) (k : AV → Heap → Bool) : Bool :=
  match P.underlying t with
  | some (.map kt e) => keyOk P kt key (zeroV P e fun z => m.ckMap false fun b => at_ H b fun bl => bl.ckMap fun es clk => es.get (keyIs P kt) H key
        (es.snoc key z clk fun es' => forceN (Nat.succ clk) fun c => hput H b (.map es' c) fun H => k (.tup [z, .int .i64 (.ofNat clk)]) H)
        fun v n => v.ckOk (hput H b (.map es clk) fun H => k (.tup [v, .int .i64 (.ofNat n)]) H))
  | _ => false
theorem heavy_mapEnt {P : Program} {env : List AV} {o : Oper} {t : Nat} {m x : Operand} {H : Heap} {n : Nat} {k : AV → Heap → Bool} (ho : o.op = .mapEntry t m x)
    (h : mapEntE P t H (ev P env m) (ev P env x) k = true) : ∃ v H', k v H' = true ∧ HeavySpec P env o H n v H' n := by
  have hops : o.op.operands = #[m, x] := by rw [ho]; rfl
  have run : ∀ (ac : Act) (w w' : World) (v : Value), (Instr.mapEntry t (ac.eval m) (ac.eval x)).run P w = .ok v w' → (execOp ac.eval o).run P w = .ok (.value v) w' := by
    intro ac w w' v hr
    simp [execOp, ho, hr]
  unfold mapEntE at h
  split at h
  · rename_i kt e hu
    · obtain ⟨⟨fl, hK⟩, h⟩ := keyOk_iff h
      have hkb := hK.bad
      obtain ⟨z, z', h, hzb, hzr, hzc⟩ := zeroV_ok h
      rcases ckMap_iff.1 h with ⟨_, h⟩ | ⟨b, hx, h⟩
      · cases h
      · obtain ⟨hb, h⟩ := at_iff.1 h
        obtain ⟨es, clk, hbl, h⟩ := ckMap'_iff.1 h
        rcases Ents.get_ok hK h with ⟨h, hq⟩ | ⟨v, born, h, hq⟩
        · obtain ⟨es', h, hs⟩ := Ents.snoc_ok h
          simp only [forceN_eq, hput_eq] at h
          refine ⟨_, _, h, fun θ ac w B r f hB hO => ?_⟩
          have vm := hO.at (x := m) (by simp [hops])
          have vx := (hO.at (x := x) (by simp [hops])).conc hkb
          rw [hx] at vm
          obtain ⟨l, hl, vm⟩ := vm.map
          have hr := r.at hl
          rw [hbl] at hr
          obtain ⟨_, l0, hw, hes⟩ := hr
          have h2 := hq θ B w _ _ 0 r vx hes
          refine ⟨.tuple #[z', goInt clk], _, θ, .inl (run ac w _ _ ?_), by
            rw [hfn_put _ _ hb]
            exact went_map r f hl hbl (es' := es') (l := l0.push ⟨ac.eval x, z', clk⟩) (clk' := clk + 1) (by simpa using hs θ _ _ _ vx (hzc θ) hes) rfl, .inr (by simp [Ev.conc, concs, hzc θ, goInt])⟩
          simp [Instr.mapEntry, run_underlying hu, vm, run_getObj_of hw (by simp), hK.chk θ _ _ w vx, hK.find h2, hzr, run_setObj_map _ hw]
        · obtain ⟨hvb, h⟩ := ckOk_iff.1 h
          simp only [hput_eq] at h
          refine ⟨_, _, h, fun θ ac w B r f hB hO => ?_⟩
          have vm := hO.at (x := m) (by simp [hops])
          have vx := (hO.at (x := x) (by simp [hops])).conc hkb
          rw [hx] at vm
          obtain ⟨l, hl, vm⟩ := vm.map
          have hr := r.at hl
          rw [hbl] at hr
          obtain ⟨_, l0, hw, hes⟩ := hr
          obtain ⟨j, e', h2, h3, h4, h5, h6⟩ := hq θ B w _ _ 0 r vx hes
          rw [Nat.zero_add] at h2
          have hget : l0[j]? = some e' := by simpa using h3
          have hsb := hK.bits θ _ vx
          have hmod : l0.modify j (fun e => { e with key := ac.eval x }) = l0 := by
            apply Array.ext'
            apply List.ext_getElem?
            intro i
            simp only [Array.getElem?_toList, Array.getElem?_modify]
            by_cases hij : j = i
            · subst hij
              simp only [hget, if_true, Option.map_some, ← h4]
            · simp [hij]
          refine ⟨.tuple #[e'.val, goInt born], _, θ, .inl (run ac w _ _ ?_), by
            rw [hfn_put _ _ hb]
            exact went_map r f hl hbl (es' := es) (l := l0) (clk' := clk) hes rfl, .inr (by simp [Ev.conc, concs, h6, goInt])⟩
          simp [Instr.mapEntry, run_underlying hu, vm, run_getObj_of hw (by simp), hK.chk θ _ _ w vx, hK.find h2, hget, h4, h5, Instr.keyThatStays, hsb, hmod, run_setObj_map _ hw]
  · cases h
def Ents.setBorn (es : Ents) (born : Nat) (val : AV) (k : Ents → Bool) : Bool :=
  Ents.rec (motive := fun _ => (Ents → Bool) → Bool) (fun _ => false) (fun k' v' b l ih k => Bool.rec (ih fun l' => k (.cons k' v' b l')) (k (.cons k' val b l)) (Nat.beq b born)) es k
theorem Ents.setBorn_ok {born : Nat} {val : AV} : ∀ {es : Ents} {k : Ents → Bool}, es.setBorn born val k = true →
    ∃ es', k es' = true ∧ ∀ θ vv l, Ev.conc θ val = some vv → EntsRel θ es l → ∃ j e, l.findIdx? (fun e => (e.born : Int) == (born : Int)) = some j ∧ l[j]? = some e ∧ EntsRel θ es' (l.set j { e with val := vv })
  | .nil, k, h => (Bool.false_ne_true h).elim
  | .cons k' v' b es, k, h => by
    have h : (Bool.rec (motive := fun _ => Bool) (es.setBorn born val fun l' => k (.cons k' v' b l')) (k (.cons k' val b es)) (Nat.beq b born)) = true := h
    cases hb : Nat.beq b born with
    | true =>
      simp only [hb] at h
      have e : b = born := Nat.eq_of_beq_eq_true hb
      refine ⟨_, h, fun θ vv l hv hl => ?_⟩
      cases hl with
      | cons hk' hv' hl => exact ⟨0, _, by simp [List.findIdx?_cons, e], rfl, by simpa using EntsRel.cons hk' hv hl⟩
    | false =>
      simp only [hb] at h
      obtain ⟨es', hk2, hr⟩ := Ents.setBorn_ok h
      refine ⟨_, hk2, fun θ vv l hv hl => ?_⟩
      have hne : b ≠ born := fun e => by rw [e] at hb; simp at hb
      cases hl with
      | cons hk' hv' hl =>
        obtain ⟨j, e, h1, h2, h3⟩ := hr θ vv _ hv hl
        have hne' : ((b : Int) == (born : Int)) = false := by simp; omega
        exact ⟨j + 1, e, by simp only [List.findIdx?_cons, hne', h1]; rfl, by simpa using h2, by simpa using EntsRel.cons hk' hv' h3⟩
def entStE (H : Heap) (m st val : AV) (k : AV → Heap → Bool) : Bool :=
  val.ckOk (st.ckInt fun _ z => natOf z fun born => m.ckMap false fun b => at_ H b fun bl => bl.ckMap fun es clk => es.setBorn born val fun es' => hput H b (.map es' clk) fun H => k .bad H)
theorem heavy_entSt {P : Program} {env : List AV} {o : Oper} {t : Nat} {m x y : Operand} {H : Heap} {n : Nat} {k : AV → Heap → Bool} (ho : o.op = .entryStore t m x y)
    (h : entStE H (ev P env m) (ev P env x) (ev P env y) k = true) : ∃ v H', k v H' = true ∧ HeavySpec P env o H n v H' n := by
  have hops : o.op.operands = #[m, x, y] := by rw [ho]; rfl
  have run : ∀ (ac : Act) (w w' : World), (Instr.entryStore t (ac.eval m) (ac.eval x) (ac.eval y)).run P w = .ok () w' → (execOp ac.eval o).run P w = .ok .skip w' := by
    intro ac w w' hr
    simp [execOp, ho, hr]
  unfold entStE at h
  obtain ⟨hvb, h⟩ := ckOk_iff.1 h
  obtain ⟨kd, z, hst, h⟩ := ckInt_iff.1 h
  obtain ⟨born, rfl, h⟩ := natOf_iff.1 h
  rcases ckMap_iff.1 h with ⟨_, h⟩ | ⟨b, hx, h⟩
  · cases h
  obtain ⟨hb, h⟩ := at_iff.1 h
  obtain ⟨es, clk, hbl, h⟩ := ckMap'_iff.1 h
  obtain ⟨es', h, hq⟩ := Ents.setBorn_ok h
  rw [hput_eq] at h
  refine ⟨_, _, h, fun θ ac w B r f hB hO => ?_⟩
  have vm := hO.at (x := m) (by simp [hops])
  have vs := hO.at (x := x) (by simp [hops])
  have vy := (hO.at (x := y) (by simp [hops])).conc hvb
  rw [hx] at vm
  rw [hst] at vs
  have vs := vs.int
  obtain ⟨l, hl, vm⟩ := vm.map
  have hr := r.at hl
  rw [hbl] at hr
  obtain ⟨_, l0, hw, hes⟩ := hr
  obtain ⟨j, e, h1, h2, h3⟩ := hq θ _ _ vy hes
  have h1' : l0.findIdx? (fun e => (e.born : Int) == (born : Int)) = some j := by
    rw [show l0 = l0.toList.toArray by simp, List.findIdx?_toArray]
    exact h1
  have hget : l0[j]? = some e := by simpa using h2
  have hlt : j < l0.size := by
    rcases Nat.lt_or_ge j l0.size with h | h
    · exact h
    · simp [Array.getElem?_eq_none h] at hget
  have hel : l0[j] = e := by simpa [Array.getElem?_eq_getElem hlt] using hget
  have hmod : l0.modify j (fun e => { e with val := ac.eval y }) = (l0.toList.set j { e with val := ac.eval y }).toArray := by
    apply Array.ext'
    apply List.ext_getElem?
    intro i
    simp only [Array.getElem?_toList, Array.getElem?_modify, List.getElem?_set]
    by_cases hij : j = i
    · subst hij
      simp [hlt, hel]
    · simp [hij]
  refine ⟨undef, _, θ, .inr ⟨run ac w _ ?_, rfl⟩, by
    rw [hfn_put _ _ hb]
    exact went_map r f hl hbl (es' := es') (l := (l0.toList.set j { e with val := ac.eval y }).toArray) (clk' := clk) (by simpa using h3) rfl, .inl rfl⟩
  have has : (asInt (Value.int kd (born : Int))).run P w = .ok (born : Int) w := rfl
  simp only [Instr.entryStore, vm, vs, Sem.run_bind, run_getObj_of hw (by simp), Result.andThen_ok, has, h1', hmod, run_setObj_map _ hw]
def cloneFn (P : Program) (f : Nat) : Bool :=
  match P.funcs[f]? with
  | some fn => Option.casesOn (motive := fun _ => Bool) fn.body (and (decide (fn.name = "maps.clone")) (decide (fn.origin = ""))) fun _ => false
  | none => false
theorem clone_rows : Extern.allNextRows.lookup "maps.clone" = none ∧ Extern.allNextRows.lookup "" = none ∧ Extern.allGenericRows.lookup "maps.clone" = none ∧ Extern.allTypedRows.lookup "maps.clone" = none ∧ Extern.allRows.lookup "maps.clone" = some Extern.MapsClone.clone :=
  ⟨by kernel_rfl, by kernel_rfl, by kernel_rfl, by kernel_rfl, by kernel_rfl⟩
theorem run_markS {α : Type} {P : Program} (m : Mark) (s : Sem α) (w : World) : Sem.run P (Sem.mark m s) w = Sem.run P s w := rfl
theorem run_clone_map {P : Program} {w : World} {t r : Nat} {es : Array MapEntry} {clk : Nat} (hw : w.heap[r]? = some (.map es clk)) :
    (Extern.MapsClone.clone #[.iface t (.map (some r))]).run P w = .ok (.iface t (.map (some w.heap.size))) (w.alloc (.map es clk)) := by
  show Sem.run P (do
    let .map entries clock ← getObj r | stuck "maps.clone: a map expected"
    pure (Value.iface t (.map (some (← newObj (.map entries clock))))) : Sem Value) w = _
  simp only [Sem.run_bind, run_getObj_of hw (by simp), Result.andThen_ok]
  rfl
theorem run_clone {P : Program} {f : Nat} (h : cloneFn P f = true) (vs : Array Value) (w : World) : (callFunc f vs).run P w = ((Extern.MapsClone.clone vs).run P w).andThen fun v w => .ok (.value v) w := by
  unfold cloneFn at h
  split at h
  · rename_i fn hf
    cases hb : fn.body with
    | some c => rw [hb] at h; cases h
    | none =>
      rw [hb] at h
      have h : (and (decide (fn.name = "maps.clone")) (decide (fn.origin = ""))) = true := h
      simp only [Bool.and_eq_true, decide_eq_true_eq] at h
      obtain ⟨hn, ho⟩ := h
      obtain ⟨r1, r2, r3, r4, r5⟩ := clone_rows
      have e1 : Extern.findNext fn = none := by simp [Extern.findNext, hn, ho, r1, r2]
      have e2 : Extern.find fn = some Extern.MapsClone.clone := by simp [Extern.find, hn, r3, r4, r5]
      simp [callFunc, run_program, hf, hn, hb, e1, e2, mark, run_markS]
  · cases h
def cloneE (H : Heap) (n : Nat) (x : AV) (k : AV → Heap → Nat → Bool) : Bool :=
  x.ckIface fun t v => v.ckMap false fun b => at_ H b fun bl => bl.ckMap fun es clk => ifB (Nat.blt n 32768) (hput H n (.map es clk) fun H => forceN (Nat.succ n) fun n' => k (.iface t (.map n)) H n')
theorem heavy_clone {P : Program} {env : List AV} {o : Oper} {c : Call} {f : Nat} {x : Operand} {H : Heap} {n : Nat} {k : AV → Heap → Nat → Bool} (ho : o.op = .call c) (hc : c.callee = .value (.func f)) (ha : c.args = #[x]) (hf : cloneFn P f = true)
    (h : cloneE H n (ev P env x) k = true) : ∃ v H' n', k v H' n' = true ∧ HeavySpec P env o H n v H' n' := by
  unfold cloneE at h
  obtain ⟨t, v, hx, h⟩ := ckIface_iff.1 h
  rcases ckMap_iff.1 h with ⟨_, h⟩ | ⟨b, hv, h⟩
  · cases h
  obtain ⟨hb, h⟩ := at_iff.1 h
  obtain ⟨es, clk, hbl, h⟩ := ckMap'_iff.1 h
  obtain ⟨hn, h⟩ := ifB_iff.1 h
  have hn : n < 32768 := by simpa [blt_eq] using hn
  rw [hput_eq, forceN_eq] at h
  refine ⟨_, _, _, h, fun θ ac w B r fr hB hO => ?_⟩
  have vx := hO.at (x := x) (by simp [ho, Op.operands, Call.operands, hc, ha])
  rw [hx, hv] at vx
  obtain ⟨y, hy, vx⟩ := vx.iface
  obtain ⟨l, hl, rfl⟩ := (VR.map (.inr hy))
  have hr := r.at hl
  rw [hbl] at hr
  obtain ⟨_, l0, hw, hes⟩ := hr
  have hi := fr n (Nat.le_refl _)
  refine ⟨.iface t (.map (some w.heap.size)), w.alloc (.map l0 clk), θ.add n ⟨w.heap.size, 0, 0⟩, .inl ?_, ?_, .inr ?_⟩
  · have e := run_clone_map (P := P) (t := t) hw
    have ef : ac.eval (.func f) = .func (.func f) #[] #[] := rfl
    simp [execOp, ho, resolve, hc, ha, ef, Deferred.ofValue, invoke, run_clone hf, vx, e]
  · rw [hfn_put _ _ hn]
    exact went_alloc r fr (ob := .map l0 clk) rfl rfl rfl rfl ⟨hB, l0, heap_alloc_self _ _, hes.le (Theta.le_add hi _)⟩
  · simp [Ev.conc, Theta.add_self]
def methOf (P : Program) (t : Nat) (name : String) : Option Nat :=
  match P.info? t with
  | some i => (match i.desc with
    | .pointer _ => (match i.methods.find? (·.name == name) with
      | some m => (match m.path.toList, m.func with
        | [], some (f, true) => some f
        | _, _ => none)
      | none => none)
    | _ => none)
  | none => none
def candsOf (P : Program) (name : String) : List (Nat × Nat) := (List.range P.types.size).filterMap fun t => (methOf P t name).map fun f => (t, f)
end
end Ev
namespace Ev
open Go
open Go.RowKit
noncomputable section
def lastN (l : List Nat) : (Nat → Bool) → Bool :=
  List.rec (motive := fun _ => (Nat → Bool) → Bool) (fun _ => false) (fun a l ih k => List.casesOn (motive := fun _ => Bool) l (k a) fun _ _ => ih k) l
theorem lastN_ok {k : Nat → Bool} : ∀ {l : List Nat}, lastN l k = true → ∃ a, l.getLast? = some a ∧ k a = true
  | [], h => (Bool.false_ne_true h).elim
  | [a], h => ⟨a, rfl, h⟩
  | _ :: b :: l, h => by
    have h : lastN (b :: l) k = true := h
    obtain ⟨a, h1, h2⟩ := lastN_ok h
    exact ⟨a, by simpa using h1, h2⟩
def Ents.byBorn (es : Ents) (st : Nat) : (AV → AV → Bool) → Bool :=
  Ents.rec (motive := fun _ => (AV → AV → Bool) → Bool) (fun _ => false) (fun key v b _ ih k => Bool.rec (motive := fun _ => Bool) (ih k) (k key v) (Nat.beq b st)) es
theorem byBorn_ok {st : Nat} {k : AV → AV → Bool} : ∀ {es : Ents}, es.byBorn st k = true → ∃ key v, k key v = true ∧ ∀ (θ : Theta) (l : List MapEntry), EntsRel θ es l →
    ∃ e, l.find? (fun e => e.born == st) = some e ∧ Ev.conc θ key = some e.key ∧ Ev.conc θ v = some e.val
  | .nil, h => (Bool.false_ne_true h).elim
  | .cons key v b es, h => by
    have h : Bool.rec (motive := fun _ => Bool) (es.byBorn st k) (k key v) (Nat.beq b st) = true := h
    cases hb : Nat.beq b st with
    | true =>
      rw [hb] at h
      refine ⟨key, v, h, fun θ l r => ?_⟩
      cases r with
      | @cons _ _ _ _ k' v' l' hk hv hl => exact ⟨⟨k', v', b⟩, by simp [Nat.eq_of_beq_eq_true hb], hk, hv⟩
    | false =>
      rw [hb] at h
      obtain ⟨key', v', hk', hr⟩ := byBorn_ok (es := es) h
      refine ⟨key', v', hk', fun θ l r => ?_⟩
      cases r with
      | cons hk hv hl =>
        obtain ⟨e, h1, h2⟩ := hr θ _ hl
        refine ⟨e, ?_, h2⟩
        have hne : b ≠ st := fun e0 => by rw [e0] at hb; simp at hb
        simp [hne, h1]
def entryE (H : Heap) (x : AV) (k : AV → Bool) : Bool :=
  x.ckPtr fun r o => ifB (Nat.beq o 0) (at_ H r fun bl => bl.ckIter fun m _ seen last => at_ H m fun bm => bm.ckMap fun es clk => ifB (Nat.beq clk last) (lastN seen fun st => es.byBorn st fun key v => k (.tup [key, v])))
theorem read_entry {P : Program} {env : List AV} {o : Oper} {x : Operand} {H : Heap} {k : AV → Bool} (ho : o.op = .entry x)
    (h : entryE H (ev P env x) k = true) : ∃ v, k v = true ∧ ReadSpec P env o H v := by
  unfold entryE at h
  obtain ⟨b, q, hx, h⟩ := ckPtr_iff.1 h
  obtain ⟨hq, h⟩ := ifB_iff.1 h
  obtain rfl : q = 0 := by simpa using hq
  obtain ⟨hb, h⟩ := at_iff.1 h
  obtain ⟨m, since, seen, last, hbl, h⟩ := ckIter_iff.1 h
  obtain ⟨hm, h⟩ := at_iff.1 h
  obtain ⟨es, clk, hml, h⟩ := ckMap'_iff.1 h
  obtain ⟨hc, h8⟩ := ifB_iff.1 h
  have hc : clk = last := by simpa using hc
  obtain ⟨st, hst, h9⟩ := lastN_ok h8
  obtain ⟨key, v, hk9, hr0⟩ := byBorn_ok h9
  refine ⟨_, hk9, fun θ ac w B r hO => ?_⟩
  have vx := hx ▸ hO.at (x := x) (by simp [ho, Op.operands])
  obtain ⟨l, hl, vx⟩ := vx.ptr
  have hr := r.at hl
  rw [hbl] at hr
  obtain ⟨_, h0, lm, hlm, hw⟩ := hr
  have hr2 := r.at hlm
  rw [hml] at hr2
  obtain ⟨_, l0, hw2, hes⟩ := hr2
  obtain ⟨e, he, hk', hv'⟩ := hr0 θ _ hes
  obtain ⟨l0⟩ := l0
  have he : l0.find? (fun e => e.born == st) = some e := he
  have had : l.addr 0 = ⟨l.blk, 0, none⟩ := by simp [Loc.addr, h0]
  refine ⟨.tuple #[e.key, e.val], ?_, .inr (by simp [Ev.conc, concs, hk', hv'])⟩
  have hrun : (Instr.entry (.pointer (some ⟨l.blk, 0, none⟩))).run P w = .ok (.tuple #[e.key, e.val]) w := by
    simp [Instr.entry, run_getObj_of hw (by simp), run_getObj_of hw2 (by simp), hst, he, hc]
  simp [execOp, ho, vx, had, hrun]
end
end Ev
namespace Ev
open Go
open Go.RowKit
noncomputable section
def joinP {α : Type} (J : α) (B : α → Bool) : Bool := B J
def getK : List AV → Nat → (AV → Bool) → Bool
  | [], _, k => hi (k .bad)
  | a :: _, 0, k => k a
  | _ :: l, t + 1, k => getK l t k
theorem getK_eq : ∀ (l : List AV) (t : Nat) (k : AV → Bool), getK l t k = k (l.getD t .bad)
  | [], _, _ => by simp [getK, hi_eq]
  | _ :: _, 0, _ => rfl
  | _ :: l, t + 1, k => by rw [getK, getK_eq l t k]; simp
def evK (P : Program) (env : List AV) (x : Operand) (k : AV → Bool) : Bool :=
  match x with
  | .tmp t => getK env t k
  | x => k (ev P env x)
theorem evK_eq (P : Program) (env : List AV) (x : Operand) (k : AV → Bool) : evK P env x k = k (ev P env x) := by
  cases x <;> first | exact getK_eq _ _ _ | rfl
def evsK (P : Program) (env : List AV) : List Operand → (List AV → Bool) → Bool
  | [], k => k []
  | x :: xs, k => evK P env x fun a => evsK P env xs fun l => k (a :: l)
theorem evsK_eq (P : Program) (env : List AV) : ∀ (xs : List Operand) (k : List AV → Bool), evsK P env xs k = k (xs.map (ev P env))
  | [], _ => rfl
  | x :: xs, k => by rw [evsK, evK_eq, evsK_eq P env xs]; rfl
def evpK (P : Program) (env : List AV) : List (Nat × Operand) → (List (Nat × AV) → Bool) → Bool
  | [], k => k []
  | x :: xs, k => evK P env x.2 fun a => evpK P env xs fun l => k ((x.1, a) :: l)
theorem evpK_eq (P : Program) (env : List AV) : ∀ (xs : List (Nat × Operand)) (k : List (Nat × AV) → Bool), evpK P env xs k = k (xs.map fun p => (p.1, ev P env p.2))
  | [], _ => rfl
  | x :: xs, k => by rw [evpK, evK_eq, evpK_eq P env xs]; rfl
def mkFunc2 (f : Fn) (a b : List AV) (k : AV → Bool) : Bool := iteS (fnOk f = true) (okAll a (okAll b (k (.fn f a b)))) false
def pureOp (P : Program) (env : List AV) (o : Oper) (k : AV → Bool) : Bool :=
  match o.op with
  | .move x => evK P env x k
  | .assign x => evK P env x k
  | .pick c a b => pickK (ev P env c) (ev P env a) (ev P env b) k
  | .build t parts => (match P.underlying t with
    | some (.struct fields) => iteS (infosOK P fields = true) (evpK P env parts.toList fun ps => buildE2 P t ps k) false
    | some (.array _ e) => iteS (P.cellsOf e = 0) false (evpK P env parts.toList fun ps => buildE2 P t ps k)
    | _ => false)
  | .nilCheck x => evK P env x fun a => nilK a (k a)
  | .binOp op t x y _ => binE P op t y (ev P env x) (ev P env y) k
  | .unOp op _ x => unE op (ev P env x) k
  | .convert s d x => evK P env x fun a => convE P s d a k
  | .makeInterface t x => (match P.underlying t with | some (.interface _) | none => false | some _ => evK P env x fun a => a.ckOk (k (.iface t a)))
  | .makeFunc f first cap => evsK P env first.toList fun a => evsK P env cap.toList fun b => mkFunc2 f a b k
  | .slice t x lo hi none => joinP k fun k => sliceE P t (ev P env x) (lo.map (ev P env)) (hi.map (ev P env)) k
  | .fieldAddr s x f => fieldAddrE P s (ev P env x) f k
  | .field t x f => fieldE P t (ev P env x) f k
  | .indexAddr t x i => indexAddrE P t (ev P env x) (ev P env i) k
  | .index t x i => indexE P t (ev P env x) (ev P env i) k
  | .extract x i => (ev P env x).ckTup fun l => nthK i l k
  | .typeAssert x _ t false => tyAsE P t (ev P env x) k
  | .call c => (match c.callee, c.args.toList, c.argTypes.toList with
    | .builtin .len, [x], t :: _ => joinP k fun k => lenE P t (ev P env x) k
    | .builtin .min, [x, y], _ => joinP k fun k => minE false (ev P env x) (ev P env y) k
    | .builtin .max, [x, y], _ => joinP k fun k => minE true (ev P env x) (ev P env y) k
    | _, _, _ => false)
  | _ => false
theorem args_of {α : Type} {a : Array α} {l : List α} (h : a.toList = l) : a = l.toArray := by rw [← h]
theorem head_of {α : Type} {a : Array α} {x : α} {l : List α} (h : a.toList = x :: l) : a[0]? = some x := by rw [args_of h]; simp
theorem pureOp_ok {P : Program} {env : List AV} {o : Oper} {k : AV → Bool} (h : pureOp P env o k = true) : ∃ v, k v = true ∧ PureSpec P env o v := by
  unfold pureOp at h
  simp only [evK_eq, evsK_eq, evpK_eq, iteS_eq, mkFunc2] at h
  split at h
  · exact pure_move (.inl ‹_›) h
  · exact pure_move (.inr ‹_›) h
  · exact pure_pick ‹_› h
  · rename_i t parts ho
    split at h
    · rename_i fields hu
      split at h
      · rename_i hi
        exact pure_build ho h (fun f hf => by rw [hu] at hf; injection hf with hf; injection hf with hf; rw [← hf]; exact hi) (fun n e hf => by rw [hu] at hf; injection hf with hf; cases hf)
      · cases h
    · rename_i n e hu
      split at h
      · cases h
      · rename_i hz
        exact pure_build ho h (fun f hf => by rw [hu] at hf; injection hf with hf; cases hf) (fun n' e' hf => by rw [hu] at hf; injection hf with hf; injection hf with _ hf; rw [← hf]; exact hz)
    · cases h
  · exact pure_nilCheck ‹_› h
  · exact pure_bin ‹_› h
  · exact pure_un ‹_› h
  · exact pure_conv ‹_› h
  · exact pure_iface ‹_› h
  · exact pure_makeFunc ‹_› h
  · exact pure_slice ‹_› h
  · exact pure_fieldAddr ‹_› h
  · exact pure_field ‹_› h
  · exact pure_indexAddr ‹_› h
  · exact pure_index ‹_› h
  · exact pure_extract ‹_› h
  · exact pure_tyAs ‹_› h
  · rename_i c ho
    split at h
    · rename_i x t ts hc ha ht
      exact pure_len ho hc (args_of ha) (head_of ht) h
    · rename_i x y hc ha
      exact pure_min (mx := false) ho hc (args_of ha) h
    · rename_i x y hc ha
      exact pure_min (mx := true) ho hc (args_of ha) h
    · cases h
  · cases h
def readOp (P : Program) (env : List AV) (o : Oper) (H : Heap) (k : AV → Bool) : Bool :=
  match o.op with
  | .load t a => loadE P t H (ev P env a) k
  | .lookup t x y ok => joinP k fun k => lookupE P t (ev P env x) (ev P env y) ok H k
  | .next x isS => nextE H (ev P env x) isS k
  | .entry x => entryE H (ev P env x) k
  | .binOp op t x y _ => ptrBinE P t op H (ev P env x) (ev P env y) k
  | .convert s d x => joinP k fun k => b2sE P s d H (ev P env x) k
  | .call c => (match c.callee, c.args.toList, c.argTypes.toList with
    | .builtin .len, [x], t :: _ => joinP k fun k => lenMapE P t (ev P env x) H k
    | _, _, _ => false)
  | _ => false
theorem readOp_ok {P : Program} {env : List AV} {o : Oper} {H : Heap} {k : AV → Bool} (h : readOp P env o H k = true) : ∃ v, k v = true ∧ ReadSpec P env o H v := by
  unfold readOp at h
  split at h
  · exact read_load ‹_› h
  · exact read_lookup ‹_› h
  · exact read_next ‹_› h
  · exact read_entry ‹_› h
  · exact read_ptrBin ‹_› h
  · exact read_b2s ‹_› h
  · rename_i c ho
    split at h
    · rename_i x t ts hc ha ht
      exact read_lenMap ho hc (args_of ha) (head_of ht) h
    · cases h
  · cases h
def allocOp (P : Program) (env : List AV) (o : Oper) (H : Heap) (id : Nat) (k : AV → Heap → Bool) : Bool :=
  match o.op with
  | .alloc t => allocE P t H id k
  | .box _ x => boxE (ev P env x) H id k
  | .buildSlice t len parts => evpK P env parts.toList fun ps => bsliceE2 P t len ps H id k
  | .makeMap _ none => mkmapE H id k
  | .makeMap t (some x) => (match P.underlying t with | some (.map _ _) => (ev P env x).ckInt fun _ _ => mkmapE H id k | _ => false)
  | .makeSlice t x y => mksliceE P t (ev P env x) (ev P env y) H id k
  | _ => false
theorem allocOp_ok {P : Program} {env : List AV} {o : Oper} {H : Heap} {id : Nat} {k : AV → Heap → Bool} (h : allocOp P env o H id k = true) :
    ∃ v b, id < 32768 ∧ k v (Tr.put 5 H id b) = true ∧ AllocSpec P env o id v b := by
  unfold allocOp at h
  simp only [evpK_eq] at h
  split at h
  · exact alloc_alloc ‹_› h
  · exact alloc_box ‹_› h
  · exact alloc_bslice ‹_› h
  · exact alloc_mkmap ‹_› h
  · rename_i t x ho
    split at h
    · exact alloc_mkmap' ho ‹_› h
    · cases h
  · exact alloc_mkslice ‹_› h
  · cases h
def heavyOp (P : Program) (env : List AV) (o : Oper) (H : Heap) (n : Nat) (k : AV → Heap → Nat → Bool) : Bool :=
  match o.op with
  | .store t a x => storeE P t H (ev P env a) (ev P env x) fun v H => k v H n
  | .mapUpdate t m x y => joinP k fun k => mapUpE P t H (ev P env m) (ev P env x) (ev P env y) fun v H => k v H n
  | .insert t m x y => joinP k fun k => mapUpE P t H (ev P env m) (ev P env x) (ev P env y) fun v H => k v H n
  | .range t x => rangeE P t H n (ev P env x) k
  | .mapEntry t m x => joinP k fun k => mapEntE P t H (ev P env m) (ev P env x) fun v H => k v H n
  | .entryStore _ m x y => entStE H (ev P env m) (ev P env x) (ev P env y) fun v H => k v H n
  | .call c => (match c.callee, c.args.toList, c.argTypes.toList with
    | .value (.func f), [x], _ => iteS (cloneFn P f = true) (cloneE H n (ev P env x) k) false
    | .builtin .delete, [m, x], t :: _ => joinP k fun k => delE P t H (ev P env m) (ev P env x) fun v H => k v H n
    | .builtin .append, [s, x], [t, tx] => joinP k fun k => appendE P t tx H n (ev P env s) (ev P env x) k
    | .builtin .copy, [d, x], t :: _ => joinP k fun k => copyE P t H (ev P env d) (ev P env x) fun v H => k v H n
    | .builtin .clear, [x], t :: _ => joinP k fun k => clearE P t H (ev P env x) fun v H => k v H n
    | _, _, _ => false)
  | _ => false
theorem heavyOp_ok {P : Program} {env : List AV} {o : Oper} {H : Heap} {n : Nat} {k : AV → Heap → Nat → Bool} (h : heavyOp P env o H n k = true) :
    ∃ v H' n', k v H' n' = true ∧ HeavySpec P env o H n v H' n' := by
  have two : (∃ v H', k v H' n = true ∧ HeavySpec P env o H n v H' n) → ∃ v H' n', k v H' n' = true ∧ HeavySpec P env o H n v H' n' := fun ⟨v, H', hk, hs⟩ => ⟨v, H', n, hk, hs⟩
  unfold heavyOp at h
  split at h
  · exact two (heavy_store (k := fun v H => k v H n) ‹_› h)
  · exact two (heavy_mapUp (k := fun v H => k v H n) (.inl ‹_›) h)
  · exact two (heavy_mapUp (k := fun v H => k v H n) (.inr ‹_›) h)
  · exact heavy_range ‹_› h
  · exact two (heavy_mapEnt (k := fun v H => k v H n) ‹_› h)
  · exact two (heavy_entSt (k := fun v H => k v H n) ‹_› h)
  · rename_i c ho
    split at h
    · rename_i f x hc ha
      rw [iteS_eq] at h
      split at h
      · rename_i hf
        exact heavy_clone ho hc (args_of ha) hf h
      · cases h
    · rename_i m x t ts hc ha ht
      exact two (heavy_del (k := fun v H => k v H n) ho hc (args_of ha) (head_of ht) h)
    · rename_i s x t tx hc ha ht
      exact heavy_append ho hc (args_of ha) (args_of ht) h
    · rename_i d x t ts hc ha ht
      exact two (heavy_copy (k := fun v H => k v H n) ho hc (args_of ha) (head_of ht) h)
    · rename_i x t ts hc ha ht
      exact two (heavy_clear (k := fun v H => k v H n) ho hc (args_of ha) (head_of ht) h)
    · cases h
  · cases h
def cls (P : Program) (o : Oper) : Nat :=
  match o.op with
  | .load .. | .lookup .. | .next .. | .entry .. => 1
  | .binOp _ t _ y _ => (match P.underlying t, y with
    | some (.pointer _), .const _ => 0
    | some (.pointer _), _ => 1
    | _, _ => 0)
  | .convert s d _ => (match P.underlying s, P.underlying d with
    | some (.slice _), some .string => 1
    | _, _ => 0)
  | .alloc .. | .box .. | .buildSlice .. | .makeMap .. | .makeSlice .. => 2
  | .store .. | .mapUpdate .. | .insert .. | .range .. | .mapEntry .. | .entryStore .. => 3
  | .call c => (match c.callee, c.argTypes.toList with
    | .builtin .len, t :: _ => (match P.underlying t with | some (.map ..) => 1 | _ => 0)
    | .builtin .min, _ | .builtin .max, _ => 0
    | .builtin _, _ => 3
    | .value (.func f), _ => cond (cloneFn P f) 3 4
    | _, _ => 4)
  | _ => 0
end
end Ev
namespace Ev
open Go
open Go.RowKit
noncomputable section
structure Loose (F : Fence) : Prop where
  fn : ∀ f, F.fn f
  depth : F.depth = none
  calls : ∀ n P f args w R, CallsIn Fence.wide n P f args w R → CallsIn F n P f args w R
theorem loose_wide : Loose Fence.wide := ⟨fun _ => trivial, rfl, fun _ _ _ _ _ _ h => h⟩
theorem loose_round (l : Nat) : Loose (Fence.wide.inRound l) := ⟨fun _ => trivial, rfl, fun _ _ _ _ _ _ h => h.inRound l⟩
inductive VRs (θ : Theta) : List AV → List Value → Prop where
  | nil : VRs θ [] []
  | cons {a : AV} {v : Value} {l : List AV} {vs : List Value} : VR θ a v → VRs θ l vs → VRs θ (a :: l) (v :: vs)
theorem VRs.of_concs {θ : Theta} : ∀ {l : List AV} {vs : List Value}, concs θ l = some vs → VRs θ l vs
  | [], vs, h => by simp [concs] at h; subst h; exact .nil
  | a :: l, vs, h => by
    obtain ⟨x, y, h1, h2, rfl⟩ := concs_cons.1 h
    exact .cons (.inr h1) (VRs.of_concs h2)
theorem VRs.append {θ : Theta} {l m : List AV} {vs us : List Value} (h : VRs θ l vs) (k : VRs θ m us) : VRs θ (l ++ m) (vs ++ us) := by
  induction h with
  | nil => exact k
  | cons h _ ih => exact .cons h ih
theorem VRs.length {θ : Theta} {l : List AV} {vs : List Value} (h : VRs θ l vs) : vs.length = l.length := by
  induction h with
  | nil => rfl
  | cons _ _ ih => simp [ih]
theorem VRs.get {θ : Theta} {l : List AV} {vs : List Value} (h : VRs θ l vs) : ∀ i, VR θ (l.getD i .bad) (vs.getD i undef) := by
  induction h with
  | nil => intro i; exact .inl (by simp)
  | cons h _ ih =>
    intro i
    cases i with
    | zero => exact h
    | succ i => simpa using ih i
theorem VRs.le {θ θ' : Theta} (k : θ.le θ') {l : List AV} {vs : List Value} (h : VRs θ l vs) : VRs θ' l vs := by
  induction h with
  | nil => exact .nil
  | cons h _ ih => exact .cons (h.le k) ih
theorem VRs.map {P : Program} {θ : Theta} {env : List AV} {ac : Act} : ∀ {xs : List Operand}, (∀ x ∈ xs, VR θ (ev P env x) (ac.eval x)) → VRs θ (xs.map (ev P env)) (xs.map ac.eval)
  | [], _ => .nil
  | x :: xs, h => .cons (h x (by simp)) (VRs.map fun y hy => h y (by simp [hy]))
abbrev Orac := Nat → List AV → Heap → Nat → (AV → Heap → Nat → Bool) → Bool
def Answers (P : Program) (f : Nat) (args : List AV) (H : Heap) (n : Nat) (v : AV) (H' : Heap) (n' : Nat) : Prop :=
  (∀ (vs : Array Value) (w : World), (callFunc f vs).run P w = .ok (.enter f vs) w) ∧
  ∀ (θ : Theta) (w : World) (B : Nat) (vs : List Value), HRel P θ (hfn H) B w → Fresh θ n → B ≤ w.heap.size → GlobOK P θ → VRs θ args vs → ∀ m,
    CallsIn Fence.wide m P f vs.toArray w (fun e w' => ∃ v' θ', e = .returned v' ∧ Went P θ (hfn H) n B w θ' (hfn H') n' w' ∧ VR θ' v v')
def CallSound (P : Program) (F : Orac) : Prop := ∀ f args H n k, F f args H n k = true → ∃ v H' n', k v H' n' = true ∧ Answers P f args H n v H' n'
def AnswersR (P : Program) (l : Nat) (args : List AV) (H : Heap) (n : Nat) (v : AV) (H' : Heap) (n' : Nat) : Prop :=
  ∀ (θ : Theta) (w : World) (B : Nat) (vs : List Value) (loc : Loc), HRel P θ (hfn H) B w → Fresh θ n → B ≤ w.heap.size → GlobOK P θ → VRs θ args vs → θ.blk l = some loc → ∀ m,
    ∃ fn tmps as bd, (Instr.yield loc.blk vs.toArray).run P w = .ok (.round loc.blk fn tmps as bd) w ∧
      RoundIn Fence.wide m P loc.blk fn tmps as bd w (fun e w' => ∃ v' θ', e = .returned v' ∧ Went P θ (hfn H) n B w θ' (hfn H') n' w' ∧ VR θ' v v')
def RoundSound (P : Program) (G : Orac) : Prop := ∀ l args H n k, G l args H n k = true → ∃ v H' n', k v H' n' = true ∧ AnswersR P l args H n v H' n'
structure LooseR (F : Fence) : Prop extends Loose F where
  rounds : ∀ n P l f tmps as bd w R, RoundIn Fence.wide n P l f tmps as bd w R → RoundIn F n P l f tmps as bd w R
theorem looseR_wide : LooseR Fence.wide := ⟨loose_wide, fun _ _ _ _ _ _ _ _ _ h => h⟩
theorem looseR_round (l : Nat) : LooseR (Fence.wide.inRound l) := ⟨loose_round l, fun _ _ _ _ _ _ _ _ _ h => h⟩
def OpGoes (P : Program) (env : List AV) (o : Oper) (H : Heap) (n : Nat) (v : AV) (H' : Heap) (n' : Nat) : Prop :=
  ∀ (F : Fence) (m : Nat) (θ : Theta) (ac : Act) (w : World) (B : Nat) (next : Act → World → Prop) (Q : Exit → Act → World → Prop), LooseR F →
    HRel P θ (hfn H) B w → Fresh θ n → B ≤ w.heap.size → GlobOK P θ → Opd P θ env o ac →
    (∀ v' w' θ', Went P θ (hfn H) n B w θ' (hfn H') n' w' → VR θ' v v' → next (ac.put o.dst v') w') → o.wpIn F m P ac w next Q
theorem semAt_of {F : Fence} {ρ : Operand → Value} {o : Oper} (h : ∀ c, o.op ≠ .defer c) : o.semAt F.round ρ = execOp ρ o := by
  cases F.round with
  | none => simp [Oper.semAt]
  | some l => exact Oper.semAt_some l _ _ h
theorem goes_of_yields {P : Program} {o : Oper} {ac : Act} {w w' : World} {v' : Value} (h : Yields P o ac w v' w') {F : Fence} {m : Nat} (hF : LooseR F) {next : Act → World → Prop} {Q : Exit → Act → World → Prop}
    (hn : next (ac.put o.dst v') w') : o.wpIn F m P ac w next Q := by
  refine ⟨fun f _ => hF.fn f, ?_⟩
  have hnd : ∀ c, o.op ≠ .defer c := by
    intro c hc
    rcases h with h | ⟨h, _⟩
    · simp only [execOp, hc, Sem.run_bind] at h
      cases hr : (resolve ac.eval c o.type).run P w with
      | ok d w1 => simp [hr] at h
      | halt x w1 => simp [hr, Result.andThen] at h
    · simp only [execOp, hc, Sem.run_bind] at h
      cases hr : (resolve ac.eval c o.type).run P w with
      | ok d w1 => simp [hr] at h
      | halt x w1 => simp [hr, Result.andThen] at h
  rw [semAt_of hnd]
  rcases h with h | ⟨h, rfl⟩
  · rw [h]; exact hn
  · rw [h]; exact hn
theorem goes_pure {P : Program} {env : List AV} {o : Oper} {v : AV} (h : PureSpec P env o v) (H : Heap) (n : Nat) : OpGoes P env o H n v H n := by
  intro F m θ ac w B next Q hF r f hB hg hO hn
  obtain ⟨v', h1, h2⟩ := h θ ac w hO
  exact goes_of_yields (.inl h1) hF (hn v' w θ (Went.refl r f) h2)
theorem goes_read {P : Program} {env : List AV} {o : Oper} {v : AV} {H : Heap} (h : ReadSpec P env o H v) (n : Nat) : OpGoes P env o H n v H n := by
  intro F m θ ac w B next Q hF r f hB hg hO hn
  obtain ⟨v', h1, h2⟩ := h θ ac w B r hO
  exact goes_of_yields (.inl h1) hF (hn v' w θ (Went.refl r f) h2)
theorem goes_alloc {P : Program} {env : List AV} {o : Oper} {v : AV} {H : Heap} {n : Nat} {b : Blk} (hn32 : n < 32768) (h : AllocSpec P env o n v b) : OpGoes P env o H n v (Tr.put 5 H n b) (n + 1) := by
  intro F m θ ac w B next Q hF r f hB hg hO hn
  obtain ⟨v', ob, sz, w', h1, h2, h3, h4, h5, h6, h7⟩ := h θ ac w B _ r (f n (Nat.le_refl _)) hB hO
  exact goes_of_yields (.inl h1) hF (hn v' w' _ (by rw [hfn_put _ _ hn32]; exact went_alloc r f h2 h3 h4 h5 h6) h7)
theorem goes_heavy {P : Program} {env : List AV} {o : Oper} {v : AV} {H H' : Heap} {n n' : Nat} (h : HeavySpec P env o H n v H' n') : OpGoes P env o H n v H' n' := by
  intro F m θ ac w B next Q hF r f hB hg hO hn
  obtain ⟨v', w', θ', h1, h2, h3⟩ := h θ ac w B r f hB hO
  exact goes_of_yields h1 hF (hn v' w' θ' h2 h3)
def callFn (F G : Orac) (g : Fn) (first cap args : List AV) (H : Heap) (n : Nat) (k : AV → Heap → Nat → Bool) : Bool :=
  Fn.rec (motive := fun _ => Bool) (fun f => F f (first ++ args ++ cap) H n k) (fun _ => false) (fun _ _ => false) (fun _ _ _ _ => false) (fun l => G l (first ++ args) H n k) g
def Upon (P : Program) (H : Heap) (n : Nat) (v : AV) (H' : Heap) (n' : Nat) (g : Fn) (first cap args : List AV) : Prop :=
  ∀ (F : Fence) (m : Nat) (θ : Theta) (ac : Act) (w : World) (B : Nat) (next : Act → World → Prop) (Q : Exit → Act → World → Prop) (o : Oper) (gv : Fn) (fs cs as : List Value), LooseR F →
    HRel P θ (hfn H) B w → Fresh θ n → B ≤ w.heap.size → GlobOK P θ → fnC θ g = some gv → concs θ first = some fs → concs θ cap = some cs → VRs θ args as →
    (∀ v' w' θ', Went P θ (hfn H) n B w θ' (hfn H') n' w' → VR θ' v v' → next (ac.put o.dst v') w') →
    o.uponIn F m P ac next Q ((invoke (.fn gv cs.toArray) (fs ++ as).toArray).run P w)
theorem callFn_ok {P : Program} {F G : Orac} (hF : CallSound P F) (hG : RoundSound P G) {g : Fn} {first cap args : List AV} {H : Heap} {n : Nat} {k : AV → Heap → Nat → Bool} (h : callFn F G g first cap args H n k = true) :
    ∃ v H' n', k v H' n' = true ∧ Upon P H n v H' n' g first cap args := by
  cases g with
  | func fi =>
    obtain ⟨v, H', n', hk, h1, h2⟩ := hF _ _ _ _ _ h
    refine ⟨v, H', n', hk, fun Fe m θ ac w B next Q o gv fs cs as hL r f hB hg hgv hfs hcs has hn => ?_⟩
    simp only [fnC, Option.some.injEq] at hgv
    subst hgv
    have hrun : (invoke (.fn (.func fi) cs.toArray) (fs ++ as).toArray).run P w = .ok (.enter fi (fs ++ as ++ cs).toArray) w := by
      have := h1 (fs ++ as ++ cs).toArray w
      simpa [invoke] using this
    rw [hrun, Oper.uponIn_enter]
    refine ⟨fun hd => by simp [hL.depth] at hd, CallsIn.mono (hL.calls _ _ _ _ _ _ (h2 θ w B _ r f hB hg ((VRs.append (VRs.append (VRs.of_concs hfs) has) (VRs.of_concs hcs))) (m - 1))) ?_⟩
    rintro e w' ⟨v', θ', rfl, hw, hv⟩
    exact hn v' w' θ' hw hv
  | yield l =>
    obtain ⟨v, H', n', hk, h2⟩ := hG _ _ _ _ _ h
    refine ⟨v, H', n', hk, fun Fe m θ ac w B next Q o gv fs cs as hL r f hB hg hgv hfs hcs has hn => ?_⟩
    simp only [fnC, Option.map_eq_some_iff] at hgv
    obtain ⟨loc, hl, rfl⟩ := hgv
    obtain ⟨fn, tmps, asn, bd, hy, hR⟩ := h2 θ w B _ loc r f hB hg (VRs.append (VRs.of_concs hfs) has) hl (m - 1)
    have hrun : (invoke (.fn (.yield loc.blk) cs.toArray) (fs ++ as).toArray).run P w = .ok (.round loc.blk fn tmps asn bd) w := by
      simpa [invoke] using hy
    rw [hrun, Oper.uponIn_round]
    refine ⟨fun hd => by simp [hL.depth] at hd, RoundIn.mono (hL.rounds _ _ _ _ _ _ _ _ _ hR) ?_⟩
    rintro e w' ⟨v', θ', rfl, hw, hv⟩
    exact hn v' w' θ' hw hv
  | _ => exact (Bool.false_ne_true h).elim
def invK (F : Orac) : List (Nat × Nat) → Nat → AV → List AV → Heap → Nat → (AV → Heap → Nat → Bool) → Bool
  | [], _, _, _, _, _, _ => false
  | (t', f) :: l, t, v, args, H, n, k => Bool.rec (invK F l t v args H n k) (F f (v :: args) H n k) (Nat.beq t t')
theorem invK_ok {F : Orac} : ∀ {l : List (Nat × Nat)} {t : Nat} {v : AV} {args : List AV} {H : Heap} {n : Nat} {k : AV → Heap → Nat → Bool}, invK F l t v args H n k = true → ∃ f, (t, f) ∈ l ∧ F f (v :: args) H n k = true
  | [], _, _, _, _, _, _, h => (Bool.false_ne_true h).elim
  | (t', f) :: l, t, v, args, H, n, k, h => by
    have h : (Bool.rec (motive := fun _ => Bool) (invK F l t v args H n k) (F f (v :: args) H n k) (Nat.beq t t')) = true := h
    cases hb : Nat.beq t t' with
    | true =>
      simp only [hb] at h
      exact ⟨f, by simp [Nat.eq_of_beq_eq_true hb], h⟩
    | false =>
      simp only [hb] at h
      obtain ⟨f', h1, h2⟩ := invK_ok h
      exact ⟨f', by simp [h1], h2⟩
theorem cands_meth {P : Program} {name : String} {t f : Nat} (h : (t, f) ∈ candsOf P name) : t < P.types.size ∧ methOf P t name = some f := by
  unfold candsOf at h
  obtain ⟨t', h1, h2⟩ := List.mem_filterMap.1 h
  obtain ⟨f', h3, h4⟩ := Option.map_eq_some_iff.1 h2
  injection h4 with h4 h5
  subst h4; subst h5
  exact ⟨List.mem_range.1 h1, h3⟩
theorem run_method {P : Program} {t f : Nat} {name : String} (h : methOf P t name = some f) (m : Nat) (v : Value) (w : World) : (method (m + 1) t v name).run P w = .ok (f, v) w := by
  unfold methOf at h
  split at h
  case h_2 => cases h
  rename_i i hi
  split at h
  case h_2 => cases h
  rename_i el hd
  split at h
  case h_2 => cases h
  rename_i mt hm
  split at h
  case h_2 => cases h
  rename_i f' hp hf
  injection h with h
  subst h
  have hu : P.underlying t = some (.pointer el) := by
    unfold Program.underlying
    rw [hi]
    cases i with
    | mk d => simp only at hd; subst hd; rfl
  simp [method, run_typeInfo _ hi, hm, hp, hf, follow, receiverAt, run_underlying hu, Place.get]
def callOp (P : Program) (F G : Orac) (env : List AV) (o : Oper) (H : Heap) (n : Nat) (k : AV → Heap → Nat → Bool) : Bool :=
  match o.op with
  | .call c => (match c.callee with
    | .value f => (ev P env f).ckFn fun g first cap => callFn F G g first cap (c.args.toList.map (ev P env)) H n k
    | .invoke x name => joinP k fun k => (ev P env x).ckIface fun t v => invK F (candsOf P name) t v (c.args.toList.map (ev P env)) H n k
    | _ => false)
  | _ => false
theorem callOp_ok {P : Program} {F G : Orac} (hF : CallSound P F) (hG : RoundSound P G) {env : List AV} {o : Oper} {H : Heap} {n : Nat} {k : AV → Heap → Nat → Bool} (h : callOp P F G env o H n k = true) :
    ∃ v H' n', k v H' n' = true ∧ OpGoes P env o H n v H' n' := by
  unfold callOp at h
  split at h
  · rename_i c ho
    split at h
    · rename_i fo hc
      obtain ⟨g, first, cap, hx, h⟩ := ckFn_iff.1 h
      obtain ⟨v, H', n', hk, hu⟩ := callFn_ok hF hG h
      refine ⟨v, H', n', hk, fun Fe m θ ac w B next Q hL r f hB hg hO hn => ?_⟩
      have vf := hO.at (x := fo) (by simp [ho, Op.operands, Call.operands, hc])
      rw [hx] at vf
      obtain ⟨fs, cs, gv, hgv, hfs, hcs, hv⟩ := vf.fn
      have hargs : VRs θ (c.args.toList.map (ev P env)) (c.args.toList.map ac.eval) := VRs.map fun x hx => hO.at (by simp only [ho, Op.operands, Call.operands, hc]; simp at hx ⊢; exact .inr hx)
      refine ⟨fun f _ => hL.fn f, ?_⟩
      rw [semAt_of (by intro c hc'; rw [ho] at hc'; cases hc')]
      have := hu Fe m θ ac w B next Q o gv fs cs _ hL r f hB hg hgv hfs hcs hargs hn
      have hrun : (execOp ac.eval o).run P w = (invoke (.fn gv cs.toArray) (fs ++ c.args.toList.map ac.eval).toArray).run P w := by
        simp only [execOp, ho, resolve, hc, hv, Deferred.ofValue, Sem.run_bind, Sem.run_pure, Result.andThen_ok]
        congr 2
        apply Array.ext'
        simp
      rw [hrun]
      exact this
    · rename_i x name hc
      unfold joinP at h
      obtain ⟨t, v, hx, h⟩ := ckIface_iff.1 h
      obtain ⟨f, hmem, h⟩ := invK_ok h
      obtain ⟨hlt, hmeth⟩ := cands_meth hmem
      obtain ⟨u, H', n', hk, h1, h2⟩ := hF _ _ _ _ _ h
      refine ⟨u, H', n', hk, fun Fe m θ ac w B next Q hL r fr hB hg hO hn => ?_⟩
      have vf := hO.at (x := x) (by simp [ho, Op.operands, Call.operands, hc])
      rw [hx] at vf
      obtain ⟨y, hy, vf⟩ := vf.iface
      have hargs : VRs θ (c.args.toList.map (ev P env)) (c.args.toList.map ac.eval) := VRs.map fun x hx => hO.at (by simp only [ho, Op.operands, Call.operands, hc]; simp at hx ⊢; exact .inr hx)
      refine ⟨fun f _ => hL.fn f, ?_⟩
      rw [semAt_of (by intro c hc'; rw [ho] at hc'; cases hc')]
      obtain ⟨fu, hfu⟩ : ∃ fu, P.types.size + Made.depth = fu + 1 := ⟨P.types.size + Made.depth - 1, by omega⟩
      have hrun : (execOp ac.eval o).run P w = .ok (.enter f (y :: c.args.toList.map ac.eval).toArray) w := by
        have h3 := h1 (y :: c.args.toList.map ac.eval).toArray w
        have h4 := run_method hmeth fu y w
        have e1 : (#[Value.iface t y] ++ c.args.map ac.eval)[0]? = some (.iface t y) := by
          rw [Array.getElem?_append_left (Nat.zero_lt_one)]
          rfl
        have e2 : #[y] ++ (#[Value.iface t y] ++ c.args.map ac.eval).extract 1 (#[Value.iface t y] ++ c.args.map ac.eval).size = (y :: c.args.toList.map ac.eval).toArray := by
          apply Array.ext'
          simp [List.take_of_length_le]
        simp only [execOp, ho, resolve, hc, vf, Sem.run_bind, Sem.run_pure, Result.andThen_ok, invoke, e1, callMethod, run_program, hfu, h4, e2, h3]
      rw [hrun, Oper.uponIn_enter]
      refine ⟨fun hd => by simp [hL.depth] at hd, CallsIn.mono (hL.calls _ _ _ _ _ _ (h2 θ w B _ r fr hB hg (.cons (.inr hy) hargs) (m - 1))) ?_⟩
      rintro e w' ⟨v', θ', rfl, hw, hv⟩
      exact hn v' w' θ' hw hv
    · cases h
  · cases h
def evOp (P : Program) (F G : Orac) (env : List AV) (o : Oper) (H : Heap) (n : Nat) (k : AV → Heap → Nat → Bool) : Bool :=
  sel (cls P o) (pureOp P env o fun v => k v H n) (readOp P env o H fun v => k v H n) (allocOp P env o H n fun v H => forceN (Nat.succ n) fun n' => k v H n') (heavyOp P env o H n k) (callOp P F G env o H n k)
theorem evOp_ok {P : Program} {F G : Orac} (hF : CallSound P F) (hG : RoundSound P G) {env : List AV} {o : Oper} {H : Heap} {n : Nat} {k : AV → Heap → Nat → Bool} (h : evOp P F G env o H n k = true) :
    ∃ v H' n', k v H' n' = true ∧ OpGoes P env o H n v H' n' := by
  unfold evOp at h
  rw [sel_eq] at h
  split at h
  · obtain ⟨v, hk, hs⟩ := pureOp_ok h
    exact ⟨v, H, n, hk, goes_pure hs H n⟩
  · obtain ⟨v, hk, hs⟩ := readOp_ok h
    exact ⟨v, H, n, hk, goes_read hs n⟩
  · obtain ⟨v, b, hn, hk, hs⟩ := allocOp_ok h
    rw [forceN_eq] at hk
    exact ⟨v, _, _, hk, goes_alloc hn hs⟩
  · obtain ⟨v, H', n', hk, hs⟩ := heavyOp_ok h
    exact ⟨v, H', n', hk, goes_heavy hs⟩
  · exact callOp_ok hF hG h
end
end Ev
