/- A part of the proof that GcNone returns true: text Ev19. -/
import Derived.Test.YtiegdojchlmfnaaGreatDoorEv18
namespace Ev
open Go
open Go.RowKit
noncomputable section

theorem run_setObj_map {P : Program} {w : World} {r : Nat} {es : Array MapEntry} {clock : Nat} (o : Obj) (hb : w.heap[r]? = some (.map es clock)) : (setObj r o).run P w = .ok () { w with heap := w.heap.setIfInBounds r o } := by
  simp [setObj, Sem.run, hb]

/-! ### clear -/

def clearE (P : Program) (t : Nat) (H : Heap) (x : AV) (k : AV → Heap → Bool) : Bool :=
  match P.underlying t with
  | some (.slice e) => (match zeroA P e with
    | some z => x.ckSl (k (.tup []) H) (fun b o len _ => Bool.rec (writeK H b o (repL z len) fun H => k (.tup []) H) (k (.tup []) H) (Nat.beq len 0)) (fun _ _ _ _ => k (.tup []) H)
    | none => false)
  | some (.map _ _) => x.ckMap (k (.tup []) H) fun b => at_ H b fun bl => bl.ckMap fun _ clk => hput H b (.map .nil clk) fun H => k (.tup []) H
  | _ => false

/-- An own map that is turned. -/
theorem went_map {P : Program} {θ : Theta} {h : Nat → Blk} {n B : Nat} {w : World} (r : HRel P θ h B w) (f : Fresh θ n) {b : Nat} {loc : Loc} (hl : θ.blk b = some loc) {es es' : Ents} {clk clk' : Nat}
    (hb : h b = .map es clk) {l : Array MapEntry} (hes : EntsRel θ es' l.toList) {w' : World} (hw' : w' = { w with heap := w.heap.setIfInBounds loc.blk (.map l clk') }) :
    Went P θ h n B w θ (setB h b (.map es' clk')) n w' := by
  have hr := r.at hl
  rw [hb] at hr
  obtain ⟨hB, l0, hw, _⟩ := hr
  have hob : (h b).own = true := by rw [hb]; rfl
  have hlt := lt_of_heap hw
  have hother : ∀ k, k < w.heap.size → k ≠ loc.blk → w'.heap[k]? = w.heap[k]? := fun k _ hk => by rw [hw']; simp [Array.getElem?_setIfInBounds, Ne.symm hk]
  have hs : w.heap.size ≤ w'.heap.size := by rw [hw']; simp
  refine ⟨Theta.le_refl _, Nat.le_refl _, fun _ _ => rfl, ?_, f, Frm.turn hob hl (by rw [hw']) (by rw [hw']) (by rw [hw']) hs hother, Grows.turn w hob hl _⟩
  exact r.turn (own_ne hob) hl hs hother _ ⟨hB, l, by rw [hw']; simp [hlt], hes⟩

theorem heavy_clear {P : Program} {env : List AV} {o : Oper} {c : Call} {t : Nat} {x : Operand} {H : Heap} {n : Nat} {k : AV → Heap → Bool} (ho : o.op = .call c) (hc : c.callee = .builtin .clear) (ha : c.args = #[x]) (ht : c.argTypes[0]? = some t)
    (h : clearE P t H (ev P env x) k = true) : ∃ v H', k v H' = true ∧ HeavySpec P env o H n v H' n := by
  have hox : x ∈ o.op.operands := by simp [ho, Op.operands, Call.operands, hc, ha]
  have run : ∀ (ac : Act) (w w' : World) (v : Value), (Builtin.clear_ c.argTypes o.type #[ac.eval x]).run P w = .ok v w' → (execOp ac.eval o).run P w = .ok (.value v) w' := by
    intro ac w w' v hr
    simp [execOp, ho, resolve, hc, ha, invoke, builtin, hr]
  have hnil : ∀ θ, VR θ (.tup []) (.tuple #[]) := fun θ => .inr rfl
  unfold clearE at h
  split at h
  · rename_i e hu
    split at h
    · rename_i z hz
      have zero : k (.tup []) H = true → (∀ θ ac, Opd P θ env o ac → SlV (ac.eval x) 0) → ∃ v H', k v H' = true ∧ HeavySpec P env o H n v H' n := by
        intro hk hz
        refine ⟨_, _, hk, fun θ ac w B r f hB hO => ⟨.tuple #[], w, θ, .inl (run ac w w _ ?_), Went.refl r f, hnil θ⟩⟩
        rcases hz θ ac hO with ⟨_, e⟩ | ⟨a, cp, e⟩ <;> simp [Builtin.clear_, ht, e, run_underlying hu]
      rcases ckSl_iff.1 h with ⟨hx, h⟩ | ⟨b, q, len, cap, hx, h⟩ | ⟨b, q, lo, es, hx, h⟩
      · exact zero h fun θ ac hO => (hx ▸ hO.at hox).nils_form
      · cases hl : Nat.beq len 0 with
        | true =>
          simp only [hl] at h
          obtain rfl : len = 0 := by simpa using hl
          exact zero h fun θ ac hO => (hx ▸ hO.at hox).sl_form
        | false =>
          simp only [hl] at h
          have hl0 : len ≠ 0 := by intro e; rw [e] at hl; simp at hl
          obtain ⟨bl, hb, h, h1, _, hq⟩ := writeK_ok h
          refine ⟨_, _, h, fun θ ac w B r f hB hO => ?_⟩
          have vx := hx ▸ hO.at hox
          obtain ⟨lx, hlx, vx⟩ := vx.sl
          obtain ⟨i, zv, hi, hzero, hsz, hzc⟩ := zeroA_info hz
          obtain ⟨zvs, hzvs, hcells⟩ := hzc θ
          obtain ⟨hst, hw⟩ := hq P θ n B w _ lx r f hlx (repL_conc hzvs len)
          refine ⟨.tuple #[], _, θ, .inl (run ac w _ _ ?_), hw, hnil θ⟩
          have hrow : (Builtin.zeroCells zv.cells len).toList = (List.replicate len zvs).flatten := by
            simp only [Builtin.zeroCells, hcells]
            by_cases hv : zvs = []
            · subst hv; simp
            · have := range_mod zvs len hv
              simpa using this
          obtain ⟨m, rfl⟩ : ∃ m, len = m + 1 := ⟨len - 1, by omega⟩
          simp only [Builtin.clear_, ht, vx, List.getElem?_toArray, List.getElem?_cons_zero, Sem.run_bind, run_underlying hu, Result.andThen_ok, zeroValue, typeInfo, hi, hzero, run_program, Sem.run_pure, hrow, hst]
      · exact zero h fun θ ac hO => (hx ▸ hO.at hox).sle_form
    · cases h
  · rename_i kt e hu
    rcases ckMap_iff.1 h with ⟨hx, h⟩ | ⟨b, hx, h⟩
    · refine ⟨_, _, h, fun θ ac w B r f hB hO => ⟨.tuple #[], w, θ, .inl (run ac w w _ ?_), Went.refl r f, hnil θ⟩⟩
      have vx := hx ▸ hO.at hox
      simp [Builtin.clear_, ht, vx.nilm, run_underlying hu]
    · obtain ⟨hb, h⟩ := at_iff.1 h
      obtain ⟨es, clk, hbl, h⟩ := ckMap'_iff.1 h
      rw [hput_eq] at h
      refine ⟨_, _, h, fun θ ac w B r f hB hO => ?_⟩
      have vx := hx ▸ hO.at hox
      obtain ⟨l, hl, vx⟩ := vx.map
      have hr := r.at hl
      rw [hbl] at hr
      obtain ⟨_, es', hw, hes⟩ := hr
      refine ⟨.tuple #[], { w with heap := w.heap.setIfInBounds l.blk (.map #[] clk) }, θ, .inl (run ac w _ _ ?_), by
        rw [hfn_put _ _ hb]
        exact went_map r f hl hbl (es' := .nil) (l := #[]) (clk' := clk) .nil rfl, hnil θ⟩
      · simp [Builtin.clear_, ht, vx, run_underlying hu, run_getObj_of hw (by simp), run_setObj_map _ hw]
  · cases h

/-! ### A map's entry is laid -/

def Ents.upd (es : Ents) (key val : AV) (clk : Nat) (k : Bool → Ents → Bool) : Bool :=
  Ents.rec (motive := fun _ => (Bool → Ents → Bool) → Bool) (fun k => k false (.cons key val clk .nil)) (fun k' v' b l ih k => keyEq key k' (k true (.cons key val b l)) (ih fun f l' => k f (.cons k' v' b l'))) es k

theorem Ents.upd_ok {d : TypeDesc} {key val : AV} {clk : Nat} (hd : KeyOk d key) : ∀ {es : Ents} {k : Bool → Ents → Bool}, es.upd key val clk k = true →
    ∃ f es', k f es' = true ∧ ∀ θ kv vv l i, Ev.conc θ key = some kv → Ev.conc θ val = some vv → EntsRel θ es l →
      (f = false ∧ Instr.findNow d kv l i = some none ∧ EntsRel θ es' (l ++ [⟨kv, vv, clk⟩])) ∨
      (f = true ∧ ∃ j e, Instr.findNow d kv l i = some (some (i + j, e.val)) ∧ l[j]? = some e ∧ e.key = kv ∧ EntsRel θ es' (l.set j { e with key := kv, val := vv }))
  | .nil, k, h => ⟨false, _, h, fun θ kv vv l i hk hv hl => by
      cases hl
      exact .inl ⟨rfl, rfl, .cons hk hv .nil⟩⟩
  | .cons k' v' b es, k, h => by
    have h : keyEq key k' (k true (.cons key val b es)) (es.upd key val clk fun f l' => k f (.cons k' v' b l')) = true := h
    rcases keyEq_ok hd h with ⟨hy, hq⟩ | ⟨hn, hq⟩
    · refine ⟨true, _, hy, fun θ kv vv l i hk hv hl => ?_⟩
      cases hl with
      | cons hk' hv' hl =>
        obtain ⟨h1, h2⟩ := hq θ _ _ hk hk'
        subst h2
        exact .inr ⟨rfl, 0, _, by simp [Instr.findNow, h1], rfl, rfl, .cons hk hv hl⟩
    · obtain ⟨f, es', hk2, hr⟩ := Ents.upd_ok hd hn
      refine ⟨f, _, hk2, fun θ kv vv l i hk hv hl => ?_⟩
      cases hl with
      | cons hk' hv' hl =>
        have h1 := hq θ _ _ hk hk'
        rcases hr θ kv vv _ (i + 1) hk hv hl with ⟨hf, h2, h3⟩ | ⟨hf, j, e, h2, h3, h4, h5⟩
        · exact .inl ⟨hf, by simp [Instr.findNow, h1, h2], .cons hk' hv' h3⟩
        · exact .inr ⟨hf, j + 1, e, by simp only [Instr.findNow, h1, h2]; congr 3; omega, by simpa using h3, h4, .cons hk' hv' h5⟩

def mapUpE (P : Program) (t : Nat) (H : Heap) (m key val : AV) (k : AV → Heap → Bool) : Bool :=
  match P.underlying t with
  | some (.map kt _) => (match P.underlying kt with
    | some d => keyOk d key (val.ckOk (m.ckMap false fun b => at_ H b fun bl => bl.ckMap fun es clk => es.upd key val clk fun f es' =>
        Bool.rec (forceN (Nat.succ clk) fun c => hput H b (.map es' c) fun H => k .bad H) (hput H b (.map es' clk) fun H => k .bad H) f))
    | none => false)
  | _ => false

theorem sameBits_self {d : TypeDesc} {a : AV} (hd : KeyOk d a) {θ : Theta} {v : Value} (h : Ev.conc θ a = some v) : Instr.sameBits 10000 v v = true := by
  rcases hd with ⟨_, k, n, rfl⟩ | ⟨_, n, c, rfl⟩
  · simp only [Ev.conc, Option.some.injEq] at h
    subst h
    show (k == k && n == n) = true
    simp
  · simp only [Ev.conc, Option.some.injEq] at h
    subst h
    show ((bytesOf n c).toArray == (bytesOf n c).toArray) = true
    simp

theorem heavy_mapUp {P : Program} {env : List AV} {o : Oper} {t : Nat} {m x y : Operand} {H : Heap} {n : Nat} {k : AV → Heap → Bool} (ho : o.op = .mapUpdate t m x y ∨ o.op = .insert t m x y)
    (h : mapUpE P t H (ev P env m) (ev P env x) (ev P env y) k = true) : ∃ v H', k v H' = true ∧ HeavySpec P env o H n v H' n := by
  have hops : o.op.operands = #[m, x, y] := by rcases ho with e | e <;> rw [e] <;> rfl
  have run : ∀ (ac : Act) (w w' : World), (Instr.mapUpdate t (ac.eval m) (ac.eval x) (ac.eval y)).run P w = .ok () w' → (execOp ac.eval o).run P w = .ok .skip w' := by
    intro ac w w' hr
    rcases ho with e | e <;> simp [execOp, e, hr]
  unfold mapUpE at h
  split at h
  · rename_i kt e hu
    split at h
    · rename_i d hd
      obtain ⟨hK, h⟩ := keyOk_iff h
      have hkb : ev P env x ≠ .bad := by rcases hK with ⟨_, _, _, e⟩ | ⟨_, _, _, e⟩ <;> rw [e] <;> simp
      obtain ⟨hvb, h⟩ := ckOk_iff.1 h
      rcases ckMap_iff.1 h with ⟨_, h⟩ | ⟨b, hx, h⟩
      · cases h
      · obtain ⟨hb, h⟩ := at_iff.1 h
        obtain ⟨es, clk, hbl, h⟩ := ckMap'_iff.1 h
        obtain ⟨f, es', h, hq⟩ := Ents.upd_ok hK h
        -- what the run does
        have main : ∀ (θ : Theta) (ac : Act) (w : World) (B : Nat), HRel P θ (hfn H) B w → Fresh θ n → Opd P θ env o ac → ∃ w', (Instr.mapUpdate t (ac.eval m) (ac.eval x) (ac.eval y)).run P w = .ok () w' ∧
            Went P θ (hfn H) n B w θ (setB (hfn H) b (.map es' (if f then clk else clk + 1))) n w' := by
          intro θ ac w B r fr hO
          have vm := hO.at (x := m) (by simp [hops])
          have vx := (hO.at (x := x) (by simp [hops])).conc hkb
          have vy := (hO.at (x := y) (by simp [hops])).conc hvb
          rw [hx] at vm
          obtain ⟨l, hl, vm⟩ := vm.map
          have hr := r.at hl
          rw [hbl] at hr
          obtain ⟨_, l0, hw, hes⟩ := hr
          rcases hq θ _ _ _ 0 vx vy hes with ⟨rfl, h2, h3⟩ | ⟨rfl, j, e, h2, h3, h4, h5⟩
          · refine ⟨_, ?_, went_map r fr hl hbl (es' := es') (clk' := clk + 1) (l := l0.push ⟨ac.eval x, ac.eval y, clk⟩) (by simpa using h3) rfl⟩
            simp [Instr.mapUpdate, run_underlying hu, vm, run_getObj_of hw (by simp), run_checkKey hd hK vx, run_findKey hd h2, run_setObj_map _ hw]
          · rw [Nat.zero_add] at h2
            have hget : l0[j]? = some e := by simpa using h3
            have hlt : j < l0.size := by
              rcases Nat.lt_or_ge j l0.size with h | h
              · exact h
              · simp [Array.getElem?_eq_none h] at hget
            have hel : l0[j] = e := by simpa [Array.getElem?_eq_getElem hlt] using hget
            have hmod : l0.modify j (fun e => { e with key := ac.eval x, val := ac.eval y }) = (l0.toList.set j { e with key := ac.eval x, val := ac.eval y }).toArray := by
              apply Array.ext'
              apply List.ext_getElem?
              intro i
              simp only [Array.getElem?_toList, Array.getElem?_modify, List.getElem?_set]
              by_cases hij : j = i
              · subst hij
                simp [hlt, hel]
              · simp [hij]
            refine ⟨_, ?_, went_map r fr hl hbl (es' := es') (clk' := clk) (l := (l0.toList.set j { e with key := ac.eval x, val := ac.eval y }).toArray) (by simpa using h5) rfl⟩
            have hsb := sameBits_self hK vx
            simp [Instr.mapUpdate, run_underlying hu, vm, run_getObj_of hw (by simp), run_checkKey hd hK vx, run_findKey hd h2, hget, h4, Instr.keyThatStays, hsb, hmod, run_setObj_map _ hw]
        cases f with
        | false =>
          simp only [forceN_eq, hput_eq] at h
          refine ⟨_, _, h, fun θ ac w B r fr hB hO => ?_⟩
          obtain ⟨w', hr, hw⟩ := main θ ac w B r fr hO
          exact ⟨undef, w', θ, .inr ⟨run ac w w' hr, rfl⟩, by rw [hfn_put _ _ hb]; exact hw, .inl rfl⟩
        | true =>
          simp only [hput_eq] at h
          refine ⟨_, _, h, fun θ ac w B r fr hB hO => ?_⟩
          obtain ⟨w', hr, hw⟩ := main θ ac w B r fr hO
          exact ⟨undef, w', θ, .inr ⟨run ac w w' hr, rfl⟩, by rw [hfn_put _ _ hb]; exact hw, .inl rfl⟩
    · cases h
  · cases h

/-! ### range over a map -/

def rangeE (P : Program) (t : Nat) (H : Heap) (n : Nat) (x : AV) (k : AV → Heap → Nat → Bool) : Bool :=
  match P.underlying t with
  | some (.map _ _) => x.ckMap false fun m => at_ H m fun bl => bl.ckMap fun _ clk => ifB (Nat.blt n 32768) (hput H n (.miter m clk [] clk) fun H => forceN (Nat.succ n) fun n' => k (.ptr n 0) H n')
  | _ => false

theorem heavy_range {P : Program} {env : List AV} {o : Oper} {t : Nat} {x : Operand} {H : Heap} {n : Nat} {k : AV → Heap → Nat → Bool} (ho : o.op = .range t x)
    (h : rangeE P t H n (ev P env x) k = true) : ∃ v H' n', k v H' n' = true ∧ HeavySpec P env o H n v H' n' := by
  unfold rangeE at h
  split at h
  · rename_i kt e hu
    rcases ckMap_iff.1 h with ⟨_, h⟩ | ⟨b, hx, h⟩
    · cases h
    · obtain ⟨hb, h⟩ := at_iff.1 h
      obtain ⟨es, clk, hbl, h⟩ := ckMap'_iff.1 h
      obtain ⟨hn, h⟩ := ifB_iff.1 h
      have hn : n < 32768 := by simpa [blt_eq] using hn
      rw [hput_eq, forceN_eq] at h
      refine ⟨_, _, _, h, fun θ ac w B r f hB hO => ?_⟩
      have vx := hx ▸ hO.at (x := x) (by simp [ho, Op.operands])
      obtain ⟨l, hl, vx⟩ := vx.map
      have hr := r.at hl
      rw [hbl] at hr
      obtain ⟨_, l0, hw, hes⟩ := hr
      have hi := f n (Nat.le_refl _)
      refine ⟨.pointer (some ⟨w.heap.size, 0, none⟩), w.alloc (.mapIter (some l.blk) clk #[] clk), θ.add n ⟨w.heap.size, 0, 0⟩, .inl ?_, ?_, .inr ?_⟩
      · simp [execOp, ho, Instr.range, run_underlying hu, vx, run_getObj_of hw (by simp)]
        try rfl
      · rw [hfn_put _ _ hn]
        exact went_alloc r f (ob := .mapIter (some l.blk) clk #[] clk) rfl rfl rfl rfl ⟨hB, rfl, l, (Theta.le_add hi _).1 _ _ hl, heap_alloc_self _ _⟩
      · simp [Ev.conc, Theta.add_self, Loc.addr]
  · cases h

/-- The next entry: of a map that holds none. -/
def nextE (H : Heap) (x : AV) (isS : Bool) (k : AV → Bool) : Bool :=
  match isS with
  | true => false
  | false => x.ckPtr fun r o => ifB (Nat.beq o 0) (at_ H r fun bl => bl.ckIter fun m _ _ _ => at_ H m fun bm => bm.ckMap fun es _ => Ents.casesOn (motive := fun _ => Bool) es (k (.tup [.bool false])) (fun _ _ _ _ => false))

theorem read_next {P : Program} {env : List AV} {o : Oper} {isS : Bool} {x : Operand} {H : Heap} {k : AV → Bool} (ho : o.op = .next x isS)
    (h : nextE H (ev P env x) isS k = true) : ∃ v, k v = true ∧ ReadSpec P env o H v := by
  unfold nextE at h
  split at h
  · cases h
  · obtain ⟨b, q, hx, h⟩ := ckPtr_iff.1 h
    obtain ⟨hq, h⟩ := ifB_iff.1 h
    obtain rfl : q = 0 := by simpa using hq
    obtain ⟨hb, h⟩ := at_iff.1 h
    obtain ⟨m, since, seen, last, hbl, h⟩ := ckIter_iff.1 h
    obtain ⟨hm, h⟩ := at_iff.1 h
    obtain ⟨es, clk, hml, h⟩ := ckMap'_iff.1 h
    cases es with
    | cons a b c d => exact (Bool.false_ne_true h).elim
    | nil =>
      refine ⟨_, h, fun θ ac w B r hO => ⟨.tuple #[.bool false], ?_, .inr (by simp [Ev.conc, concs])⟩⟩
      have vx := hx ▸ hO.at (x := x) (by simp [ho, Op.operands])
      obtain ⟨l, hl, vx⟩ := vx.ptr
      have hr := r.at hl
      rw [hbl] at hr
      obtain ⟨_, h0, lm, hlm, hw⟩ := hr
      have hr2 := r.at hlm
      rw [hml] at hr2
      obtain ⟨_, l0, hw2, hes⟩ := hr2
      have : l0 = #[] := by
        cases hl0 : l0.toList with
        | nil => simpa using hl0
        | cons a b => rw [hl0] at hes; cases hes
      subst this
      have had : l.addr 0 = ⟨l.blk, 0, none⟩ := by simp [Loc.addr, h0]
      simp [execOp, ho, vx, had, Instr.next, run_getObj_of hw (by simp), run_getObj_of hw2 (by simp), Question.forced]

end
end Ev
