/- A part of the proof that NetNone returns true: text EvI. -/
import Derived.Test.YtcmahgfncipfiaaGreatDoorEvH
namespace Ev
open Go
open Go.RowKit
noncomputable section

/-! ### A range over a map, whatever order is drawn -/

def memL (x : Nat) (l : List Nat) : Bool := List.rec (motive := fun _ => Bool) false (fun a _ ih => Bool.rec (motive := fun _ => Bool) ih true (Nat.beq a x)) l

theorem memL_iff {x : Nat} : ∀ {l : List Nat}, memL x l = true ↔ x ∈ l
  | [] => ⟨fun h => (Bool.false_ne_true h).elim, fun h => by simp at h⟩
  | a :: l => by
    have e : memL x (a :: l) = Bool.rec (motive := fun _ => Bool) (memL x l) true (Nat.beq a x) := rfl
    rw [e]
    cases hb : Nat.beq a x with
    | true =>
      have := Nat.eq_of_beq_eq_true hb
      subst this
      simp
    | false =>
      have hne : a ≠ x := fun h => by rw [h] at hb; simp at hb
      simp only [List.mem_cons, Ne.symm hne, false_or]
      exact memL_iff

/-- Each entry that has not been met. -/
def Ents.cand (es : Ents) (seen : List Nat) (yes : AV → AV → Nat → Bool) : Bool :=
  Ents.rec (motive := fun _ => Bool) true (fun k v b _ ih => Bool.rec (motive := fun _ => Bool) (Bool.rec (motive := fun _ => Bool) false ih (yes k v b)) ih (memL b seen)) es

theorem cand_ok {θ : Theta} {seen : List Nat} {yes : AV → AV → Nat → Bool} {es : Ents} {l : List MapEntry} (r : EntsRel θ es l) : es.cand seen yes = true → ∀ e ∈ l, e.born ∉ seen →
    ∃ k v, Ev.conc θ k = some e.key ∧ Ev.conc θ v = some e.val ∧ yes k v e.born = true := by
  induction r with
  | nil => intro _ e he; simp at he
  | @cons k v n l k' v' l' hk hv hl ih =>
    intro h e he hs
    have h : Bool.rec (motive := fun _ => Bool) (Bool.rec (motive := fun _ => Bool) false (l.cand seen yes) (yes k v n)) (l.cand seen yes) (memL n seen) = true := h
    have rest : l.cand seen yes = true := by
      cases hm : memL n seen with
      | true => rw [hm] at h; exact h
      | false =>
        rw [hm] at h
        have h : Bool.rec (motive := fun _ => Bool) false (l.cand seen yes) (yes k v n) = true := h
        cases hy : yes k v n with
        | true => rw [hy] at h; exact h
        | false => rw [hy] at h; exact (Bool.false_ne_true h).elim
    rcases List.mem_cons.1 he with rfl | he
    · have hm : memL n seen = false := by
        cases hm : memL n seen with
        | false => rfl
        | true => exact absurd (memL_iff.1 hm) hs
      rw [hm] at h
      have h : Bool.rec (motive := fun _ => Bool) false (l.cand seen yes) (yes k v n) = true := h
      cases hy : yes k v n with
      | true => exact ⟨k, v, hk, hv, hy⟩
      | false => rw [hy] at h; exact (Bool.false_ne_true h).elim
    · exact ih rest e he hs

def Ents.met (es : Ents) (seen : List Nat) : Bool := Ents.rec (motive := fun _ => Bool) true (fun _ _ b _ ih => Bool.rec (motive := fun _ => Bool) false ih (memL b seen)) es

theorem met_iff {θ : Theta} {seen : List Nat} {es : Ents} {l : List MapEntry} (r : EntsRel θ es l) : es.met seen = true ↔ ∀ e ∈ l, e.born ∈ seen := by
  induction r with
  | nil => exact ⟨fun _ e he => by simp at he, fun _ => rfl⟩
  | @cons k v n l k' v' l' hk hv hl ih =>
    have e : (Ents.cons k v n l).met seen = Bool.rec (motive := fun _ => Bool) false (l.met seen) (memL n seen) := rfl
    rw [e]
    cases hm : memL n seen with
    | true =>
      have := memL_iff.1 hm
      simp only [List.forall_mem_cons, this, true_and]
      exact ih
    | false =>
      have : n ∉ seen := fun hn => by rw [memL_iff.2 hn] at hm; cases hm
      exact ⟨fun h => (Bool.false_ne_true h).elim, fun h => absurd (h _ (List.mem_cons_self)) this⟩

def Ents.older (es : Ents) (s : Nat) : Bool := Ents.rec (motive := fun _ => Bool) true (fun _ _ b _ ih => Bool.rec (motive := fun _ => Bool) false ih (Nat.blt b s)) es

theorem older_ok {θ : Theta} {s : Nat} {es : Ents} {l : List MapEntry} (r : EntsRel θ es l) : es.older s = true → ∀ e ∈ l, e.born < s := by
  induction r with
  | nil => intro _ e he; simp at he
  | @cons k v n l k' v' l' hk hv hl ih =>
    intro h e he
    have h : Bool.rec (motive := fun _ => Bool) false (l.older s) (Nat.blt n s) = true := h
    cases hb : Nat.blt n s with
    | false => rw [hb] at h; exact (Bool.false_ne_true h).elim
    | true =>
      rw [hb] at h
      rcases List.mem_cons.1 he with rfl | he
      · rwa [Nat.blt_eq] at hb
      · exact ih h e he

/-- The next entry, whichever it is. -/
def nextD (H : Heap) (x : AV) (k : AV → Heap → Bool) : Bool :=
  x.ckPtr fun r o => ifB (Nat.beq o 0) (at_ H r fun bl => bl.ckIter fun m since seen last => at_ H m fun bm => bm.ckMap fun es clk =>
    ifB (es.older since) (ifB (es.older last) (Bool.rec (motive := fun _ => Bool)
      (es.cand seen fun key v b => hput H r (.miter m since (seen ++ [b]) clk) fun H => k (.tup [.bool true, key, v]) H)
      (k (.tup [.bool false]) H) (es.met seen))))

/-- What a map's iteration does, where all entries are as old as it. -/
theorem run_next {P : Program} {w : World} {r m : Nat} {t : TypeId} {since last clk : Nat} {seen : List Nat} {es : Array MapEntry} (hw : w.heap[r]? = some (.mapIter (some m) since seen.toArray last)) (hm : w.heap[m]? = some (.map es clk))
    (h1 : ∀ e ∈ es.toList, e.born < since) (h2 : ∀ e ∈ es.toList, e.born < last) :
    ((∀ e ∈ es.toList, e.born ∈ seen) ∧ (Instr.next (.pointer (some ⟨r, 0, none⟩)) false t).run P w = .ok (.tuple #[.bool false]) w) ∨
    ∃ e d, e ∈ es.toList ∧ e.born ∉ seen ∧ (Instr.next (.pointer (some ⟨r, 0, none⟩)) false t).run P w = .ok (.tuple #[.bool true, e.key, e.val]) { w with drawn := d, heap := w.heap.setIfInBounds r (.mapIter (some m) since (seen ++ [e.born]).toArray clk) } := by
  have hcond : (!seen.toArray.isEmpty && !es.isEmpty && es.all fun e => decide (e.born ≥ last)) = false := by
    cases hc : (!seen.toArray.isEmpty && !es.isEmpty && es.all fun e => decide (e.born ≥ last)) with
    | false => rfl
    | true =>
      exfalso
      simp only [Bool.and_eq_true, Array.all_eq_true', decide_eq_true_eq] at hc
      obtain ⟨⟨_, he⟩, ha⟩ := hc
      obtain ⟨l⟩ := es
      cases l with
      | nil => simp at he
      | cons e l =>
        have := ha e (by simp)
        have := h2 e (by simp)
        omega
  generalize hleft : (es.filter fun e => !seen.toArray.contains e.born) = left
  have hmem : ∀ e, e ∈ left ↔ e ∈ es ∧ e.born ∉ seen := by
    intro e
    rw [← hleft]
    simp
  have hold : (left.filter fun e => decide (e.born < since)) = left := by
    rw [Array.filter_eq_self]
    intro e he
    simpa using h1 e (by simpa using ((hmem e).1 he).1)
  have hnew : (left.filter fun e => decide (e.born ≥ since)) = #[] := by
    rw [Array.filter_eq_empty_iff]
    intro e he
    have := h1 e (by simpa using ((hmem e).1 he).1)
    simp
    omega
  by_cases hz : left.size = 0
  · left
    have hnil : left = #[] := Array.eq_empty_of_size_eq_zero hz
    refine ⟨fun e he => ?_, ?_⟩
    · by_cases hs : e.born ∈ seen
      · exact hs
      · have := (hmem e).2 ⟨by simpa using he, hs⟩
        rw [hnil] at this
        simp at this
    · simp only [Instr.next, Sem.run_bind, run_getObj_of hw (by simp), run_getObj_of hm (by simp), Result.andThen_ok, hcond, hleft, hnil]
      simp [choose, Sem.run, Question.forced]
  · right
    have hne : left.isEmpty = false := by simp [Array.isEmpty, hz]
    have pick : ∀ i, (hi : i < left.size) → left[i] ∈ es.toList ∧ left[i].born ∉ seen := fun i hi => by
      have := (hmem left[i]).1 (Array.getElem_mem hi)
      exact ⟨by simpa using this.1, this.2⟩
    by_cases hone : left.size ≤ 1
    · refine ⟨left[0], w.drawn, (pick 0 (by omega)).1, (pick 0 (by omega)).2, ?_⟩
      have hset' : ∀ (o : Obj), (setObj r o).run P w = .ok () { w with heap := w.heap.setIfInBounds r o } := fun o => by
        simp [setObj, Sem.run, hw]
      simp only [Instr.next, Sem.run_bind, run_getObj_of hw (by simp), run_getObj_of hm (by simp), Result.andThen_ok, hcond, hleft, hold, hnew, hne]
      have h0 : 0 < left.size := by omega
      simp [choose, Sem.run, Question.forced, hone, h0, hset']
    · refine ⟨left[w.tape w.drawn (.mapNext left.size) % left.size]'(Nat.mod_lt _ (by omega)), w.drawn + 1, (pick _ (Nat.mod_lt _ (by omega))).1, (pick _ (Nat.mod_lt _ (by omega))).2, ?_⟩
      have hi : w.tape w.drawn (.mapNext left.size) % left.size < left.size := Nat.mod_lt _ (by omega)
      simp only [Instr.next, Sem.run_bind, run_getObj_of hw (by simp), run_getObj_of hm (by simp), Result.andThen_ok, hcond, hleft, hold, hnew, hne]
      have hdrew : ∀ (o : Obj), (setObj r o).run P w.drew = .ok () { w with drawn := w.drawn + 1, heap := w.heap.setIfInBounds r o } := fun o => by
        have hw' : w.drew.heap[r]? = some (.mapIter (some m) since seen.toArray last) := hw
        simp only [setObj, Sem.run, hw']
        rfl
      simp [choose, Sem.run, Question.forced, Question.cut, hone, hi, hdrew]

/-- An iterator has gone on. -/
theorem went_iter {P : Program} {θ : Theta} {h : Nat → Blk} {n B : Nat} {w : World} (r : HRel P θ h B w) (f : Fresh θ n) {b : Nat} {loc : Loc} (hl : θ.blk b = some loc) {m since last clk : Nat} {seen seen' : List Nat}
    (hb : h b = .miter m since seen last) {w' : World} {d : Nat} {lm : Loc} (hlm : θ.blk m = some lm) (hw' : w' = { w with drawn := d, heap := w.heap.setIfInBounds loc.blk (.mapIter (some lm.blk) since seen'.toArray clk) }) :
    Went P θ h n B w θ (setB h b (.miter m since seen' clk)) n w' := by
  have hr := r.at hl
  rw [hb] at hr
  obtain ⟨hB, h0, _, _, hw⟩ := hr
  have hob : (h b).own = true := by rw [hb]; rfl
  have hlt := lt_of_heap hw
  have hother : ∀ k, k < w.heap.size → k ≠ loc.blk → w'.heap[k]? = w.heap[k]? := fun k _ hk => by rw [hw']; simp [Ne.symm hk]
  have hs : w.heap.size ≤ w'.heap.size := by rw [hw']; simp
  refine ⟨Theta.le_refl _, Nat.le_refl _, fun _ _ => rfl, ?_, f, Frm.turn hob hl (by rw [hw']) (by rw [hw']) (by rw [hw']) hs hother, Grows.turn w hob hl _⟩
  exact r.turn (own_ne hob) hl hs hother _ ⟨hB, h0, lm, hlm, by rw [hw']; simp [hlt]⟩

theorem next_ok {P : Program} {env : List AV} {o : Oper} {x : Operand} {H : Heap} {n : Nat} {k : AV → Heap → Bool} (ho : o.op = .next x false) (h : nextD H (ev P env x) k = true) :
    ∀ (θ : Theta) (ac : Act) (w : World) (B : Nat), HRel P θ (hfn H) B w → Fresh θ n → Opd P θ env o ac →
      ∃ v' w' v H', (execOp ac.eval o).run P w = .ok (.value v') w' ∧ k v H' = true ∧ Went P θ (hfn H) n B w θ (hfn H') n w' ∧ VR θ v v' := by
  unfold nextD at h
  obtain ⟨b, q, hx, h⟩ := ckPtr_iff.1 h
  obtain ⟨hq, h⟩ := ifB_iff.1 h
  obtain rfl : q = 0 := by simpa using hq
  obtain ⟨hb, h⟩ := at_iff.1 h
  obtain ⟨m, since, seen, last, hbl, h⟩ := ckIter_iff.1 h
  obtain ⟨hm, h⟩ := at_iff.1 h
  obtain ⟨es, clk, hml, h⟩ := ckMap'_iff.1 h
  obtain ⟨ho1, h⟩ := ifB_iff.1 h
  obtain ⟨ho2, h⟩ := ifB_iff.1 h
  intro θ ac w B r f hO
  have vx := hx ▸ hO.at (x := x) (by simp [ho, Op.operands])
  obtain ⟨l, hl, vx⟩ := vx.ptr
  have hr := r.at hl
  rw [hbl] at hr
  obtain ⟨_, h0, lm, hlm, hw⟩ := hr
  have hr2 := r.at hlm
  rw [hml] at hr2
  obtain ⟨_, l0, hw2, hes⟩ := hr2
  have had : l.addr 0 = ⟨l.blk, 0, none⟩ := by simp [Loc.addr, h0]
  have hex : ∀ {v w'}, (Instr.next (.pointer (some ⟨l.blk, 0, none⟩)) false o.type).run P w = .ok v w' → (execOp ac.eval o).run P w = .ok (.value v) w' := fun hrun => by
    simp [execOp, ho, vx, had, hrun]
  rcases run_next (P := P) (t := o.type) hw hw2 (older_ok hes ho1) (older_ok hes ho2) with ⟨hall, hrun⟩ | ⟨e, d, he, hs, hrun⟩
  · have hmet := (met_iff hes).2 hall
    rw [hmet] at h
    exact ⟨_, w, _, H, hex hrun, h, Went.refl r f, .inr (by simp [Ev.conc, concs])⟩
  · have hmet : es.met seen = false := by
      cases hc : es.met seen with
      | false => rfl
      | true => exact absurd ((met_iff hes).1 hc e he) hs
    rw [hmet] at h
    obtain ⟨key, v, hk, hv, h⟩ := cand_ok hes h e he hs
    rw [hput_eq] at h
    refine ⟨_, _, _, _, hex hrun, h, ?_, .inr (by simp [Ev.conc, concs, hk, hv])⟩
    rw [hfn_put _ _ hb]
    exact went_iter r f hl hbl hlm rfl

/-! ### Code of which the way is not known -/

/-- Wherever it comes to, the question there is answered. -/
def Dem (t : Bool) (P : Program) (c : Code) (env : List AV) (H : Heap) (n : Nat) (ks : List (Nat × Kont)) (kr kn : Kont) : Prop :=
  ∀ (Fe : Fence) (m : Nat) (S : Start) (a : Act) (w : World) (θ : Theta) (Q : Exit → Act → World → Prop), Fen t Fe → Now P S env H n a w θ →
    (∀ x env' H' n' a' w' θ', Ends ks kr kn x env' H' n' = true → Agree (asg c) env env' → Now P S env' H' n' a' w' θ' → Q x a' w') → c.wpIn Fe m P Q a w

theorem dem_of_found {t : Bool} {P : Program} {c : Code} {env : List AV} {H : Heap} {n : Nat} {ks : List (Nat × Kont)} {kr kn : Kont} (h : Found t P c env H n ks kr kn) : Dem t P c env H n ks kr kn := by
  obtain ⟨x, env', H', n', he, hag, hto⟩ := h
  intro Fe m S a w θ Q hL s hQ
  exact hto Fe m S a w θ Q hL s fun a' w' θ' s' => hQ x env' H' n' a' w' θ' he hag s'

theorem dem_seq {t : Bool} {P : Program} {c d : Code} {env : List AV} {H : Heap} {n : Nat} {ks : List (Nat × Kont)} {kr kn ka : Kont} (h : Dem t P c env H n ks kr ka)
    (hk : ∀ env' H' n', ka env' H' n' = true → Agree (asg c) env env' → ∃ e, Sub e env' ∧ Agree (asg c) env e ∧ Dem t P d e H' n' ks kr kn) : Dem t P (.seq c d) env H n ks kr kn := by
  intro Fe m S a w θ Q hL s hQ
  have ag : ∀ {e}, Agree (asg c) env e → Agree (asg (.seq c d)) env e := fun h => h.mono fun t ht => by simp [asg, ht]
  refine wpIn_seq (h Fe m S a w θ _ hL s fun x env1 H1 n1 a1 w1 θ1 he hag s1 => ?_)
  cases x with
  | normal =>
    obtain ⟨e, hs, hag2, hd⟩ := hk _ _ _ he hag
    exact hd Fe m S a1 w1 θ1 Q hL (s1.sub hs) fun y env2 H2 n2 a2 w2 θ2 he2 hag3 s2 => hQ y env2 H2 n2 a2 w2 θ2 he2 ((ag hag2).trans (hag3.mono fun t ht => by simp [asg, ht])) s2
  | ret => exact hQ .ret env1 H1 n1 a1 w1 θ1 he (ag hag) s1
  | exit id => exact hQ (.exit id) env1 H1 n1 a1 w1 θ1 he (ag hag) s1
  | _ => exact (Bool.false_ne_true he).elim

theorem dem_block {t : Bool} {P : Program} {c : Code} {id : Nat} {C : List Nat} {env : List AV} {H : Heap} {n : Nat} {ks : List (Nat × Kont)} {kr kn : Kont}
    (h : Dem t P c env H n ((id, fun env' H n => unpT C (packT C env') (clrT (asg c) env) fun e => kn e H n) :: ks) kr (fun env' H n => unpT C (packT C env') (clrT (asg c) env) fun e => kn e H n)) : Dem t P (.block id c) env H n ks kr kn := by
  intro Fe m S a w θ Q hL s hQ
  refine wpIn_block (h Fe m S a w θ _ hL s fun x env1 H1 n1 a1 w1 θ1 he hag s1 => ?_)
  cases x with
  | normal =>
    obtain ⟨e, hk, hs, hag2⟩ := join_ok hag he
    exact hQ .normal e H1 n1 a1 w1 θ1 hk hag2 (s1.sub hs)
  | ret => exact hQ .ret env1 H1 n1 a1 w1 θ1 he hag s1
  | exit i =>
    have he : exitK _ i env1 H1 n1 = true := he
    rcases exitK_cons he with ⟨rfl, hk⟩ | ⟨hne, hk⟩
    · obtain ⟨e, hk, hs, hag2⟩ := join_ok hag hk
      simp only [Exit.inBlock, if_true]
      exact hQ .normal e H1 n1 a1 w1 θ1 hk hag2 (s1.sub hs)
    · simp only [Exit.inBlock]
      rw [if_neg hne]
      exact hQ (.exit i) env1 H1 n1 a1 w1 θ1 hk hag s1
  | _ => exact (Bool.false_ne_true he).elim

theorem dem_loop {N : Nat} {t : Bool} {P : Program} {c : Code} {C : List Nat} {env : List AV} {H : Heap} {n : Nat} {ks : List (Nat × Kont)} {kr kn : Kont} {body : List AV → Heap → Nat → Kont → Bool}
    (hb : ∀ e H n k, body e H n k = true → Dem t P c e H n ks kr k) (h : loopK N C (asg c) env H n body = true) : Dem t P (.loop c) env H n ks kr kn := by
  have key : ∀ (j : Nat) (env1 : List AV) (H1 : Heap) (n1 : Nat), Agree (asg c) env env1 →
      iterN j (fun ih l H n => unpT C l (clrT (asg c) env) fun e => body e H n fun env' H n => ih (packT C env') H n) (packT C env1) H1 n1 = true →
      ∀ (Fe : Fence) (m : Nat) (S : Start) (a : Act) (w : World) (θ : Theta) (Q : Exit → Act → World → Prop), Fen t Fe → Now P S env1 H1 n1 a w θ →
        (∀ x env' H' n' a' w' θ', Ends ks kr kn x env' H' n' = true → Agree (asg c) env env' → Now P S env' H' n' a' w' θ' → Q x a' w') → Chain Fe m P c Q j a w := by
    intro j
    induction j with
    | zero => intro env1 H1 n1 _ h; exact (Bool.false_ne_true h).elim
    | succ j ih =>
      intro env1 H1 n1 hag h
      rw [iterN_succ] at h
      obtain ⟨e, hk, hs, hag2⟩ := join_ok hag h
      intro Fe m S a w θ Q hL s hQ
      show c.wpIn Fe m P (Exit.then (Chain Fe m P c Q j) Q) a w
      refine hb _ _ _ _ hk Fe m S a w θ _ hL (s.sub hs) fun x env2 H2 n2 a2 w2 θ2 he hag3 s2 => ?_
      cases x with
      | normal => exact ih env2 H2 n2 (hag2.trans hag3) he Fe m S a2 w2 θ2 Q hL s2 hQ
      | ret => exact hQ .ret env2 H2 n2 a2 w2 θ2 he (hag2.trans hag3) s2
      | exit i => exact hQ (.exit i) env2 H2 n2 a2 w2 θ2 he (hag2.trans hag3) s2
      | _ => exact (Bool.false_ne_true he).elim
  unfold loopK at h
  simp only [clrK_eq, unpL_eq] at h
  generalize N = j at h
  intro Fe m S a w θ Q hL s hQ
  exact wpIn_chain (key j env H n (Agree.refl _ _) h Fe m S a w θ Q hL s hQ)

/-- A region whose first operation may be a step of a range over a map. -/
def evReg (P : Program) (F G : Orac) (ops : Array Oper) (kn : Kont) (env : List AV) (H : Heap) (n : Nat) : Bool :=
  match ops.toList with
  | o :: rest => (match o.op, o.guard with
    | .next x false, none => evK P env x fun a => nextD H a fun v H => setTK env o.dst v fun env => evOps P F G ops kn rest env H n
    | _, _ => evOps P F G ops kn ops.toList env H n)
  | [] => evOps P F G ops kn ops.toList env H n

theorem evReg_ok {t : Bool} {P : Program} {F G : Orac} (hF : CallSound P F) (hG : RoundSound P G) {id : Nat} {ops : Array Oper} {env : List AV} {H : Heap} {n : Nat} {ks : List (Nat × Kont)} {kr kn : Kont}
    (h : evReg P F G ops kn env H n = true) : Dem t P (.region id ops false) env H n ks kr kn := by
  have plain : evOps P F G ops kn ops.toList env H n = true → Dem t P (.region id ops false) env H n ks kr kn := fun h => by
    obtain ⟨env', H', n', hk, hag, hgo⟩ := evOps_ok hF hG (l := ops.toList) (k := 0) (fun j => by simp) h
    refine dem_of_found (found_normal hk hag fun Fe m S a w θ Q hL s hQ => ?_)
    have := hgo Fe m S a w θ Q hL.1 s hQ
    refine wpIn_region ?_
    rw [List.range_eq_range']
    simpa using this
  unfold evReg at h
  split at h
  · rename_i o rest hops
    split at h
    · rename_i x ho hgd
      rw [evK_eq] at h
      simp only [setTK_eq] at h
      have hn := next_ok (n := n) ho h
      have hsz : ops.size = rest.length + 1 := by rw [← Array.length_toList, hops]; rfl
      have hget : ∀ j, rest[j]? = ops[1 + j]? := fun j => by
        have : ops.toList[j + 1]? = ops[j + 1]? := by simp
        rw [hops] at this
        rw [Nat.add_comm 1 j, ← this]
        simp
      have h0 : ops[0]? = some o := by
        have : ops.toList[0]? = ops[0]? := by simp
        rw [hops] at this
        rw [← this]
        rfl
      intro Fe m S a w θ Q hL s hQ
      refine wpIn_region ?_
      rw [List.range_eq_range', hsz]
      simp only [List.range'_succ, wpOpsIn, h0]
      have hwant : Region.wanted o (yielded ops a.tmps) = true := by simp [Region.wanted, hgd]
      rw [if_pos hwant]
      obtain ⟨v', w', v, H', hrun, hk, hw, hv⟩ := hn θ a w S.B s.went.rel s.went.fresh (now_opd s o)
      refine goes_of_yields (.inl hrun) hL.1 ?_
      have s' := s.put hw o.dst hv
      obtain ⟨env', H2, n2, hk2, hag, hgo⟩ := evOps_ok hF hG (l := rest) (k := 1) hget hk
      have hag' : Agree (asg (.region id ops false)) env env' := by
        show Agree (asgOps ops.toList) env env'
        rw [hops]
        refine Agree.trans (Agree.setT (fun t ht => ?_)) (hag.mono fun t ht => ?_)
        · simp [asgOps, ht]
        · simp only [asgOps, List.filterMap_cons] at ht ⊢
          split <;> simp [ht]
      have := hgo Fe m S _ _ θ Q hL.1 s' fun a2 w2 θ2 s2 => hQ .normal env' H2 n2 a2 w2 θ2 hk2 hag' s2
      simpa using this
    · exact plain h
  · exact plain h

def evDem (P : Program) (F G : Orac) (X : Side) : Code → An → List Nat → List AV → Heap → Nat → List (Nat × Kont) → Kont → Kont → Bool
  | .skip, _, _, env, H, n, _, _, kn => kn env H n
  | .region _ ops false, _, _, env, H, n, _, _, kn => evReg P F G ops kn env H n
  | .seq a b, .two x y, p, env, H, n, ks, kr, kn => goK x (evDem P F G X a x (p ++ [0]) env H n ks kr fun env H n => goK y (evDem P F G X b y (p ++ [1]) env H n ks kr kn))
  | .seq a b, .join C x y, p, env, H, n, ks, kr, kn => meetK C (asg a) env (fun env H n => goK y (evDem P F G X b y (p ++ [1]) env H n ks kr kn)) fun kn' => goK x (evDem P F G X a x (p ++ [0]) env H n ks kr kn')
  | .cond c a b, .two x y, p, env, H, n, ks, kr, kn => (ev P env c).ckBool fun t => Bool.rec (goK y (evDem P F G X b y (p ++ [1]) env H n ks kr kn)) (goK x (evDem P F G X a x (p ++ [0]) env H n ks kr kn)) t
  | .block id a, .one C x, p, env, H, n, ks, kr, kn => meetK C (asg a) env kn fun kn' => goK x (evDem P F G X a x (p ++ [0]) env H n ((id, kn') :: ks) kr kn')
  | .loop a, .one C x, p, env, H, n, ks, kr, _ => loopK X.fuel C (asg a) env H n fun env H n k => goK x (evDem P F G X a x (p ++ [0]) env H n ks kr k)
  | .exit id, _, _, env, H, n, ks, _, _ => exitK ks id env H n
  | .ret, _, _, env, H, n, _, kr, _ => kr env H n
  | _, _, _, _, _, _, _, _, _ => false

theorem evDem_ok {t : Bool} {P : Program} {F G : Orac} (hF : CallSound P F) (hG : RoundSound P G) {X : Side} :
    ∀ (c : Code) (an : An) (p : List Nat) (env : List AV) (H : Heap) (n : Nat) (ks : List (Nat × Kont)) (kr kn : Kont), evDem P F G X c an p env H n ks kr kn = true → Dem t P c env H n ks kr kn
  | .skip, an, p, env, H, n, ks, kr, kn, h => by
    rw [evDem] at h
    exact dem_of_found (found_normal h (Agree.refl _ _) fun Fe m S a w θ Q hL s hQ => wpIn_skip (hQ a w θ s))
  | .region id ops false, an, p, env, H, n, ks, kr, kn, h => by
    rw [evDem] at h
    exact evReg_ok hF hG h
  | .seq c d, .two x y, p, env, H, n, ks, kr, kn, h => by
    rw [evDem] at h
    refine dem_seq (evDem_ok hF hG c x _ env H n ks kr _ (goK_ok h)) fun env' H' n' hk hag => ?_
    exact ⟨env', ⟨rfl, fun _ => .inr rfl⟩, hag, evDem_ok hF hG d y _ env' H' n' ks kr kn (goK_ok hk)⟩
  | .seq c d, .join C x y, p, env, H, n, ks, kr, kn, h => by
    rw [evDem, meetK_iff] at h
    refine dem_seq (evDem_ok hF hG c x _ env H n ks kr _ (goK_ok h)) fun env' H' n' hk hag => ?_
    obtain ⟨e, hk, hs, hag2⟩ := join_ok hag hk
    exact ⟨e, hs, hag2, evDem_ok hF hG d y _ e H' n' ks kr kn (goK_ok hk)⟩
  | .cond co c d, .two x y, p, env, H, n, ks, kr, kn, h => by
    rw [evDem] at h
    obtain ⟨b, hb, h⟩ := ckBool_iff.1 h
    have hv : ∀ {S : Start} {a : Act} {w : World} {θ : Theta}, Now P S env H n a w θ → a.eval co = .bool b := by
      intro S a w θ s
      have hv : VR θ (ev P env co) (a.eval co) := ev_ok s.glob co fun t _ => s.tmps t
      rw [hb] at hv
      exact hv.bool
    cases b with
    | true =>
      have hd := evDem_ok (t := t) hF hG c x _ env H n ks kr kn (goK_ok h)
      exact fun Fe m S a w θ Q hL s hQ => wpIn_cond (hv s) (hd Fe m S a w θ Q hL s fun x env' H' n' a' w' θ' he hag s' => hQ x env' H' n' a' w' θ' he (hag.mono fun t ht => by simp [asg, ht]) s')
    | false =>
      have hd := evDem_ok (t := t) hF hG d y _ env H n ks kr kn (goK_ok h)
      exact fun Fe m S a w θ Q hL s hQ => wpIn_cond (hv s) (hd Fe m S a w θ Q hL s fun x env' H' n' a' w' θ' he hag s' => hQ x env' H' n' a' w' θ' he (hag.mono fun t ht => by simp [asg, ht]) s')
  | .block id c, .one C x, p, env, H, n, ks, kr, kn, h => by
    rw [evDem, meetK_iff] at h
    exact dem_block (evDem_ok hF hG c x _ env H n _ kr _ (goK_ok h))
  | .loop c, .one C x, p, env, H, n, ks, kr, kn, h => by
    rw [evDem] at h
    exact dem_loop (fun e H n k hk => evDem_ok hF hG c x _ e H n ks kr k (goK_ok hk)) h
  | .exit id, an, p, env, H, n, ks, kr, kn, h => by
    rw [evDem] at h
    exact dem_of_found ⟨.exit id, env, H, n, h, Agree.refl _ _, fun Fe m S a w θ Q hL s hQ => wpIn_exit (hQ a w θ s)⟩
  | .ret, an, p, env, H, n, ks, kr, kn, h => by
    rw [evDem] at h
    exact dem_of_found ⟨.ret, env, H, n, h, Agree.refl _ _, fun Fe m S a w θ Q hL s hQ => wpIn_ret (hQ a w θ s)⟩
  | .label l, an, p, env, H, n, ks, kr, kn, h => by simp [evDem] at h
  | .region id ops true, an, p, env, H, n, ks, kr, kn, h => by simp [evDem] at h
  | .rangeFunc f ps as bd, an, p, env, H, n, ks, kr, kn, h => by simp [evDem] at h
  | .goto l, an, p, env, H, n, ks, kr, kn, h => by simp [evDem] at h
  | .scope c, an, p, env, H, n, ks, kr, kn, h => by simp [evDem] at h
  | .refuse r, an, p, env, H, n, ks, kr, kn, h => by simp [evDem] at h
  | .seq _ _, .leaf, p, env, H, n, ks, kr, kn, h => by simp [evDem] at h
  | .seq _ _, .one _ _, p, env, H, n, ks, kr, kn, h => by simp [evDem] at h
  | .cond _ _ _, .leaf, p, env, H, n, ks, kr, kn, h => by simp [evDem] at h
  | .cond _ _ _, .one _ _, p, env, H, n, ks, kr, kn, h => by simp [evDem] at h
  | .cond _ _ _, .join _ _ _, p, env, H, n, ks, kr, kn, h => by simp [evDem] at h
  | .block _ _, .leaf, p, env, H, n, ks, kr, kn, h => by simp [evDem] at h
  | .block _ _, .two _ _, p, env, H, n, ks, kr, kn, h => by simp [evDem] at h
  | .block _ _, .join _ _ _, p, env, H, n, ks, kr, kn, h => by simp [evDem] at h
  | .loop _, .leaf, p, env, H, n, ks, kr, kn, h => by simp [evDem] at h
  | .loop _, .two _ _, p, env, H, n, ks, kr, kn, h => by simp [evDem] at h
  | .loop _, .join _ _ _, p, env, H, n, ks, kr, kn, h => by simp [evDem] at h
  | .seq _ _, .stop, p, env, H, n, ks, kr, kn, h => by simp [evDem] at h
  | .cond _ _ _, .stop, p, env, H, n, ks, kr, kn, h => by simp [evDem] at h
  | .block _ _, .stop, p, env, H, n, ks, kr, kn, h => by simp [evDem] at h
  | .loop _, .stop, p, env, H, n, ks, kr, kn, h => by simp [evDem] at h

/-! ### A function of which the way is not known -/

def evFnD (P : Program) (F G : Orac) (X : Side) (fn : Func) (np : Nat) (an : An) (args : List AV) (H : Heap) (n : Nat) (k : AV → Heap → Nat → Bool) : Bool :=
  match fn.body with
  | some c => takeK (fn.ntmps - np) np args fun env => evDem P F G X c an [] env H n [] (finK P fn k) (finK P fn k)
  | none => false

/-- What a call comes to, one way or another. -/
def Upto (P : Program) (f : Nat) (args : List AV) (H : Heap) (n : Nat) (k : AV → Heap → Nat → Bool) : Prop :=
  (∀ (vs : Array Value) (w : World), (callFunc f vs).run P w = .ok (.enter f vs) w) ∧
  ∀ (θ : Theta) (w : World) (B : Nat) (vs : List Value), HRel P θ (hfn H) B w → Fresh θ n → B ≤ w.heap.size → GlobOK P θ → VRs θ args vs → ∀ m,
    CallsIn Fence.wide m P f vs.toArray w (fun e w' => ∃ v H' n' v' θ', k v H' n' = true ∧ e = .returned v' ∧ Went P θ (hfn H) n B w θ' (hfn H') n' w' ∧ VR θ' v v')

theorem evFnD_ok {P : Program} {F G : Orac} (hF : CallSound P F) (hG : RoundSound P G) {X : Side} {fn : Func} {np : Nat} {an : An} {f : Nat} {args : List AV} {H : Heap} {n : Nat} {k : AV → Heap → Nat → Bool}
    (hf : P.funcs[f]? = some fn) (hcall : ∀ (vs : Array Value) (w : World), (callFunc f vs).run P w = .ok (.enter f vs) w)
    (h : evFnD P F G X fn np an args H n k = true) : Upto P f args H n k := by
  unfold evFnD at h
  split at h
  · rename_i c hc
    obtain ⟨h, rfl⟩ := takeK_ok h
    have hdem := evDem_ok (t := true) hF hG c an [] _ H n [] _ _ h
    refine ⟨hcall, fun θ w B vs r fr hB hg hvs m => ?_⟩
    refine callsIn_of_wp_marks hf hc trivial ?_
    have hlen := hvs.length
    let S : Start := ⟨θ, hfn H, n, B, w, w.heap.size, Nat.le_refl _⟩
    have s : Now P S (args ++ List.replicate (fn.ntmps - args.length) .bad) H n { tmps := vs.toArray ++ Array.replicate (fn.ntmps - vs.toArray.size) undef, defers := [] } w θ := by
      refine ⟨hB, Went.refl r fr, hg, fun t => ?_, by simp [hlen], MarksOK.nil _ _ _ _⟩
      simp only [List.getD_eq_getElem?_getD, Array.getD_eq_getD_getElem?]
      by_cases ht : t < args.length
      · rw [List.getElem?_append_left ht, Array.getElem?_append_left (by simp; omega)]
        have := hvs.get t
        simpa [List.getD_eq_getElem?_getD] using this
      · left
        rw [List.getElem?_append_right (by omega)]
        by_cases h2 : t - args.length < fn.ntmps - args.length
        · simp [h2]
        · simp [h2]
    refine hdem Fence.wide m S _ w θ _ ⟨looseR_wide, fun _ => rfl⟩ s fun x env' H' n' a' w' θ' he hag s' => ?_
    have hfin : finK P fn k env' H' n' = true ∧ (x = .normal ∨ x = .ret) := by
      cases x with
      | normal => exact ⟨he, .inl rfl⟩
      | ret => exact ⟨he, .inr rfl⟩
      | exit i => exact (Bool.false_ne_true he).elim
      | _ => exact (Bool.false_ne_true he).elim
    obtain ⟨l, hl, hq⟩ := resK_ok hfin.1
    obtain ⟨v, hk, hv⟩ := tupK_ok hl
    obtain ⟨rs, ⟨hds, hok⟩, hnd, hrs⟩ := s'.defs
    have main : LeavesInM Fence.wide m P fn a'.tmps (fun e w' => ∃ v H' n' v' θ', k v H' n' = true ∧ e = .returned v' ∧ Went P θ (hfn H) n B w θ' (hfn H') n' w' ∧ VR θ' v v') a'.defers .returning w' := by
      refine leaves_marks (S := S) (θ := θ') (H := H') (n := n') a'.defers w' s'.went hok (by rw [hds]; exact hnd) (by rw [hds]; exact hrs) fun w2 hw2 => ?_
      obtain ⟨us, h1, h2⟩ := hq θ' w2 B a'.tmps hw2.rel s'.tmps
      exact ⟨_, results_of h1, v, H', n', _, θ', hk, rfl, hw2, hv θ' us.toArray (by simpa using h2)⟩
    rcases hfin.2 with rfl | rfl <;> exact main
  · cases h

/-- What a hand is bound to that goes every way. -/
def DHandOK (P : Program) (f : Nat) (s : Hand) : Prop := ∀ F G, CallSound P F → RoundSound P G → ∀ args H n k, s F G args H n k = true → Upto P f args H n k

theorem dhandOK_of {N : Nat} {P : Program} {C : Nat → Bool} {f : Nat} {fn : Func} {np : Nat} {an : An} {s : Hand} (hf : P.funcs[f]? = some fn) (hcall : ∀ (vs : Array Value) (w : World), (callFunc f vs).run P w = .ok (.enter f vs) w)
    (he : ∀ F G args H n k, evFnD P F G (sideOf P C F G f N) fn np an args H n k = s F G args H n k) : DHandOK P f s := by
  intro F G hF hG args H n k h
  rw [← he] at h
  exact evFnD_ok hF hG hf hcall h

end
end Ev
namespace Ev
open Go
open Go.RowKit
noncomputable section

/-! ### A function of which every way comes to the same -/

/-- Less is known, or the same in other words. -/
theorem Went.less {P : Program} {θ θ' : Theta} {h h' h'' : Nat → Blk} {n n' B : Nat} {w w' : World} (k : Went P θ h n B w θ' h' n' w')
    (hh : ∀ b, h'' b ≠ .dead → h' b ≠ .dead ∧ ((h'' b).own = true → (h' b).own = true) ∧ ∀ l, BRel P θ' B w' l (h' b) → BRel P θ' B w' l (h'' b)) : Went P θ h n B w θ' h'' n' w' := by
  refine ⟨k.le, k.num, k.old, ⟨fun b hb => ?_, fun b b' l l' hb hb' hl hl' e => k.rel.inj b b' l l' (hh b hb).1 (hh b' hb').1 hl hl' e⟩, k.fresh, k.frm, ⟨fun b l hb hl => ?_, fun b l hb hl => ?_⟩⟩
  · obtain ⟨l, hl, hlt, hr⟩ := k.rel.blk b (hh b hb).1
    exact ⟨l, hl, hlt, (hh b hb).2.2 l hr⟩
  · exact k.grows.own b l ((hh b (own_ne hb)).2.1 hb) hl
  · exact k.grows.any b l (hh b hb).1 hl

theorem Went.raise {P : Program} {θ θ' : Theta} {h h' : Nat → Blk} {n n1 n2 B : Nat} {w w' : World} (k : Went P θ h n B w θ' h' n1 w') (hn : n1 ≤ n2) : Went P θ h n B w θ' h' n2 w' :=
  ⟨k.le, Nat.le_trans k.num hn, k.old, k.rel, fun b hb => k.fresh b (Nat.le_trans hn hb), k.frm, k.grows⟩

theorem hfn_rep : hfn (Tr.rep Blk.dead 5) = fun _ => .dead := by
  funext b
  unfold hfn
  split
  · rw [hgt_eq]; exact Tr.get_rep _ _ _
  · rfl

/-- Out of what a function does in a memory of one map alone: what it does in any memory that holds the map. -/
theorem frame_map {P : Program} {f : Nat} {args : List AV} {H Hn : Heap} {n n' b clk : Nat} {es : Ents} {v : AV} {chk : AV → Heap → Nat → Bool} (hU : Upto P f args (Tr.put 5 (Tr.rep Blk.dead 5) b (.map es clk)) n chk) (hb : b < 32768)
    (hbl : hfn H b = .map es clk) (hc : ∀ v0 H0 n0, chk v0 H0 n0 = true → v0 = v ∧ n0 ≤ n' ∧ hfn H0 b = .map es clk ∧ ∀ x, hfn Hn x ≠ .dead → hfn Hn x = hfn H x ∨
      (n ≤ x ∧ hfn H0 x ≠ .dead ∧ ((hfn Hn x).own = true → (hfn H0 x).own = true) ∧ ∀ θ B w l, BRel P θ B w l (hfn H0 x) → BRel P θ B w l (hfn Hn x))) : Answers P f args H n v Hn n' := by
  refine ⟨hU.1, fun θ w B vs r fr hB hg hvs m => ?_⟩
  have hlow : ∀ x, hfn H x ≠ .dead → x < n := fun x hx => by
    obtain ⟨l, hl⟩ := r.theta x hx
    rcases Nat.lt_or_ge x n with h | h
    · exact h
    · rw [fr x h] at hl; cases hl
  have hbn : b < n := hlow b (by rw [hbl]; simp)
  have hHs : hfn (Tr.put 5 (Tr.rep Blk.dead 5) b (.map es clk)) = setB (fun _ => .dead) b (.map es clk) := by rw [hfn_put _ _ hb, hfn_rep]
  let ex : Nat → Option Blk := fun x => if x < n ∧ x ≠ b then some (hfn H x) else none
  have ex_in : ∀ x, x < n → x ≠ b → ex x = some (hfn H x) := fun x h1 h2 => if_pos ⟨h1, h2⟩
  have ex_b : ex b = none := if_neg fun h => h.2 rfl
  have ex_out : ∀ x, n ≤ x → ex x = none := fun x h => if_neg fun h2 => by omega
  have hover : Ev.over (hfn (Tr.put 5 (Tr.rep Blk.dead 5) b (.map es clk))) ex = hfn H := by
    funext x
    rw [hHs]
    by_cases e : b = x
    · subst e
      rw [over_none ex_b]
      simp [setB, hbl]
    · rcases Nat.lt_or_ge x n with h | h
      · rw [over_some (ex_in x h (Ne.symm e))]
      · rw [over_none (ex_out x h)]
        have hd : hfn H x = .dead := Classical.byContradiction fun hd => by have := hlow x hd; omega
        simp [setB, e, hd]
  have hd : ∀ x y, ex x = some y → hfn (Tr.put 5 (Tr.rep Blk.dead 5) b (.map es clk)) x = .dead := by
    intro x y e
    have hxb : b ≠ x := fun e0 => by rw [← e0, ex_b] at e; cases e
    rw [hHs]
    simp [setB, hxb]
  have r0 : HRel P θ (Ev.over (hfn (Tr.put 5 (Tr.rep Blk.dead 5) b (.map es clk))) ex) B w := by rw [hover]; exact r
  refine (hU.2 θ w B vs (r0.under hd) fr hB hg hvs m).mono ?_
  rintro e w' ⟨v0, H0, n0, v', θ', hk, rfl, hw, hv⟩
  obtain ⟨rfl, hle, hmap, hx⟩ := hc v0 H0 n0 hk
  refine ⟨v', θ', rfl, ?_, hv⟩
  have hw2 := Went.over r0 hd hw
  rw [hover] at hw2
  refine (hw2.raise hle).less fun x hxd => ?_
  rcases hx x hxd with he | ⟨hge, h1, h2, h3⟩
  · have hxn := hlow x (by rw [← he]; exact hxd)
    have heq : Ev.over (hfn H0) ex x = hfn Hn x := by
      by_cases e : x = b
      · subst e
        rw [over_none ex_b, hmap, he, hbl]
      · rw [over_some (ex_in x hxn e), he]
    rw [heq]
    exact ⟨hxd, id, fun _ h => h⟩
  · rw [over_none (ex_out x hge)]
    exact ⟨h1, h2, fun l => h3 θ' B w' l⟩

/-! Whole numbers, side by side. -/

def sameI (x y : AV) : Bool := x.ckInt fun k a => y.ckInt fun k' b => ifB (kdEq k k') (eqZ a b)
theorem sameI_ok {x y : AV} (h : sameI x y = true) : x = y := by
  obtain ⟨k, a, ex, hx⟩ := ckInt_iff.1 h
  obtain ⟨k', b, ey, hy⟩ := ckInt_iff.1 hx
  obtain ⟨h1, h2⟩ := ifB_iff.1 hy
  rw [eqZ_eq, beq_iff_eq] at h2
  rw [ex, ey, kdEq_iff h1, h2]

def samesI : List AV → List AV → Bool
  | [], [] => true
  | x :: l, y :: m => ifB (sameI x y) (samesI l m)
  | _, _ => false
theorem samesI_ok : ∀ {l m : List AV}, samesI l m = true → l = m
  | [], [], _ => rfl
  | x :: l, y :: m, h => by
    obtain ⟨h1, h2⟩ := ifB_iff.1 h
    rw [sameI_ok h1, samesI_ok h2]
  | [], _ :: _, h => (Bool.false_ne_true h).elim
  | _ :: _, [], h => (Bool.false_ne_true h).elim

def sameE : Ents → Ents → Bool
  | .nil, .nil => true
  | .cons k v b l, .cons k' v' b' l' => ifB (sameI k k') (ifB (sameI v v') (ifB (Nat.beq b b') (sameE l l')))
  | _, _ => false
theorem sameE_ok : ∀ {l m : Ents}, sameE l m = true → l = m
  | .nil, .nil, _ => rfl
  | .cons k v b l, .cons k' v' b' l', h => by
    obtain ⟨h1, h⟩ := ifB_iff.1 h
    obtain ⟨h2, h⟩ := ifB_iff.1 h
    obtain ⟨h3, h⟩ := ifB_iff.1 h
    rw [sameI_ok h1, sameI_ok h2, Nat.eq_of_beq_eq_true h3, sameE_ok h]
  | .nil, .cons .., h => (Bool.false_ne_true h).elim
  | .cons .., .nil, h => (Bool.false_ne_true h).elim

/-- The keys of a map, rising. -/
def insK (a : AV) : List AV → (List AV → Bool) → Bool
  | [], k => k [a]
  | b :: l, k => a.ckInt fun _ x => b.ckInt fun _ y => Bool.rec (motive := fun _ => Bool) (insK a l fun m => k (b :: m)) (k (a :: b :: l)) (ltZ x y)
theorem insK_ok {a : AV} : ∀ {l : List AV} {k : List AV → Bool}, insK a l k = true → ∃ m, k m = true
  | [], k, h => ⟨_, h⟩
  | b :: l, k, h => by
    obtain ⟨_, x, _, h⟩ := ckInt_iff.1 h
    obtain ⟨_, y, _, h⟩ := ckInt_iff.1 h
    cases hl : ltZ x y with
    | true => rw [hl] at h; exact ⟨_, h⟩
    | false =>
      rw [hl] at h
      obtain ⟨m, hm⟩ := insK_ok (l := l) h
      exact ⟨_, hm⟩

def keysK : Ents → (List AV → Bool) → Bool
  | .nil, k => k []
  | .cons key _ _ l, k => keysK l fun m => insK key m k
theorem keysK_ok : ∀ {es : Ents} {k : List AV → Bool}, keysK es k = true → ∃ m, k m = true
  | .nil, k, h => ⟨_, h⟩
  | .cons key _ _ l, k, h => by
    obtain ⟨m, hm⟩ := keysK_ok (es := l) h
    exact insK_ok hm

def opn1 (cap : Cap) (y : Bool) : Bool := Cap.casesOn (motive := fun _ => Bool) cap (fun _ => false) fun es => ifB (Nat.beq es 1) y
theorem opn1_ok {cap : Cap} {y : Bool} (h : opn1 cap y = true) : cap = .opn 1 ∧ y = true := by
  cases cap with
  | known c => exact (Bool.false_ne_true h).elim
  | opn es =>
    obtain ⟨h1, h2⟩ := ifB_iff.1 h
    rw [Nat.eq_of_beq_eq_true h1]
    exact ⟨rfl, h2⟩

def chkMap (es : Ents) (clk b : Nat) (H : Heap) : Bool := at_ H b fun bm => bm.ckMap fun es' clk' => ifB (Nat.beq clk' clk) (sameE es' es)
theorem chkMap_ok {es : Ents} {clk b : Nat} {H : Heap} (h : chkMap es clk b H = true) : hfn H b = .map es clk := by
  obtain ⟨_, h⟩ := at_iff.1 h
  obtain ⟨es', clk', e, h⟩ := ckMap'_iff.1 h
  obtain ⟨h1, h2⟩ := ifB_iff.1 h
  rw [e, Nat.eq_of_beq_eq_true h1, sameE_ok h2]

def chk0 (es : Ents) (clk b m : Nat) (v : AV) (H : Heap) (n : Nat) : Bool :=
  v.ckSl (ifB (Nat.ble n m) (chkMap es clk b H)) (fun _ _ _ _ => false) (fun _ _ _ _ => false)

def chk1 (es : Ents) (clk b q r m : Nat) (ks : List AV) (v : AV) (H : Heap) (n : Nat) : Bool :=
  v.ckSl false (fun b' o len cap => ifB (Nat.beq b' q) (ifB (Nat.beq o 0) (ifB (Nat.beq len r) (opn1 cap (ifB (Nat.ble n m) (ifB (chkMap es clk b H)
    (at_ H q fun bl => bl.ckCells fun ro _ len' c => Bool.rec (motive := fun _ => Bool) (ifB (Nat.ble r len') (samesI (c.row 0 r) ks)) false ro)))))))
    (fun _ _ _ _ => false)

/-- What a function does that lays the keys of a map out, rising: the first argument's second field is the map. -/
def shareK (s : Hand) : Hand := fun F G args H n k =>
  List.casesOn (motive := fun _ => Bool) args false fun a rest => List.casesOn (motive := fun _ => Bool) rest
    (a.ckAgg fun l => nthK 1 l fun m => m.ckMap false fun b => at_ H b fun bl => bl.ckMap fun es clk => keysK es fun ks => hput (Tr.rep Blk.dead 5) b (.map es clk) fun Hs =>
      List.casesOn (motive := fun _ => Bool) ks
        (forceN (Nat.add n 64) fun m => ifB (s F G [a] Hs n (chk0 es clk b m)) (k .nils H m))
        (fun _ _ => forceN ks.length fun r => forceN (Nat.add (Nat.succ n) (Nat.mul 2 r)) fun q => forceN (Nat.add n 64) fun m => ifB (Nat.blt q 32768) (ifB (s F G [a] Hs n (chk1 es clk b q r m ks))
          (cellsK ks fun c => hput H q (.cells false false r c) fun H' => k (.sl q 0 r (.opn 1)) H' m))))
    fun _ _ => false

theorem shareK_ok {P : Program} {f : Nat} {s : Hand} (hs : DHandOK P f s) : HandOK P f (shareK s) := by
  intro F G hF hG args H n k h
  unfold shareK at h
  match args, h with
  | [], h => exact (Bool.false_ne_true h).elim
  | _ :: _ :: _, h => exact (Bool.false_ne_true h).elim
  | [a], h =>
    obtain ⟨l, _, h⟩ := ckAgg_iff.1 h
    obtain ⟨m, _, h⟩ := nthK_iff.1 h
    rcases ckMap_iff.1 h with ⟨_, h⟩ | ⟨b, _, h⟩
    · cases h
    obtain ⟨hb, h⟩ := at_iff.1 h
    obtain ⟨es, clk, hbl, h⟩ := ckMap'_iff.1 h
    obtain ⟨ks, h⟩ := keysK_ok h
    rw [hput_eq] at h
    cases ks with
    | nil =>
      have h : (forceN (Nat.add n 64) fun m => ifB (s F G [a] (Tr.put 5 (Tr.rep Blk.dead 5) b (.map es clk)) n (chk0 es clk b m)) (k .nils H m)) = true := h
      rw [forceN_eq] at h
      obtain ⟨h1, h2⟩ := ifB_iff.1 h
      refine ⟨_, _, _, h2, frame_map (hs F G hF hG _ _ _ _ h1) hb hbl fun v0 H0 n0 hk => ?_⟩
      rcases ckSl_iff.1 hk with ⟨rfl, hk⟩ | ⟨_, _, _, _, _, hk⟩ | ⟨_, _, _, _, _, hk⟩
      · obtain ⟨k1, k2⟩ := ifB_iff.1 hk
        exact ⟨rfl, by simpa using k1, chkMap_ok k2, fun x _ => .inl rfl⟩
      · cases hk
      · cases hk
    | cons a0 ks0 =>
      generalize hks : a0 :: ks0 = ks at h
      have h : (forceN ks.length fun r => forceN (Nat.add (Nat.succ n) (Nat.mul 2 r)) fun q => forceN (Nat.add n 64) fun m => ifB (Nat.blt q 32768) (ifB (s F G [a] (Tr.put 5 (Tr.rep Blk.dead 5) b (.map es clk)) n (chk1 es clk b q r m ks))
          (cellsK ks fun c => hput H q (.cells false false r c) fun H' => k (.sl q 0 r (.opn 1)) H' m))) = true := by
        subst hks; exact h
      rw [forceN_eq, forceN_eq, forceN_eq] at h
      obtain ⟨hq, h⟩ := ifB_iff.1 h
      obtain ⟨h1, h2⟩ := ifB_iff.1 h
      rw [Nat.blt_eq] at hq
      obtain ⟨c, h2, hdep, hget⟩ := cellsK_ok h2
      rw [hput_eq] at h2
      refine ⟨_, _, _, h2, frame_map (hs F G hF hG _ _ _ _ h1) hb hbl fun v0 H0 n0 hk => ?_⟩
      rcases ckSl_iff.1 hk with ⟨_, hk⟩ | ⟨b', o, len, cap, rfl, hk⟩ | ⟨_, _, _, _, _, hk⟩
      · cases hk
      · obtain ⟨k1, hk⟩ := ifB_iff.1 hk
        obtain ⟨k2, hk⟩ := ifB_iff.1 hk
        obtain ⟨k3, hk⟩ := ifB_iff.1 hk
        obtain ⟨k4, hk⟩ := opn1_ok hk
        obtain ⟨k5, hk⟩ := ifB_iff.1 hk
        obtain ⟨k6, hk⟩ := ifB_iff.1 hk
        obtain ⟨_, hk⟩ := at_iff.1 hk
        obtain ⟨ro, exa, len', c', hcell, hk⟩ := ckCells_iff.1 hk
        have k1 := Nat.eq_of_beq_eq_true k1
        have k2 := Nat.eq_of_beq_eq_true k2
        have k3 := Nat.eq_of_beq_eq_true k3
        have k5 : n0 ≤ Nat.add n 64 := by simpa using k5
        cases ro with
        | true => exact (Bool.false_ne_true hk).elim
        | false =>
          obtain ⟨k7, k8⟩ := ifB_iff.1 hk
          have k7 : ks.length ≤ len' := by simpa using k7
          have k8 := samesI_ok k8
          refine ⟨by rw [k1, k2, k3, k4], k5, chkMap_ok k6, fun x hx => ?_⟩
          rw [hfn_put _ _ hq] at hx ⊢
          by_cases e : Nat.add (Nat.succ n) (Nat.mul 2 ks.length) = x
          · right
            subst e
            have hself : setB (hfn H) (Nat.add (Nat.succ n) (Nat.mul 2 ks.length)) (.cells false false ks.length c) (Nat.add (Nat.succ n) (Nat.mul 2 ks.length)) = .cells false false ks.length c := by simp [setB]
            rw [hself, hcell]
            refine ⟨?_, by simp, fun _ => rfl, fun θ B w l hr => ?_⟩
            · show n ≤ Nat.succ n + 2 * ks.length
              omega
            · obtain ⟨_, r2, r3⟩ := hr
              refine ⟨hdep, fun i hi => ?_, fun _ => ?_⟩
              · obtain ⟨v, hv, hcl⟩ := r2 i (by omega)
                refine ⟨v, ?_, hcl⟩
                have e1 : (c'.row 0 ks.length)[i]? = some (c'.get (0 + i)) := row_get hi
                rw [k8, Nat.zero_add] at e1
                have e2 : c.get i = c'.get i := by
                  rw [hget i hi, List.getD_eq_getElem?_getD, e1]
                  rfl
                rw [e2]
                exact hv
              · obtain ⟨hB, cs, te, hw, hcs, hle, _⟩ := r3 rfl
                exact ⟨hB, cs, te, hw, hcs, by omega, fun h => by cases h⟩
          · left
            show (if Nat.add (Nat.succ n) (Nat.mul 2 ks.length) = x then _ else hfn H x) = hfn H x
            rw [if_neg e]
      · cases hk

end
end Ev
