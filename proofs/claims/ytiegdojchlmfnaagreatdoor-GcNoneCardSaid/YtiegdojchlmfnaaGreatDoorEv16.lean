/- A part of the proof that GcNone returns true: text Ev16. -/
import Derived.Test.YtiegdojchlmfnaaGreatDoorEv15
import Derived.MapKept
namespace Ev
open Go
open Go.RowKit
noncomputable section

/-! ### Steps that turn memory -/

/-- From what was known ahead of a step to what is known behind it. -/
structure Went (P : Program) (θ : Theta) (h : Nat → Blk) (n B : Nat) (w : World) (θ' : Theta) (h' : Nat → Blk) (n' : Nat) (w' : World) : Prop where
  le : θ.le θ'
  num : n ≤ n'
  old : ∀ b, b < n → θ'.blk b = θ.blk b
  rel : HRel P θ' h' B w'
  fresh : Fresh θ' n'
  frm : Frm θ h w w'
  grows : Grows θ h h' θ' w

theorem Went.refl {P : Program} {θ : Theta} {h : Nat → Blk} {n B : Nat} {w : World} (r : HRel P θ h B w) (f : Fresh θ n) : Went P θ h n B w θ h n w :=
  ⟨Theta.le_refl _, Nat.le_refl _, fun _ _ => rfl, r, f, Frm.refl _ _ _, Grows.refl _ _ _⟩

theorem Went.trans {P : Program} {θ θ1 θ2 : Theta} {h h1 h2 : Nat → Blk} {n n1 n2 B : Nat} {w w1 w2 : World} (a : Went P θ h n B w θ1 h1 n1 w1) (b : Went P θ1 h1 n1 B w1 θ2 h2 n2 w2) : Went P θ h n B w θ2 h2 n2 w2 :=
  ⟨Theta.le_trans a.le b.le, Nat.le_trans a.num b.num, fun x hx => (b.old x (Nat.lt_of_lt_of_le hx a.num)).trans (a.old x hx), b.rel, b.fresh, a.frm.trans b.frm a.grows, a.grows.trans a.frm.size b.grows⟩

/-- What an operation answers, where it makes no call. -/
def Yields (P : Program) (o : Oper) (ac : Act) (w : World) (v' : Value) (w' : World) : Prop :=
  (execOp ac.eval o).run P w = .ok (.value v') w' ∨ ((execOp ac.eval o).run P w = .ok .skip w' ∧ v' = undef)

/-- What an operation that may turn memory comes to. -/
def HeavySpec (P : Program) (env : List AV) (o : Oper) (H : Heap) (n : Nat) (v : AV) (H' : Heap) (n' : Nat) : Prop :=
  ∀ (θ : Theta) (ac : Act) (w : World) (B : Nat), HRel P θ (hfn H) B w → Fresh θ n → B ≤ w.heap.size → Opd P θ env o ac →
    ∃ (v' : Value) (w' : World) (θ' : Theta), Yields P o ac w v' w' ∧ Went P θ (hfn H) n B w θ' (hfn H') n' w' ∧ VR θ' v v'

/-! ### Cells are set -/

structure SetOK (w w' : World) (b q : Nat) (vs : List Value) (cs : Array Value) (e : TypeId) : Prop where
  os : w'.os = w.os
  tape : w'.tape = w.tape
  output : w'.output = w.output
  size : w'.heap.size = w.heap.size
  other : ∀ k, k ≠ b → w'.heap[k]? = w.heap[k]?
  self : ∃ cs' : Array Value, w'.heap[b]? = some (.cells cs' e (0, 0)) ∧ cs'.size = cs.size ∧ ∀ j, cs'[j]? = if q ≤ j ∧ j < q + vs.length then vs[j - q]? else cs[j]?

theorem setCells_ok (b : Nat) (e : TypeId) : ∀ (vs : List Value) (q : Nat) (w : World) (cs : Array Value), w.heap[b]? = some (.cells cs e (0, 0)) → q + vs.length ≤ cs.size → SetOK w (w.setCells b q vs) b q vs cs e
  | [], q, w, cs, h, _ => ⟨rfl, rfl, rfl, rfl, fun _ _ => rfl, cs, h, rfl, fun j => by rw [if_neg (fun h => by have := h.2; simp at this; omega)]⟩
  | v :: vs, q, w, cs, h, hq => by
    simp only [List.length_cons] at hq
    have h1 := heap_setCell_self w (b := b) (o := q) v h
    have r := setCells_ok b e vs (q + 1) (w.setCell ⟨b, q, none⟩ v) (cs.setIfInBounds q v) h1 (by simp; omega)
    rw [World.setCells]
    refine ⟨r.os, r.tape, r.output, r.size.trans (heap_setCell_size _ _ _), fun k hk => (r.other k hk).trans (heap_setCell_ne _ _ _ (by simpa using hk)), ?_⟩
    obtain ⟨cs', h2, h3, h4⟩ := r.self
    refine ⟨cs', h2, by simpa using h3, fun j => ?_⟩
    rw [h4 j]
    simp only [List.length_cons]
    by_cases e1 : q = j
    · subst e1
      rw [if_neg (by omega), if_pos (by omega)]
      simp [Array.getElem?_setIfInBounds]
      omega
    · by_cases e2 : q + 1 ≤ j ∧ j < q + 1 + vs.length
      · rw [if_pos e2, if_pos (by omega)]
        obtain ⟨m, rfl⟩ : ∃ m, j = q + 1 + m := ⟨j - (q + 1), by omega⟩
        rw [show q + 1 + m - (q + 1) = m from by omega, show q + 1 + m - q = m + 1 from by omega]
        simp
      · rw [if_neg e2, if_neg (by omega)]
        simp [Array.getElem?_setIfInBounds, e1]

def allOne (l : List AV) (y : Bool) : Bool := List.rec (motive := fun _ => Bool) y (fun a _ ih => a.ckOne ih) l

theorem allOne_iff : ∀ {l : List AV} {y : Bool}, allOne l y = true → (∀ a ∈ l, a.one = true) ∧ y = true
  | [], y, h => ⟨fun a ha => by simp at ha, h⟩
  | a :: l, y, h => by
    have h : a.ckOne (allOne l y) = true := h
    obtain ⟨h1, h⟩ := ckOne_iff.1 h
    obtain ⟨h2, hy⟩ := allOne_iff h
    exact ⟨fun b hb => (List.mem_cons.1 hb).elim (fun e => e ▸ h1) (h2 b), hy⟩

theorem ones_conc {θ : Theta} : ∀ {l : List AV} {vs : List Value}, (∀ a ∈ l, a.one = true) → concs θ l = some vs → ∀ v ∈ vs, v.oneCell' = true
  | [], vs, _, h => by simp [concs] at h; subst h; intro v hv; simp at hv
  | a :: l, vs, h1, h => by
    obtain ⟨x, y, hx, hy, rfl⟩ := concs_cons.1 h
    intro v hv
    rcases List.mem_cons.1 hv with e | hv
    · rw [e]; exact (one_cells (h1 a (by simp)) hx).2
    · exact ones_conc (fun b hb => h1 b (by simp [hb])) hy v hv

def writeK (H : Heap) (b o : Nat) (l : List AV) (k : Heap → Bool) : Bool :=
  at_ H b fun bl => bl.ckCells fun ro ex len c => Bool.rec (ifB (Nat.ble (Nat.add o l.length) len) (allOne l (fillK l c o fun c => hput H b (.cells false ex len c) k))) false ro

theorem setB_self {h : Nat → Blk} {i : Nat} {b : Blk} : setB h i b i = b := by simp [setB]

/-- Cells of an own block are set: what is known behind that. -/
theorem went_set {P : Program} {θ : Theta} {h : Nat → Blk} {n B : Nat} {w : World} (r : HRel P θ h B w) (f : Fresh θ n) {b : Nat} {loc : Loc} (hl : θ.blk b = some loc) {ex : Bool} {len : Nat} {c c' : Cells}
    (hb : h b = .cells false ex len c) {l : List AV} {vs : List Value} {o : Nat} (hvs : concs θ l = some vs) (ho : o + l.length ≤ len) (hd : c'.dep = c.dep)
    (hg : ∀ j, j < c.dep → c'.get j = if o ≤ j ∧ j < o + l.length then l.getD (j - o) .bad else c.get j) (h1 : ∀ v ∈ vs, v.oneCell' = true) :
    (storeCells (loc.addr o) vs).run P w = .ok () (w.setCells loc.blk (loc.off + o) vs) ∧
    Went P θ h n B w θ (setB h b (.cells false ex len c')) n (w.setCells loc.blk (loc.off + o) vs) := by
  have hr := r.at hl
  rw [hb] at hr
  obtain ⟨hlen, hcells, hown⟩ := hr
  obtain ⟨hB, cs, e, hw, hs, hle, hex⟩ := hown rfl
  have hvl := concs_length hvs
  have hset := setCells_ok loc.blk e vs (loc.off + o) w cs hw (by omega)
  have hne : h b ≠ .dead := by rw [hb]; simp
  have hob : (h b).own = true := by rw [hb]; rfl
  have hother : ∀ k, k < w.heap.size → k ≠ loc.blk → (w.setCells loc.blk (loc.off + o) vs).heap[k]? = w.heap[k]? := fun k _ hk => hset.other k hk
  constructor
  · have hst := run_storeCells_cells (P := P) loc.blk (loc.off + o) vs 0 w (fun j hj => ?_) (fun j hj => ?_) h1
    · exact hst
    · simp only [World.cell?, hw]
      simp
      omega
    · simp [World.frozen?, hw]
  · refine ⟨Theta.le_refl _, Nat.le_refl _, fun _ _ => rfl, ?_, f, Frm.turn hob hl hset.os hset.tape hset.output (by rw [hset.size]; exact Nat.le_refl _) hother, Grows.turn w hob hl _⟩
    refine r.turn hne hl (by rw [hset.size]; exact Nat.le_refl _) hother _ ?_
    obtain ⟨cs', hw', hs', hg'⟩ := hset.self
    refine ⟨by rw [hd]; exact hlen, fun i hi => ?_, fun _ => ⟨hB, cs', e, hw', by rw [hs', hs], hle, hex⟩⟩
    rw [hg i (by omega)]
    obtain ⟨v, hv, hcv⟩ := hcells i hi
    have hcell : (w.setCells loc.blk (loc.off + o) vs).cell? (loc.addr i) = cs'[loc.off + i]? := by simp [World.cell?, Loc.addr, hw']
    have hcell0 : w.cell? (loc.addr i) = cs[loc.off + i]? := by simp [World.cell?, Loc.addr, hw]
    rw [hcell, hg']
    rw [hcell0] at hcv
    by_cases hin : o ≤ i ∧ i < o + l.length
    · rw [if_pos hin, if_pos (by omega)]
      obtain ⟨m, rfl⟩ : ∃ m, i = o + m := ⟨i - o, by omega⟩
      rw [show loc.off + (o + m) - (loc.off + o) = m from by omega, show o + m - o = m from by omega]
      have ha : l[m]? = some (l[m]'(by omega)) := List.getElem?_eq_getElem (by omega)
      obtain ⟨u, hu, hcu⟩ := concs_getElem hvs ha
      exact ⟨u, by rw [List.getD_eq_getElem?_getD, ha]; exact hcu, hu⟩
    · rw [if_neg hin, if_neg (by omega)]
      exact ⟨v, hv, hcv⟩

theorem writeK_ok {H : Heap} {b o : Nat} {l : List AV} {k : Heap → Bool} (h : writeK H b o l k = true) :
    ∃ bl, b < 32768 ∧ k (Tr.put 5 H b bl) = true ∧ (∀ a ∈ l, a.one = true) ∧ (∃ ex len c, hfn H b = .cells false ex len c ∧ o + l.length ≤ len) ∧
      ∀ (P : Program) (θ : Theta) (n B : Nat) (w : World) (vs : List Value) (loc : Loc), HRel P θ (hfn H) B w → Fresh θ n → θ.blk b = some loc → concs θ l = some vs →
        (storeCells (loc.addr o) vs).run P w = .ok () (w.setCells loc.blk (loc.off + o) vs) ∧ Went P θ (hfn H) n B w θ (hfn (Tr.put 5 H b bl)) n (w.setCells loc.blk (loc.off + o) vs) := by
  obtain ⟨hb, h⟩ := at_iff.1 h
  obtain ⟨ro, ex, len, c, hbl, h⟩ := ckCells_iff.1 h
  cases ro with
  | true => exact (Bool.false_ne_true h).elim
  | false =>
    obtain ⟨hle, h⟩ := ifB_iff.1 h
    have hle : o + l.length ≤ len := by simpa using hle
    obtain ⟨h1, h⟩ := allOne_iff h
    have hdl : ∀ (P : Program) (θ : Theta) (B : Nat) (w : World) (loc : Loc), HRel P θ (hfn H) B w → θ.blk b = some loc → len ≤ c.dep := by
      intro P θ B w loc r hl
      have hr := r.at hl
      rw [hbl] at hr
      exact hr.1
    by_cases hlen : len ≤ c.dep
    · obtain ⟨c', h, hd, hg⟩ := fillK_ok h (by omega)
      rw [hput_eq] at h
      refine ⟨_, hb, h, h1, ⟨ex, len, c, hbl, hle⟩, fun P θ n B w vs loc r f hl hvs => ?_⟩
      rw [hfn_put H _ hb]
      exact went_set r f hl hbl hvs hle hd hg (ones_conc h1 hvs)
    · have : ∃ c', k (Tr.put 5 H b (.cells false ex len c')) = true := by
        have key : ∀ (l : List AV) (c : Cells) (i : Nat) (k' : Cells → Bool), fillK l c i k' = true → ∃ c', k' c' = true := by
          intro l
          induction l with
          | nil => intro c i k' h; exact ⟨c, h⟩
          | cons a l ih =>
            intro c i k' h
            have h : (c.setK i a fun c => fillK l c (i + 1) k') = true := h
            rw [Cells.setK_eq] at h
            exact ih _ _ _ h
        obtain ⟨c', h⟩ := key _ _ _ _ h
        rw [hput_eq] at h
        exact ⟨c', h⟩
      obtain ⟨c', h⟩ := this
      exact ⟨_, hb, h, h1, ⟨ex, len, c, hbl, hle⟩, fun P θ n B w vs loc r f hl hvs => absurd (hdl P θ B w loc r hl) hlen⟩

/-! ### store -/

def storeE (P : Program) (t : Nat) (H : Heap) (a x : AV) (k : AV → Heap → Bool) : Bool :=
  cellsOfK x fun l => if (P.info? t).isSome then ifB (Nat.beq l.length (P.cellsOf t)) (a.ckPtr fun b o => writeK H b o l fun H => k .bad H) else false

theorem heavy_store {P : Program} {env : List AV} {o : Oper} {t : Nat} {a x : Operand} {H : Heap} {n : Nat} {k : AV → Heap → Bool} (ho : o.op = .store t a x)
    (h : storeE P t H (ev P env a) (ev P env x) k = true) : ∃ v H', k v H' = true ∧ HeavySpec P env o H n v H' n := by
  obtain ⟨l, h, hb, hl⟩ := cellsOfK_ok h
  split at h
  · rename_i hi
    obtain ⟨hlen, h⟩ := ifB_iff.1 h
    have hlen : l.length = P.cellsOf t := by simpa using hlen
    obtain ⟨b, q, ha, h⟩ := ckPtr_iff.1 h
    obtain ⟨bl, hb32, hk, h1, _, hq⟩ := writeK_ok h
    refine ⟨_, _, hk, fun θ ac w B r f hB hO => ?_⟩
    have vx := (hO.at (x := x) (by simp [ho, Op.operands])).conc hb
    have va := hO.at (x := a) (by simp [ho, Op.operands])
    rw [ha] at va
    obtain ⟨vs, hvs, hcells⟩ := hl θ _ vx
    obtain ⟨loc, hloc, va⟩ := va.ptr
    obtain ⟨hst, hw⟩ := hq P θ n B w vs loc r f hloc hvs
    cases hinf : P.info? t with
    | none => simp [hinf] at hi
    | some i =>
      refine ⟨undef, _, θ, .inr ⟨?_, rfl⟩, hw, .inl rfl⟩
      have hsz : (ac.eval x).cells.size = P.cellsOf t := by rw [hcells, ← hlen, ← concs_length hvs]; simp
      have hsv : (storeVar t (loc.addr q) (ac.eval x)).run P w = .ok () (w.setCells loc.blk (loc.off + q) vs) := by
        rw [← hst, ← List.toList_toArray (as := vs), ← hcells]
        simp [storeVar, run_sizeOf w hinf, hsz]
      simp [execOp, ho, va, Instr.storeAt, Instr.sureAddr, hsv]
  · cases h

end
end Ev
