/- A part of the proof that GcRoom returns true: text EvD. -/
import Derived.Test.YtfhilpdbmfbbdaaGreatDoorEvC
import Derived.MapKept
import Derived.Maps.RangeRun
namespace Ev
open Go
open Go.RowKit
noncomputable section
structure Went (P : Program) (θ : Theta) (h : Nat → Blk) (n B : Nat) (w : World) (θ' : Theta) (h' : Nat → Blk) (n' : Nat) (w' : World) : Prop where
  le : θ.le θ'
  num : n ≤ n'
  old : ∀ b, b < n → θ'.blk b = θ.blk b
  rel : HRel P θ' h' B w'
  fresh : Fresh θ' n'
  frm : Frm θ h w w'
  grows : Grows θ h h' θ' w
theorem Went.refl {P : Program} {θ : Theta} {h : Nat → Blk} {n B : Nat} {w : World} (r : HRel P θ h B w) (f : Fresh θ n) : Went P θ h n B w θ h n w :=
  ⟨Theta.le_refl _, Nat.le_refl _, fun _ _ => rfl, r, f, Frm.refl _ _ _, Grows.refl _ _ _⟩
theorem Went.trans {P : Program} {θ θ1 θ2 : Theta} {h h1 h2 : Nat → Blk} {n n1 n2 B : Nat} {w w1 w2 : World} (a : Went P θ h n B w θ1 h1 n1 w1) (b : Went P θ1 h1 n1 B w1 θ2 h2 n2 w2) : Went P θ h n B w θ2 h2 n2 w2 :=
  ⟨Theta.le_trans a.le b.le, Nat.le_trans a.num b.num, fun x hx => (b.old x (Nat.lt_of_lt_of_le hx a.num)).trans (a.old x hx), b.rel, b.fresh, a.frm.trans b.frm a.grows, a.grows.trans a.frm.size b.grows⟩
def Yields (P : Program) (o : Oper) (ac : Act) (w : World) (v' : Value) (w' : World) : Prop :=
  (execOp ac.eval o).run P w = .ok (.value v') w' ∨ ((execOp ac.eval o).run P w = .ok .skip w' ∧ v' = undef)
def HeavySpec (P : Program) (env : List AV) (o : Oper) (H : Heap) (n : Nat) (v : AV) (H' : Heap) (n' : Nat) : Prop :=
  ∀ (θ : Theta) (ac : Act) (w : World) (B : Nat), HRel P θ (hfn H) B w → Fresh θ n → B ≤ w.heap.size → Opd P θ env o ac →
    ∃ (v' : Value) (w' : World) (θ' : Theta), Yields P o ac w v' w' ∧ Went P θ (hfn H) n B w θ' (hfn H') n' w' ∧ VR θ' v v'
structure SetOK (w w' : World) (b q : Nat) (vs : List Value) (cs : Array Value) (e : TypeId) : Prop where
  os : w'.os = w.os
  tape : w'.tape = w.tape
  output : w'.output = w.output
  size : w'.heap.size = w.heap.size
  other : ∀ k, k ≠ b → w'.heap[k]? = w.heap[k]?
  self : ∃ cs' : Array Value, w'.heap[b]? = some (.cells cs' e (0, 0)) ∧ cs'.size = cs.size ∧ ∀ j, cs'[j]? = if q ≤ j ∧ j < q + vs.length then vs[j - q]? else cs[j]?
theorem setCells_ok (b : Nat) (e : TypeId) : ∀ (vs : List Value) (q : Nat) (w : World) (cs : Array Value), w.heap[b]? = some (.cells cs e (0, 0)) → q + vs.length ≤ cs.size → SetOK w (w.setCells b q vs) b q vs cs e
  | [], q, w, cs, h, _ => ⟨rfl, rfl, rfl, rfl, fun _ _ => rfl, cs, h, rfl, fun j => by rw [if_neg (fun h => by have := h.2; simp at this; omega)]⟩
  | v :: vs, q, w, cs, h, hq => by
    simp only [List.length_cons] at hq
    have h1 := heap_setCell_self w (b := b) (o := q) v h
    have r := setCells_ok b e vs (q + 1) (w.setCell ⟨b, q, none⟩ v) (cs.setIfInBounds q v) h1 (by simp; omega)
    rw [World.setCells]
    refine ⟨r.os, r.tape, r.output, r.size.trans (heap_setCell_size _ _ _), fun k hk => (r.other k hk).trans (heap_setCell_ne _ _ _ (by simpa using hk)), ?_⟩
    obtain ⟨cs', h2, h3, h4⟩ := r.self
    refine ⟨cs', h2, by simpa using h3, fun j => ?_⟩
    rw [h4 j]
    simp only [List.length_cons]
    by_cases e1 : q = j
    · subst e1
      rw [if_neg (by omega), if_pos (by omega)]
      simp [Array.getElem?_setIfInBounds]
      omega
    · by_cases e2 : q + 1 ≤ j ∧ j < q + 1 + vs.length
      · rw [if_pos e2, if_pos (by omega)]
        obtain ⟨m, rfl⟩ : ∃ m, j = q + 1 + m := ⟨j - (q + 1), by omega⟩
        rw [show q + 1 + m - (q + 1) = m from by omega, show q + 1 + m - q = m + 1 from by omega]
        simp
      · rw [if_neg e2, if_neg (by omega)]
        simp [e1]
def allOne (l : List AV) (y : Bool) : Bool := List.rec (motive := fun _ => Bool) y (fun a _ ih => a.ckOne ih) l
theorem allOne_iff : ∀ {l : List AV} {y : Bool}, allOne l y = true → (∀ a ∈ l, a.one = true) ∧ y = true
  | [], y, h => ⟨fun a ha => by simp at ha, h⟩
  | a :: l, y, h => by
    have h : a.ckOne (allOne l y) = true := h
    obtain ⟨h1, h⟩ := ckOne_iff.1 h
    obtain ⟨h2, hy⟩ := allOne_iff h
    exact ⟨fun b hb => (List.mem_cons.1 hb).elim (fun e => e ▸ h1) (h2 b), hy⟩
theorem ones_conc {θ : Theta} : ∀ {l : List AV} {vs : List Value}, (∀ a ∈ l, a.one = true) → concs θ l = some vs → ∀ v ∈ vs, v.oneCell' = true
  | [], vs, _, h => by simp [concs] at h; subst h; intro v hv; simp at hv
  | a :: l, vs, h1, h => by
    obtain ⟨x, y, hx, hy, rfl⟩ := concs_cons.1 h
    intro v hv
    rcases List.mem_cons.1 hv with e | hv
    · rw [e]; exact (one_cells (h1 a (by simp)) hx).2
    · exact ones_conc (fun b hb => h1 b (by simp [hb])) hy v hv
def writeK (H : Heap) (b o : Nat) (l : List AV) (k : Heap → Bool) : Bool :=
  at_ H b fun bl => bl.ckCells fun ro ex len c => Bool.rec (ifB (Nat.ble (Nat.add o l.length) len) (allOne l (fillK l c o fun c => hput H b (.cells false ex len c) k))) false ro
theorem went_set {P : Program} {θ : Theta} {h : Nat → Blk} {n B : Nat} {w : World} (r : HRel P θ h B w) (f : Fresh θ n) {b : Nat} {loc : Loc} (hl : θ.blk b = some loc) {ex : Bool} {len : Nat} {c c' : Cells}
    (hb : h b = .cells false ex len c) {l : List AV} {vs : List Value} {o : Nat} (hvs : concs θ l = some vs) (ho : o + l.length ≤ len) (hd : c'.dep = c.dep)
    (hg : ∀ j, j < c.dep → c'.get j = if o ≤ j ∧ j < o + l.length then l.getD (j - o) .bad else c.get j) (h1 : ∀ v ∈ vs, v.oneCell' = true) :
    (storeCells (loc.addr o) vs).run P w = .ok () (w.setCells loc.blk (loc.off + o) vs) ∧
    Went P θ h n B w θ (setB h b (.cells false ex len c')) n (w.setCells loc.blk (loc.off + o) vs) := by
  have hr := r.at hl
  rw [hb] at hr
  obtain ⟨hlen, hcells, hown⟩ := hr
  obtain ⟨hB, cs, e, hw, hs, hle, hex⟩ := hown rfl
  have hvl := concs_length hvs
  have hset := setCells_ok loc.blk e vs (loc.off + o) w cs hw (by omega)
  have hne : h b ≠ .dead := by rw [hb]; simp
  have hob : (h b).own = true := by rw [hb]; rfl
  have hother : ∀ k, k < w.heap.size → k ≠ loc.blk → (w.setCells loc.blk (loc.off + o) vs).heap[k]? = w.heap[k]? := fun k _ hk => hset.other k hk
  constructor
  · have hst := run_storeCells_cells (P := P) loc.blk (loc.off + o) vs 0 w (fun j hj => ?_) (fun j hj => ?_) h1
    · exact hst
    · simp only [World.cell?, hw]
      simp
      omega
    · simp [World.frozen?, hw]
  · refine ⟨Theta.le_refl _, Nat.le_refl _, fun _ _ => rfl, ?_, f, Frm.turn hob hl hset.os hset.tape hset.output (by rw [hset.size]; exact Nat.le_refl _) hother, Grows.turn w hob hl _⟩
    refine r.turn hne hl (by rw [hset.size]; exact Nat.le_refl _) hother _ ?_
    obtain ⟨cs', hw', hs', hg'⟩ := hset.self
    refine ⟨by rw [hd]; exact hlen, fun i hi => ?_, fun _ => ⟨hB, cs', e, hw', by rw [hs', hs], hle, hex⟩⟩
    rw [hg i (by omega)]
    obtain ⟨v, hv, hcv⟩ := hcells i hi
    have hcell : (w.setCells loc.blk (loc.off + o) vs).cell? (loc.addr i) = cs'[loc.off + i]? := by simp [World.cell?, Loc.addr, hw']
    have hcell0 : w.cell? (loc.addr i) = cs[loc.off + i]? := by simp [World.cell?, Loc.addr, hw]
    rw [hcell, hg']
    rw [hcell0] at hcv
    by_cases hin : o ≤ i ∧ i < o + l.length
    · rw [if_pos hin, if_pos (by omega)]
      obtain ⟨m, rfl⟩ : ∃ m, i = o + m := ⟨i - o, by omega⟩
      rw [show loc.off + (o + m) - (loc.off + o) = m from by omega, show o + m - o = m from by omega]
      have ha : l[m]? = some (l[m]'(by omega)) := List.getElem?_eq_getElem (by omega)
      obtain ⟨u, hu, hcu⟩ := concs_getElem hvs ha
      exact ⟨u, by rw [List.getD_eq_getElem?_getD, ha]; exact hcu, hu⟩
    · rw [if_neg hin, if_neg (by omega)]
      exact ⟨v, hv, hcv⟩
theorem writeK_ok {H : Heap} {b o : Nat} {l : List AV} {k : Heap → Bool} (h : writeK H b o l k = true) :
    ∃ bl, b < 32768 ∧ k (Tr.put 5 H b bl) = true ∧ (∀ a ∈ l, a.one = true) ∧ (∃ ex len c, hfn H b = .cells false ex len c ∧ o + l.length ≤ len) ∧
      ∀ (P : Program) (θ : Theta) (n B : Nat) (w : World) (vs : List Value) (loc : Loc), HRel P θ (hfn H) B w → Fresh θ n → θ.blk b = some loc → concs θ l = some vs →
        (storeCells (loc.addr o) vs).run P w = .ok () (w.setCells loc.blk (loc.off + o) vs) ∧ Went P θ (hfn H) n B w θ (hfn (Tr.put 5 H b bl)) n (w.setCells loc.blk (loc.off + o) vs) := by
  obtain ⟨hb, h⟩ := at_iff.1 h
  obtain ⟨ro, ex, len, c, hbl, h⟩ := ckCells_iff.1 h
  cases ro with
  | true => exact (Bool.false_ne_true h).elim
  | false =>
    obtain ⟨hle, h⟩ := ifB_iff.1 h
    have hle : o + l.length ≤ len := by simpa using hle
    obtain ⟨h1, h⟩ := allOne_iff h
    have hdl : ∀ (P : Program) (θ : Theta) (B : Nat) (w : World) (loc : Loc), HRel P θ (hfn H) B w → θ.blk b = some loc → len ≤ c.dep := by
      intro P θ B w loc r hl
      have hr := r.at hl
      rw [hbl] at hr
      exact hr.1
    by_cases hlen : len ≤ c.dep
    · obtain ⟨c', h, hd, hg⟩ := fillK_ok h (by omega)
      rw [hput_eq] at h
      refine ⟨_, hb, h, h1, ⟨ex, len, c, hbl, hle⟩, fun P θ n B w vs loc r f hl hvs => ?_⟩
      rw [hfn_put H _ hb]
      exact went_set r f hl hbl hvs hle hd hg (ones_conc h1 hvs)
    · have : ∃ c', k (Tr.put 5 H b (.cells false ex len c')) = true := by
        have key : ∀ (l : List AV) (c : Cells) (i : Nat) (k' : Cells → Bool), fillK l c i k' = true → ∃ c', k' c' = true := by
          intro l
          induction l with
          | nil => intro c i k' h; exact ⟨c, h⟩
          | cons a l ih =>
            intro c i k' h
            have h : (c.setK i a fun c => fillK l c (i + 1) k') = true := h
            rw [Cells.setK_eq] at h
            exact ih _ _ _ h
        obtain ⟨c', h⟩ := key _ _ _ _ h
        rw [hput_eq] at h
        exact ⟨c', h⟩
      obtain ⟨c', h⟩ := this
      exact ⟨_, hb, h, h1, ⟨ex, len, c, hbl, hle⟩, fun P θ n B w vs loc r f hl hvs => absurd (hdl P θ B w loc r hl) hlen⟩
def Blk.orSplit (b : Blk) (y : Bool) (f : Nat → Nat → Nat → Nat → Nat → Nat → Cells → Cells → Bool) : Bool :=
  Blk.rec (motive := fun _ => Bool) y (fun _ _ _ _ => y) (fun _ _ => y) (fun _ _ _ _ => y) (fun _ _ _ => y) y f b
theorem orSplit_iff {b : Blk} {y : Bool} {f : Nat → Nat → Nat → Nat → Nat → Nat → Cells → Cells → Bool} (h : b.orSplit y f = true) : (∃ s lo hi m es n cp cw, b = .split s lo hi m es n cp cw ∧ f s lo hi m es n cp cw = true) ∨ y = true := by
  cases b <;> first | exact .inr h | exact .inl ⟨_, _, _, _, _, _, _, _, rfl, h⟩
def writeP (H : Heap) (b o : Nat) (l : List AV) (k : Heap → Bool) : Bool :=
  at_ H b fun bl => bl.orSplit (writeK H b o l k) fun s lo hi m es n cp cw => ifB (Nat.ble (Nat.add o l.length) (Nat.mul m es)) (allOne l (fillK l cp o fun cp => hput H b (.split s lo hi m es n cp cw) k))
def writeW (H : Heap) (b s es o : Nat) (l : List AV) (k : Heap → Bool) : Bool :=
  at_ H b fun bl => bl.orSplit false fun s' lo hi m es' n cp cw => ifB (Nat.beq s s') (ifB (Nat.beq es es') (ifB (Nat.ble (Nat.add o l.length) (Nat.mul n es')) (allOne l (fillK l cw o fun cw => hput H b (.split s' lo hi m es' n cp cw) k))))
def storeAt (H : Heap) (a : AV) (l : List AV) (k : Heap → Bool) : Bool := a.ckPS (fun b o => writeP H b o l k) fun t => t.ckP fun b s _ _ es o => writeW H b s es o l k
theorem fillK_some : ∀ {l : List AV} {c : Cells} {i : Nat} {k' : Cells → Bool}, fillK l c i k' = true → ∃ c', k' c' = true
  | [], c, i, k', h => ⟨c, h⟩
  | a :: l, c, i, k', h => by
    have h : (c.setK i a fun c => fillK l c (i + 1) k') = true := h
    rw [Cells.setK_eq] at h
    exact fillK_some h
theorem went_split {P : Program} {θ : Theta} {h : Nat → Blk} {n B : Nat} {w : World} (r : HRel P θ h B w) (f : Fresh θ n) {b : Nat} {loc : Loc} (hl : θ.blk b = some loc) {s lo hi m es q : Nat} {cp cw cp' cw' : Cells}
    (hb : h b = .split s lo hi m es q cp cw) {l : List AV} {vs : List Value} {Q : Nat} (hvs : concs θ l = some vs) (h1 : ∀ v ∈ vs, v.oneCell' = true) {z : Nat} (hz : θ.num s lo hi = some (z : Int))
    (hQ : Q + l.length ≤ m * es ∨ (z * es ≤ Q ∧ Q + l.length ≤ z * es + q * es)) (hdp : cp'.dep = cp.dep) (hdw : cw'.dep = cw.dep)
    (hgp : ∀ j, j < m * es → cp'.get j = if Q ≤ j ∧ j < Q + l.length then l.getD (j - Q) .bad else cp.get j)
    (hgw : ∀ j, j < q * es → cw'.get j = if Q ≤ z * es + j ∧ z * es + j < Q + l.length then l.getD (z * es + j - Q) .bad else cw.get j) :
    (storeCells (loc.addr Q) vs).run P w = .ok () (w.setCells loc.blk (loc.off + Q) vs) ∧ Went P θ h n B w θ (setB h b (.split s lo hi m es q cp' cw')) n (w.setCells loc.blk (loc.off + Q) vs) := by
  have hr := r.at hl
  rw [hb] at hr
  obtain ⟨hB, y, cs, e, hy, hw, hsz, hes, hm, hq, hd1, hd2, h3, h4, h5⟩ := hr
  have hyz := num_same hz hy
  subst hyz
  simp only [Int.toNat_natCast] at hm hq h4 h5
  have hme : m * es ≤ z * es := Nat.mul_le_mul_right _ hm
  rw [Nat.add_mul] at hq
  have hvl := concs_length hvs
  have hset := setCells_ok loc.blk e vs (loc.off + Q) w cs hw (by rcases hQ with h | h <;> omega)
  have hne : h b ≠ .dead := by rw [hb]; simp
  have hob : (h b).own = true := by rw [hb]; rfl
  have hother : ∀ k, k < w.heap.size → k ≠ loc.blk → (w.setCells loc.blk (loc.off + Q) vs).heap[k]? = w.heap[k]? := fun k _ hk => hset.other k hk
  have hlist : ∀ i, i < l.length → ∃ v, Ev.conc θ (l.getD i .bad) = some v ∧ vs[i]? = some v := by
    intro i hi
    have ha : l[i]? = some (l[i]'hi) := List.getElem?_eq_getElem hi
    obtain ⟨u, hu, hcu⟩ := concs_getElem hvs ha
    exact ⟨u, by rw [List.getD_eq_getElem?_getD, ha]; exact hcu, hu⟩
  constructor
  · have hst := run_storeCells_cells (P := P) loc.blk (loc.off + Q) vs 0 w (fun j hj => ?_) (fun j hj => ?_) h1
    · exact hst
    · simp only [World.cell?, hw]
      simp
      rcases hQ with h | h <;> omega
    · simp [World.frozen?, hw]
  · refine ⟨Theta.le_refl _, Nat.le_refl _, fun _ _ => rfl, ?_, f, Frm.turn hob hl hset.os hset.tape hset.output (by rw [hset.size]; exact Nat.le_refl _) hother, Grows.turn w hob hl _⟩
    refine r.turn hne hl (by rw [hset.size]; exact Nat.le_refl _) hother _ ?_
    obtain ⟨cs', hw', hs', hg'⟩ := hset.self
    refine ⟨hB, z, cs', e, hz, hw', by rw [hs', hsz], hes, by simpa using hm, by simp only [Int.toNat_natCast]; rw [Nat.add_mul]; exact hq, by rw [hdp]; exact hd1, by rw [hdw]; exact hd2, fun i hi => ?_, fun i hi => ?_, fun i v hi hv => ?_⟩
    · rw [hgp i hi, hg', hvl]
      by_cases hin : Q ≤ i ∧ i < Q + l.length
      · rw [if_pos hin, if_pos (by omega), show loc.off + i - (loc.off + Q) = i - Q from by omega]
        exact hlist _ (by omega)
      · rw [if_neg hin, if_neg (by omega)]
        exact h3 i hi
    · simp only [Int.toNat_natCast]
      rw [hgw i hi, hg', hvl]
      by_cases hin : Q ≤ z * es + i ∧ z * es + i < Q + l.length
      · rw [if_pos hin, if_pos (by omega), show loc.off + (z * es + i) - (loc.off + Q) = z * es + i - Q from by omega]
        exact hlist _ (by omega)
      · rw [if_neg hin, if_neg (by omega)]
        exact h4 i hi
    · rw [hg', hvl] at hv
      by_cases hin : Q ≤ i ∧ i < Q + l.length
      · rw [if_pos (by omega)] at hv
        exact h1 v (List.mem_of_getElem? hv)
      · rw [if_neg (by omega)] at hv
        exact h5 i v hi hv
theorem split_num {P : Program} {θ : Theta} {B : Nat} {w : World} {loc : Loc} {s lo hi m es q : Nat} {cp cw : Cells} (r : BRel P θ B w loc (.split s lo hi m es q cp cw)) : ∃ z : Nat, θ.num s lo hi = some (z : Int) ∧ m ≤ z ∧ m * es ≤ cp.dep ∧ q * es ≤ cw.dep := by
  obtain ⟨hB, y, cs, e, hy, hw, hsz, hes, hm, hq, hd1, hd2, _⟩ := r
  obtain ⟨_, h1, _⟩ := num_some hy
  obtain ⟨z, rfl⟩ : ∃ z : Nat, y = z := ⟨y.toNat, by omega⟩
  exact ⟨z, hy, by simpa using hm, hd1, hd2⟩
theorem storeAt_ok {H : Heap} {a : AV} {l : List AV} {k : Heap → Bool} (h : storeAt H a l k = true) :
    ∃ H', k H' = true ∧ ∀ (P : Program) (θ : Theta) (n B : Nat) (w : World) (av : Value) (vs : List Value), HRel P θ (hfn H) B w → Fresh θ n → VR θ a av → concs θ l = some vs →
      ∃ ad w', av = .pointer (some ad) ∧ (storeCells ad vs).run P w = .ok () w' ∧ Went P θ (hfn H) n B w θ (hfn H') n w' := by
  rcases ckPS_iff h with ⟨t, ha, h0⟩ | h0
  · clear h
    obtain ⟨b, s, lo, hi, es, o, et, h1⟩ := SymT.ckP_iff h0
    clear h0
    subst et
    obtain ⟨hb, h2⟩ := at_iff.1 h1
    rcases orSplit_iff h2 with ⟨s', lo', hi', m, es', q, cp, cw, hbl, h3⟩ | h3
    · clear h1 h2
      obtain ⟨e1, h3⟩ := ifB_iff.1 h3
      obtain ⟨e2, h3⟩ := ifB_iff.1 h3
      obtain ⟨hle, h3⟩ := ifB_iff.1 h3
      have e1 := Nat.eq_of_beq_eq_true e1
      have e2 := Nat.eq_of_beq_eq_true e2
      subst e1 e2
      have hle : o + l.length ≤ q * es := by simpa using hle
      obtain ⟨hone, h3⟩ := allOne_iff h3
      by_cases hd : q * es ≤ cw.dep
      · obtain ⟨cw', h4, hdw, hg⟩ := fillK_ok h3 (by omega)
        rw [hput_eq] at h4
        refine ⟨_, h4, fun P θ n B w av vs r fr hv hvs => ?_⟩
        rw [ha] at hv
        obtain ⟨y, loc, hy, hloc, _, rfl⟩ := hv.symP
        have hr := r.at hloc
        rw [hbl] at hr
        obtain ⟨z, hz, hm, _, _⟩ := split_num hr
        obtain rfl : y = z := by have := num_same hy hz; omega
        have hme : m * es ≤ y * es := Nat.mul_le_mul_right _ hm
        have hw := went_split r fr hloc hbl (cp' := cp) (cw' := cw') (Q := y * es + o) hvs (ones_conc hone hvs) hz (.inr ⟨by omega, by omega⟩) rfl hdw
          (fun j hj => by rw [if_neg (by omega)])
          (fun j hj => by
            rw [hg j (by omega)]
            by_cases hin : o ≤ j ∧ j < o + l.length
            · rw [if_pos hin, if_pos (by omega), show y * es + j - (y * es + o) = j - o from by omega]
            · rw [if_neg hin, if_neg (by omega)])
        refine ⟨_, _, rfl, hw.1, ?_⟩
        rw [hfn_put _ _ hb]
        exact hw.2
      · obtain ⟨cw', h4⟩ := fillK_some h3
        rw [hput_eq] at h4
        refine ⟨_, h4, fun P θ n B w av vs r fr hv hvs => ?_⟩
        rw [ha] at hv
        obtain ⟨y, loc, hy, hloc, _, rfl⟩ := hv.symP
        have hr := r.at hloc
        rw [hbl] at hr
        obtain ⟨z, hz, hm, _, hd'⟩ := split_num hr
        exact absurd hd' hd
    · cases h3
  · clear h
    obtain ⟨b, o, ha, h1⟩ := ckPtr_iff.1 h0
    clear h0
    obtain ⟨hb, h2⟩ := at_iff.1 h1
    rcases orSplit_iff h2 with ⟨s', lo', hi', m, es', q, cp, cw, hbl, h3⟩ | h3
    · clear h1 h2
      obtain ⟨hle, h3⟩ := ifB_iff.1 h3
      have hle : o + l.length ≤ m * es' := by simpa using hle
      obtain ⟨hone, h3⟩ := allOne_iff h3
      by_cases hd : m * es' ≤ cp.dep
      · obtain ⟨cp', h4, hdp, hg⟩ := fillK_ok h3 (by omega)
        rw [hput_eq] at h4
        refine ⟨_, h4, fun P θ n B w av vs r fr hv hvs => ?_⟩
        rw [ha] at hv
        obtain ⟨loc, hloc, rfl⟩ := hv.ptr
        have hr := r.at hloc
        rw [hbl] at hr
        obtain ⟨z, hz, hm, _, _⟩ := split_num hr
        have hme : m * es' ≤ z * es' := Nat.mul_le_mul_right _ hm
        have hw := went_split r fr hloc hbl (cp' := cp') (cw' := cw) (Q := o) hvs (ones_conc hone hvs) hz (.inl hle) hdp rfl (fun j hj => hg j (by omega)) (fun j hj => by rw [if_neg (by omega)])
        refine ⟨_, _, rfl, hw.1, ?_⟩
        rw [hfn_put _ _ hb]
        exact hw.2
      · obtain ⟨cp', h4⟩ := fillK_some h3
        rw [hput_eq] at h4
        refine ⟨_, h4, fun P θ n B w av vs r fr hv hvs => ?_⟩
        rw [ha] at hv
        obtain ⟨loc, hloc, rfl⟩ := hv.ptr
        have hr := r.at hloc
        rw [hbl] at hr
        obtain ⟨z, hz, hm, hd', _⟩ := split_num hr
        exact absurd hd' hd
    · clear h1 h2
      obtain ⟨bl, hb32, hk, hone, _, hq⟩ := writeK_ok h3
      refine ⟨_, hk, fun P θ n B w av vs r fr hv hvs => ?_⟩
      rw [ha] at hv
      obtain ⟨loc, hloc, rfl⟩ := hv.ptr
      obtain ⟨hst, hw⟩ := hq P θ n B w vs loc r fr hloc hvs
      exact ⟨_, _, rfl, hst, hw⟩
def storeE (P : Program) (t : Nat) (H : Heap) (a x : AV) (k : AV → Heap → Bool) : Bool :=
  cellsOfK x fun l => iteS ((P.info? t).isSome = true) (ifB (Nat.beq l.length (P.cellsOf t)) (storeAt H a l fun H => k .bad H)) false
theorem heavy_store {P : Program} {env : List AV} {o : Oper} {t : Nat} {a x : Operand} {H : Heap} {n : Nat} {k : AV → Heap → Bool} (ho : o.op = .store t a x)
    (h : storeE P t H (ev P env a) (ev P env x) k = true) : ∃ v H', k v H' = true ∧ HeavySpec P env o H n v H' n := by
  obtain ⟨l, h, hb, hl⟩ := cellsOfK_ok h
  rw [iteS_eq] at h
  split at h
  · rename_i hi
    obtain ⟨hlen, h⟩ := ifB_iff.1 h
    have hlen : l.length = P.cellsOf t := by simpa using hlen
    obtain ⟨H', hk, hq⟩ := storeAt_ok h
    refine ⟨_, _, hk, fun θ ac w B r f hB hO => ?_⟩
    have vx := (hO.at (x := x) (by simp [ho, Op.operands])).conc hb
    have va := hO.at (x := a) (by simp [ho, Op.operands])
    obtain ⟨vs, hvs, hcells⟩ := hl θ _ vx
    obtain ⟨ad, w', va, hst, hw⟩ := hq P θ n B w _ vs r f va hvs
    cases hinf : P.info? t with
    | none => simp [hinf] at hi
    | some i =>
      refine ⟨undef, w', θ, .inr ⟨?_, rfl⟩, hw, .inl rfl⟩
      have hsz : (ac.eval x).cells.size = P.cellsOf t := by rw [hcells, ← hlen, ← concs_length hvs]; simp
      have hsv : (storeVar t ad (ac.eval x)).run P w = .ok () w' := by
        rw [← hst, ← List.toList_toArray (as := vs), ← hcells]
        simp [storeVar, run_sizeOf w hinf, hsz]
      simp [execOp, ho, va, Instr.storeAt, Instr.sureAddr, hsv]
  · cases h
end
end Ev
namespace Ev
open Go
open Go.RowKit
noncomputable section
theorem went_alloc {P : Program} {θ : Theta} {h : Nat → Blk} {n B : Nat} {w w' : World} (r : HRel P θ h B w) (f : Fresh θ n) {ob : Obj} {b : Blk} {sz : Nat}
    (hh : w'.heap = w.heap.push ob) (ho : w'.os = w.os) (ht : w'.tape = w.tape) (hu : w'.output = w.output)
    (hb : BRel P (θ.add n ⟨w.heap.size, 0, sz⟩) B (w.alloc ob) ⟨w.heap.size, 0, sz⟩ b) : Went P θ h n B w (θ.add n ⟨w.heap.size, 0, sz⟩) (setB h n b) (n + 1) w' := by
  have hi := f n (Nat.le_refl _)
  have hh' : w'.heap = (w.alloc ob).heap := hh
  refine ⟨Theta.le_add hi _, by omega, fun x hx => ?_, ?_, f.add (by omega) (by omega), ?_, Grows.add r n b sz⟩
  · show (if n = x then _ else θ.blk x) = _
    rw [if_neg (by omega)]
  · exact (r.alloc hi ob b sz hb).keep (Theta.le_refl _) (by rw [hh']; exact Nat.le_refl _) (fun x l _ _ => by rw [hh'])
  · have := Frm.alloc θ h w ob
    exact ⟨ho, ht, hu, by rw [hh']; exact this.size, fun k hk hn => by rw [hh']; exact this.block k hk hn⟩
theorem went_kill {P : Program} {θ : Theta} {h : Nat → Blk} {n B : Nat} {w : World} (r : HRel P θ h B w) (f : Fresh θ n) (b : Nat) : Went P θ h n B w θ (setB h b .dead) n w := by
  have hd : ∀ x, setB h b .dead x ≠ .dead → b ≠ x ∧ setB h b .dead x = h x := by
    intro x hx
    by_cases e : b = x
    · exact absurd (by simp [setB, e]) hx
    · exact ⟨e, by simp [setB, e]⟩
  refine ⟨Theta.le_refl _, Nat.le_refl _, fun _ _ => rfl, r.weaken (fun x hx => (hd x hx).2), f, Frm.refl _ _ _, fun x l hx hl => ?_, fun x l hx hl => ?_⟩
  · have := hd x (own_ne hx)
    exact .inl ⟨x, l, by rw [← this.2]; exact hx, hl, rfl⟩
  · have := hd x hx
    exact .inl ⟨x, l, by rw [← this.2]; exact hx, hl, rfl⟩
theorem went_move {P : Program} {θ : Theta} {h : Nat → Blk} {n B : Nat} {w : World} (r : HRel P θ h B w) (f : Fresh θ n) {b : Nat} {loc : Loc} (hl : θ.blk b = some loc) {ex : Bool} {len : Nat} {c : Cells}
    (hb : h b = .cells false ex len c) {o q : Nat} {l : List AV} {vs : List Value} {c' : Cells} (hvs : concs θ l = some vs) (h1 : ∀ v ∈ vs, v.oneCell' = true)
    (hroom : o + q + l.length ≤ loc.size) (hkn : o + q ≤ len) (hd : q + l.length ≤ c'.dep)
    (hg : ∀ j, j < q + l.length → c'.get j = if j < q then c.get (o + j) else l.getD (j - q) .bad) :
    (storeCells (loc.addr (o + q)) vs).run P w = .ok () (w.setCells loc.blk (loc.off + (o + q)) vs) ∧
    Went P θ h n B w (θ.add n ⟨loc.blk, loc.off + o, loc.size - o⟩) (setB (setB h b .dead) n (.cells false false (q + l.length) c')) (n + 1) (w.setCells loc.blk (loc.off + (o + q)) vs) := by
  have hr := r.at hl
  rw [hb] at hr
  obtain ⟨hlen, hcells, hown⟩ := hr
  obtain ⟨hB, cs, e, hw, hs, hle, hex⟩ := hown rfl
  have hvl := concs_length hvs
  have hset := setCells_ok loc.blk e vs (loc.off + (o + q)) w cs hw (by omega)
  have hob : (h b).own = true := by rw [hb]; rfl
  have hnb : h b ≠ .dead := own_ne hob
  have hi := f n (Nat.le_refl _)
  have hbn : b ≠ n := by intro e; rw [e, hi] at hl; cases hl
  have hθ : θ.le (θ.add n ⟨loc.blk, loc.off + o, loc.size - o⟩) := Theta.le_add hi _
  have hother : ∀ k, k < w.heap.size → k ≠ loc.blk → (w.setCells loc.blk (loc.off + (o + q)) vs).heap[k]? = w.heap[k]? := fun k _ hk => hset.other k hk
  have hsize : w.heap.size ≤ (w.setCells loc.blk (loc.off + (o + q)) vs).heap.size := by rw [hset.size]; exact Nat.le_refl _
  constructor
  · have hst := run_storeCells_cells (P := P) loc.blk (loc.off + (o + q)) vs 0 w (fun j hj => ?_) (fun j hj => ?_) h1
    · exact hst
    · simp only [World.cell?, hw]
      simp
      omega
    · simp [World.frozen?, hw]
  · have known : ∀ x, x ≠ n → setB (setB h b .dead) n (.cells false false (q + l.length) c') x ≠ .dead → b ≠ x ∧ setB (setB h b .dead) n (.cells false false (q + l.length) c') x = h x := by
      intro x hx hxd
      simp only [setB, if_neg (Ne.symm hx)] at hxd ⊢
      by_cases e : b = x
      · rw [if_pos e] at hxd; exact absurd rfl hxd
      · rw [if_neg e]; exact ⟨e, rfl⟩
    have addx : ∀ x, x ≠ n → (θ.add n ⟨loc.blk, loc.off + o, loc.size - o⟩).blk x = θ.blk x := fun x hx => by
      show (if n = x then _ else θ.blk x) = _
      rw [if_neg (Ne.symm hx)]
    refine ⟨hθ, by omega, fun x hx => addx x (by omega), ⟨fun x hx => ?_, fun x y m m' hx hy e1 e2 e3 => ?_⟩, f.add (by omega) (by omega),
      Frm.turn hob hl hset.os hset.tape hset.output hsize hother, ⟨fun x m hx hm => ?_, fun x m hx hm => ?_⟩⟩
    · by_cases e : x = n
      · subst e
        refine ⟨_, Theta.add_self _ _ _, Nat.lt_of_lt_of_le (show loc.blk < w.heap.size from r.lt hnb hl) hsize, ?_⟩
        obtain ⟨cs', hw', hs', hg'⟩ := hset.self
        simp only [setB, if_true]
        refine ⟨hd, fun i hi' => ?_, fun _ => ⟨hB, cs', e, hw', by simp only [hs', hs]; omega, by simp only; omega, by simp⟩⟩
        have hcell : (w.setCells loc.blk (loc.off + (o + q)) vs).cell? ((⟨loc.blk, loc.off + o, loc.size - o⟩ : Loc).addr i) = cs'[loc.off + o + i]? := by simp [World.cell?, Loc.addr, hw']
        rw [hcell, hg', hg i hi']
        by_cases hiq : i < q
        · rw [if_pos hiq, if_neg (by omega)]
          obtain ⟨v, hv, hcv⟩ := hcells (o + i) (by omega)
          have hcell0 : w.cell? (loc.addr (o + i)) = cs[loc.off + (o + i)]? := by simp [World.cell?, Loc.addr, hw]
          rw [hcell0] at hcv
          exact ⟨v, conc_le hθ _ _ hv, by rw [← hcv]; congr 1; omega⟩
        · rw [if_neg hiq, if_pos (by omega)]
          obtain ⟨m, rfl⟩ : ∃ m, i = q + m := ⟨i - q, by omega⟩
          rw [show loc.off + o + (q + m) - (loc.off + (o + q)) = m from by omega, show q + m - q = m from by omega]
          have ha : l[m]? = some (l[m]'(by omega)) := List.getElem?_eq_getElem (by omega)
          obtain ⟨u, hu, hcu⟩ := concs_getElem hvs ha
          exact ⟨u, by rw [List.getD_eq_getElem?_getD, ha]; exact conc_le hθ _ _ hcu, hu⟩
      · obtain ⟨hbx, hxe⟩ := known x e hx
        rw [hxe] at hx ⊢
        obtain ⟨m, hm, hlt, hr⟩ := r.blk x hx
        exact ⟨m, by rw [addx x e]; exact hm, Nat.lt_of_lt_of_le hlt hsize, hr.keep hθ (hother _ hlt (fun e' => hbx (r.inj b x loc m hnb hx hl hm e'.symm)))⟩
    · have far : ∀ x m, x ≠ n → setB (setB h b .dead) n (.cells false false (q + l.length) c') x ≠ .dead → θ.blk x = some m → m.blk ≠ loc.blk := by
        intro x m hx hxd hm e
        obtain ⟨hbx, hxe⟩ := known x hx hxd
        rw [hxe] at hxd
        exact hbx (r.inj b x loc m hnb hxd hl hm e.symm)
      by_cases ex : x = n
      · by_cases ey : y = n
        · rw [ex, ey]
        · subst ex
          rw [Theta.add_self] at e1; injection e1 with e1; subst e1
          rw [addx y ey] at e2
          exact absurd e3.symm (far y m' ey hy e2)
      · by_cases ey : y = n
        · subst ey
          rw [Theta.add_self] at e2; injection e2 with e2; subst e2
          rw [addx x ex] at e1
          exact absurd e3 (far x m ex hx e1)
        · rw [addx x ex] at e1
          rw [addx y ey] at e2
          obtain ⟨_, hxe⟩ := known x ex hx
          obtain ⟨_, hye⟩ := known y ey hy
          rw [hxe] at hx; rw [hye] at hy
          exact r.inj x y m m' hx hy e1 e2 e3
    · by_cases e : x = n
      · subst e
        rw [Theta.add_self] at hm; injection hm with hm; subst hm
        exact .inl ⟨b, loc, hob, hl, rfl⟩
      · obtain ⟨_, hxe⟩ := known x e (own_ne hx)
        rw [addx x e] at hm
        exact .inl ⟨x, m, by rw [← hxe]; exact hx, hm, rfl⟩
    · by_cases e : x = n
      · subst e
        rw [Theta.add_self] at hm; injection hm with hm; subst hm
        exact .inl ⟨b, loc, hnb, hl, rfl⟩
      · obtain ⟨_, hxe⟩ := known x e hx
        rw [addx x e] at hm
        exact .inl ⟨x, m, by rw [← hxe]; exact hx, hm, rfl⟩
theorem went_rebind {P : Program} {θ : Theta} {h : Nat → Blk} {n B : Nat} {w w' : World} (r : HRel P θ h B w) (f : Fresh θ n) {b : Nat} {loc loc' : Loc} (hl : θ.blk b = some loc) (hob : (h b).own = true) (hlb : loc'.blk = loc.blk)
    (ho : w'.os = w.os) (ht : w'.tape = w.tape) (hu : w'.output = w.output) (hsize : w.heap.size ≤ w'.heap.size) (hother : ∀ k, k < w.heap.size → k ≠ loc.blk → w'.heap[k]? = w.heap[k]?)
    (b' : Blk) (hb' : BRel P (θ.add n loc') B w' loc' b') : Went P θ h n B w (θ.add n loc') (setB (setB h b .dead) n b') (n + 1) w' := by
  have hnb : h b ≠ .dead := own_ne hob
  have hi := f n (Nat.le_refl _)
  have hbn : b ≠ n := by intro e; rw [e, hi] at hl; cases hl
  have hθ : θ.le (θ.add n loc') := Theta.le_add hi _
  have known : ∀ x, x ≠ n → setB (setB h b .dead) n b' x ≠ .dead → b ≠ x ∧ setB (setB h b .dead) n b' x = h x := by
    intro x hx hxd
    simp only [setB, if_neg (Ne.symm hx)] at hxd ⊢
    by_cases e : b = x
    · rw [if_pos e] at hxd; exact absurd rfl hxd
    · rw [if_neg e]; exact ⟨e, rfl⟩
  have addx : ∀ x, x ≠ n → (θ.add n loc').blk x = θ.blk x := fun x hx => by
    show (if n = x then _ else θ.blk x) = _
    rw [if_neg (Ne.symm hx)]
  refine ⟨hθ, by omega, fun x hx => addx x (by omega), ⟨fun x hx => ?_, fun x y m m' hx hy e1 e2 e3 => ?_⟩, f.add (by omega) (by omega),
    Frm.turn hob hl ho ht hu hsize hother, ⟨fun x m hx hm => ?_, fun x m hx hm => ?_⟩⟩
  · by_cases e : x = n
    · subst e
      refine ⟨_, Theta.add_self _ _ _, Nat.lt_of_lt_of_le (show loc'.blk < w.heap.size from hlb ▸ r.lt hnb hl) hsize, ?_⟩
      simp only [setB, if_true]
      exact hb'
    · obtain ⟨hbx, hxe⟩ := known x e hx
      rw [hxe] at hx ⊢
      obtain ⟨m, hm, hlt, hr⟩ := r.blk x hx
      exact ⟨m, by rw [addx x e]; exact hm, Nat.lt_of_lt_of_le hlt hsize, hr.keep hθ (hother _ hlt (fun e' => hbx (r.inj b x loc m hnb hx hl hm e'.symm)))⟩
  · have far : ∀ x m, x ≠ n → setB (setB h b .dead) n b' x ≠ .dead → θ.blk x = some m → m.blk ≠ loc'.blk := by
      intro x m hx hxd hm e
      obtain ⟨hbx, hxe⟩ := known x hx hxd
      rw [hxe] at hxd
      exact hbx (r.inj b x loc m hnb hxd hl hm (hlb ▸ e.symm))
    by_cases ex : x = n
    · by_cases ey : y = n
      · rw [ex, ey]
      · subst ex
        rw [Theta.add_self] at e1; injection e1 with e1; subst e1
        rw [addx y ey] at e2
        exact absurd e3.symm (far y m' ey hy e2)
    · by_cases ey : y = n
      · subst ey
        rw [Theta.add_self] at e2; injection e2 with e2; subst e2
        rw [addx x ex] at e1
        exact absurd e3 (far x m ex hx e1)
      · rw [addx x ex] at e1
        rw [addx y ey] at e2
        obtain ⟨_, hxe⟩ := known x ex hx
        obtain ⟨_, hye⟩ := known y ey hy
        rw [hxe] at hx; rw [hye] at hy
        exact r.inj x y m m' hx hy e1 e2 e3
  · by_cases e : x = n
    · subst e
      rw [Theta.add_self] at hm; injection hm with hm; subst hm
      exact .inl ⟨b, loc, hob, hl, hlb.symm⟩
    · obtain ⟨_, hxe⟩ := known x e (own_ne hx)
      rw [addx x e] at hm
      exact .inl ⟨x, m, by rw [← hxe]; exact hx, hm, rfl⟩
  · by_cases e : x = n
    · subst e
      rw [Theta.add_self] at hm; injection hm with hm; subst hm
      exact .inl ⟨b, loc, hnb, hl, hlb.symm⟩
    · obtain ⟨_, hxe⟩ := known x e hx
      rw [addx x e] at hm
      exact .inl ⟨x, m, by rw [← hxe]; exact hx, hm, rfl⟩
def srcK (H : Heap) (x : AV) (sz : Nat) (k : Nat → List AV → Bool) : Bool :=
  x.ckSl (k 0 []) (fun b o len _ => at_ H b fun bl => bl.ckCells fun _ _ n c => forceN (Nat.mul len sz) fun m => ifB (Nat.ble (Nat.add o m) n) (c.rowK m o fun l => k len l)) (fun _ _ _ _ => k 0 [])
theorem srcK_ok {H : Heap} {x : AV} {sz : Nat} {k : Nat → List AV → Bool} (h : srcK H x sz k = true) :
    ∃ n l, k n l = true ∧ l.length = n * sz ∧ (∀ a ∈ l, a.one = true) ∧ ∀ (P : Program) (θ : Theta) (B : Nat) (w : World) (xv : Value), HRel P θ (hfn H) B w → VR θ x xv →
      ∃ news, concs θ l = some news ∧ ∀ (tx e' : TypeId), P.underlying tx = some (.slice e') → Src P sz tx xv n news w := by
  rcases ckSl_iff.1 h with ⟨hx, h⟩ | ⟨b, o, len, cap, hx, h⟩ | ⟨b, o, lo, es, hx, h⟩
  · refine ⟨0, [], h, by simp, fun a ha => by simp at ha, fun P θ B w xv r vx => ⟨[], rfl, fun tx e' hk => ?_⟩⟩
    rw [hx] at vx
    rw [vx.nils]
    exact Src.ofNil w hk 0
  · obtain ⟨hb, h⟩ := at_iff.1 h
    obtain ⟨ro, ex, n, c, hbl, h⟩ := ckCells_iff.1 h
    rw [forceN_eq] at h
    obtain ⟨hle, h⟩ := ifB_iff.1 h
    have hle : o + len * sz ≤ n := by simpa using hle
    obtain ⟨h1, h⟩ := rowK_ok h
    refine ⟨len, _, h, row_length, h1, fun P θ B w xv r vx => ?_⟩
    rw [hx] at vx
    obtain ⟨l, hl, vx⟩ := vx.sl
    have hr := r.at hl
    rw [hbl] at hr
    obtain ⟨vs, g1, g2, g3⟩ := row_ok hr (len * sz) o hle
    refine ⟨vs, g1, fun tx e' hk => ?_⟩
    rw [vx]
    exact Src.ofSlice w hk _ _ _ vs g2 (fun j u hj => by rw [Loc.addr_add]; exact g3 j u hj) (ones_conc h1 g1)
  · refine ⟨0, [], h, by simp, fun a ha => by simp at ha, fun P θ B w xv r vx => ⟨[], rfl, fun tx e' hk => ?_⟩⟩
    rw [hx] at vx
    have hcc := vx.conc (by simp)
    simp only [Ev.conc, Option.map_eq_some_iff] at hcc
    obtain ⟨l, _, hcc⟩ := hcc
    have : ∃ ad cp, xv = .slice (some ad) 0 cp := by rw [← hcc]; split <;> exact ⟨_, _, rfl⟩
    obtain ⟨ad, cp, rfl⟩ := this
    exact Src.ofSlice w hk ad 0 cp [] (by simp) (fun j u hj => by simp at hj) (fun u hu => by simp at hu)
def Cells.room1 (n : Nat) (k f : Cells → Bool) (c : Cells) : Bool := Bool.rec ((fun d => f d) c.grow) (k c) (Nat.ble n c.dep)
def Cells.roomK (c : Cells) (n : Nat) (k : Cells → Bool) : Bool := Cells.room1 n k (Cells.room1 n k (Cells.room1 n k fun d => ifB (Nat.ble n (Cells.dep d)) (k d))) c
theorem Cells.room1_ok {n : Nat} {k f : Cells → Bool} (hf : ∀ c, f c = true → ∃ d : Cells, k d = true ∧ n ≤ d.dep ∧ c.dep ≤ d.dep ∧ ∀ i, i < c.dep → d.get i = c.get i) (c : Cells) (h : Cells.room1 n k f c = true) :
    ∃ d : Cells, k d = true ∧ n ≤ d.dep ∧ c.dep ≤ d.dep ∧ ∀ i, i < c.dep → d.get i = c.get i := by
  unfold Cells.room1 at h
  cases hn : Nat.ble n c.dep with
  | true => rw [hn] at h; exact ⟨c, h, by simpa using hn, Nat.le_refl _, fun _ _ => rfl⟩
  | false =>
    simp only [hn] at h
    obtain ⟨d, h1, h2, h3, h4⟩ := hf _ h
    exact ⟨d, h1, h2, Nat.le_trans c.dep_grow h3, fun i hi => (h4 i (Nat.lt_of_lt_of_le hi c.dep_grow)).trans (c.get_grow hi)⟩
theorem Cells.roomK_ok {c : Cells} {n : Nat} {k : Cells → Bool} (h : c.roomK n k = true) : ∃ d : Cells, k d = true ∧ n ≤ d.dep ∧ c.dep ≤ d.dep ∧ ∀ i, i < c.dep → d.get i = c.get i :=
  Cells.room1_ok (fun c h => Cells.room1_ok (fun c h => Cells.room1_ok (fun c h => by
    obtain ⟨hd, h⟩ := ifB_iff.1 h
    exact ⟨c, h, by simpa using hd, Nat.le_refl _, fun _ _ => rfl⟩) c h) c h) c h
def joinK (c : Cells) (o q : Nat) (news : List AV) (k : Cells → Bool) : Bool :=
  Bool.rec (c.rowK q o fun old => cellsK (old ++ news) k) (c.roomK (Nat.add q news.length) fun d => fillK news d q k) (Nat.beq o 0)
theorem joinK_ok {c : Cells} {o q : Nat} {news : List AV} {k : Cells → Bool} (hc : o + q ≤ c.dep) (h : joinK c o q news k = true) :
    ∃ d : Cells, k d = true ∧ q + news.length ≤ d.dep ∧ ∀ j, j < q + news.length → d.get j = if j < q then c.get (o + j) else news.getD (j - q) .bad := by
  unfold joinK at h
  cases ho : Nat.beq o 0 with
  | true =>
    simp only [ho] at h
    have e : o = 0 := by simpa using ho
    subst e
    obtain ⟨d, h, h1, h2, h3⟩ := Cells.roomK_ok h
    have h1 : q + news.length ≤ d.dep := h1
    obtain ⟨d', hk, hd, hg⟩ := fillK_ok h h1
    refine ⟨d', hk, by omega, fun j hj => ?_⟩
    rw [hg j (by omega)]
    by_cases hjq : j < q
    · rw [if_pos hjq, if_neg (by omega), h3 j (by omega)]
      congr 1; omega
    · rw [if_neg hjq, if_pos (by omega)]
  | false =>
    simp only [ho] at h
    obtain ⟨_, h⟩ := rowK_ok h
    obtain ⟨d, hk, hd, hg⟩ := cellsK_ok h
    simp only [List.length_append, row_length] at hd hg
    refine ⟨d, hk, hd, fun j hj => ?_⟩
    rw [hg j hj, List.getD_eq_getElem?_getD]
    by_cases hjq : j < q
    · rw [if_pos hjq, List.getElem?_append_left (by rw [row_length]; exact hjq), row_get hjq]
      rfl
    · rw [if_neg hjq, List.getElem?_append_right (by rw [row_length]; omega), row_length, List.getD_eq_getElem?_getD]
def newOpn (H : Heap) (n t : Nat) (c : Cells) (sz z : Nat) (k : AV → Heap → Nat → Bool) : Bool :=
  ifB (Nat.blt n 32768) (hput H n (.cells false false t c) fun H => forceN (Nat.succ n) fun n' => k (.sl n 0 z (.opn sz)) H n')
theorem newOpn_ok {H : Heap} {n t : Nat} {c : Cells} {sz z : Nat} {k : AV → Heap → Nat → Bool} (h : newOpn H n t c sz z k = true) :
    n < 32768 ∧ k (.sl n 0 z (.opn sz)) (Tr.put 5 H n (.cells false false t c)) (n + 1) = true := by
  obtain ⟨hn, h⟩ := ifB_iff.1 h
  rw [hput_eq, forceN_eq] at h
  exact ⟨by simpa [blt_eq] using hn, h⟩
def growK (sz : Nat) (kill : Bool) (H : Heap) (n b o len m : Nat) (news : List AV) (k : AV → Heap → Nat → Bool) : Bool :=
  at_ H b fun bl => bl.ckCells fun ro _ blen cs => forceN (Nat.mul len sz) fun q => ifB (Nat.ble (Nat.add o q) blen) (joinK cs o q news fun cs => forceN (Nat.add q news.length) fun t => forceN (Nat.add len m) fun z =>
    Bool.rec (newOpn H n t cs sz z k) (Bool.rec (hput H b .dead fun H => newOpn H n t cs sz z k) false ro) kill)
def fitK (sz : Nat) (H : Heap) (n b o len m : Nat) (cap : Cap) (news : List AV) (k : AV → Heap → Nat → Bool) : Bool :=
  forceN (Nat.add o (Nat.mul len sz)) fun q => writeK H b q news fun H => forceN (Nat.add len m) fun z => k (.sl b o z cap) H n
def appSl (sz : Nat) (H : Heap) (n : Nat) (s : AV) (b o len : Nat) (cap : Cap) (m : Nat) (news : List AV) (k : AV → Heap → Nat → Bool) : Bool :=
  Cap.rec (motive := fun _ => Bool) (fun c => Bool.rec (growK sz false H n b o len m news k) (fitK sz H n b o len m (.known c) news k) (Nat.ble (Nat.add len m) c)) (fun es => ifB (Nat.beq es sz) (Bool.rec
      (at_ H b fun bl => bl.ckCells fun _ _ blen _ => Bool.rec (growK sz true H n b o len m news k) (fitK sz H n b o len m (.opn es) news k) (Nat.ble (Nat.add o (Nat.mul (Nat.add len m) sz)) blen))
      (k s H n) (Nat.beq m 0))) cap
def appSpl (sz : Nat) (H : Heap) (n b s lo hi len es m : Nat) (news : List AV) (k : AV → Heap → Nat → Bool) : Bool :=
  ifB (Nat.beq es sz) (ifB (Nat.ble (Nat.add (Nat.add hi len) m) 4096) (at_ H b fun bl => bl.orSplit false fun s' lo' hi' f es' q cp cw =>
    ifB (Nat.beq s s') (ifB (Nat.beq es es') (ifB (Nat.ble len q) (forceN (Nat.mul len es) fun a => joinK cw 0 a news fun cw =>
      ifB (Nat.blt n 32768) (hput H b .dead fun H => forceN (Nat.add len m) fun z => hput H n (.split s' lo' hi' f es' z cp cw) fun H => forceN (Nat.succ n) fun n' => k (.sym (.spl n s lo hi z es)) H n'))))))
def clnSpl (sz : Nat) (H : Heap) (n b s lo hi len es : Nat) (k : AV → Heap → Nat → Bool) : Bool :=
  ifB (Nat.beq es sz) (ifB (Nat.ble (Nat.add hi len) 4096) (ifB (Nat.blt 0 (Nat.add lo len)) (at_ H b fun bl => bl.orSplit false fun s' lo' hi' f es' q cp cw =>
    ifB (Nat.beq s s') (ifB (Nat.beq es es') (ifB (Nat.ble len q)
      (ifB (Nat.blt n 32768) (hput H n (.split s' lo' hi' f es' len cp cw) fun H => forceN (Nat.succ n) fun n' => k (.sym (.spl n s lo hi len es)) H n')))))))
def capZ (cap : Cap) (y : Bool) : Bool := Cap.rec (motive := fun _ => Bool) (fun c => ifB (Nat.beq c 0) y) (fun _ => false) cap
theorem capZ_iff {cap : Cap} {y : Bool} (h : capZ cap y = true) : cap = .known 0 ∧ y = true := by
  cases cap with
  | known c =>
    obtain ⟨h1, h2⟩ := ifB_iff.1 h
    rw [Nat.eq_of_beq_eq_true h1]
    exact ⟨rfl, h2⟩
  | opn es => exact (Bool.false_ne_true h).elim
def appendE (P : Program) (t tx : Nat) (H : Heap) (n : Nat) (s x : AV) (k : AV → Heap → Nat → Bool) : Bool :=
  match P.underlying t with
  | some (.slice e) => (match P.underlying tx with
    | some (.slice _) => (match zeroA P e with
      | some (_ :: _) => if (P.info? e).any (fun i => decide (i.bytes ≤ 100000)) then
          x.orSym (srcK H x (P.cellsOf e) fun m news =>
            s.orSym (s.ckSl (Bool.rec (cellsK news fun c => forceN news.length fun t => newOpn H n t c (P.cellsOf e) m k) (k .nils H n) (Nat.beq m 0))
              (fun b o len cap => appSl (P.cellsOf e) H n s b o len cap m news k)
              (fun _ _ _ _ => false)) fun t => t.ckS fun b s' lo hi len es => appSpl (P.cellsOf e) H n b s' lo hi len es m news k)
            fun t => t.ckS fun b s' lo hi len es => s.ckSl false (fun _ _ l0 cap => ifB (Nat.beq l0 0) (capZ cap (clnSpl (P.cellsOf e) H n b s' lo hi len es k))) (fun _ _ _ _ => false)
        else false
      | _ => false)
    | _ => false)
  | _ => false
structure AppT (P : Program) (t tx e : Nat) (i : TypeInfo) (zv : Value) : Prop where
  ht : P.underlying t = some (.slice e)
  htx : ∃ e', P.underlying tx = some (.slice e')
  hi : P.info? e = some i
  hz : i.zero = some zv
  hzs : zv.cells.size = i.size
  pos : 0 < i.size
  small : i.bytes ≤ 100000
theorem app_grow {P : Program} {t tx ty e : Nat} {i : TypeInfo} {zv : Value} (T : AppT P t tx e i zv) {θ : Theta} {h : Nat → Blk} {n B : Nat} {w : World} (r : HRel P θ h B w) (f : Fresh θ n) (hB : B ≤ w.heap.size)
    {base : Option Addr} {sLen sCap m : Nat} {xv : Value} {news olds : List Value} (hs : Src P i.size tx xv m news w)
    (hold : (Builtin.firstCells i.size sLen (.slice base sLen sCap)).run P w.drew = .ok olds.toArray w.drew) (hg : sCap < sLen + m) (hlim : sLen + m ≤ 4096)
    {l : List AV} (hl : concs θ l = some (olds ++ news)) (hlen : l.length = (sLen + m) * i.size) {c : Cells} (hd : l.length ≤ c.dep) (hc : ∀ j, j < l.length → c.get j = l.getD j .bad) :
    ∃ v' w' θ', (Builtin.append_ #[t, tx] ty #[.slice base sLen sCap, xv]).run P w = .ok v' w' ∧ Went P θ h n B w θ' (setB h n (.cells false false l.length c)) (n + 1) w' ∧ VR θ' (.sl n 0 (sLen + m) (.opn i.size)) v' := by
  have hbytes : (sLen + m) * i.bytes ≤ 140737488355328 := Nat.le_trans (Nat.mul_le_mul hlim T.small) (by decide)
  have hrun := run_append_grow_src (P := P) w t tx ty e i zv T.ht T.hi T.hz base sLen sCap olds hold xv m news hs hg (by omega) (growslice_fits hg hbytes)
  have hge := grownCap_ge w (sLen + m) sCap e
  have hsz : ((olds ++ news).toArray ++ Builtin.zeroCells zv.cells (grownCap w (sLen + m) sCap e - (sLen + m))) = ((olds ++ news) ++ (Builtin.zeroCells zv.cells (grownCap w (sLen + m) sCap e - (sLen + m))).toList).toArray := by
    apply Array.ext'
    simp
  rw [hsz] at hrun
  have hzl : (Builtin.zeroCells zv.cells (grownCap w (sLen + m) sCap e - (sLen + m))).toList.length = (grownCap w (sLen + m) sCap e - (sLen + m)) * i.size := by simp [Builtin.zeroCells, T.hzs]
  have hi := f n (Nat.le_refl _)
  have hb := BRel.cells_new (P := P) (w := w) hB n hi e (Builtin.zeroCells zv.cells (grownCap w (sLen + m) sCap e - (sLen + m))).toList false (by simp) hl hd hc
  have htot : l.length + (Builtin.zeroCells zv.cells (grownCap w (sLen + m) sCap e - (sLen + m))).toList.length = grownCap w (sLen + m) sCap e * i.size := by
    rw [hzl, hlen, ← Nat.add_mul]
    congr 1
    omega
  rw [htot] at hb
  refine ⟨_, _, _, hrun, went_alloc r f (by rfl) rfl rfl rfl hb, .inr ?_⟩
  have hq : (grownCap w (sLen + m) sCap e * i.size - 0) / i.size = grownCap w (sLen + m) sCap e := by rw [Nat.sub_zero]; exact Nat.mul_div_cancel _ T.pos
  have := conc_sl (b := n) (o := 0) (len := sLen + m) (cap := .opn i.size) (Theta.add_self θ n ⟨w.heap.size, 0, grownCap w (sLen + m) sCap e * i.size⟩) (by show sLen + m ≤ _; rw [hq]; exact hge)
  rw [this]
  simp only [Cap.of, hq]
  rfl
theorem app_fit {P : Program} {t tx ty e : Nat} {i : TypeInfo} {zv : Value} (T : AppT P t tx e i zv) {w : World} {loc : Loc} {o sLen sCap m : Nat} {xv : Value} {news : List Value} (hs : Src P i.size tx xv m news w)
    {cs : Array Value} {te : TypeId} (hw : w.heap[loc.blk]? = some (.cells cs te (0, 0))) (hroom : sLen + m ≤ sCap) (hcs : loc.off + (o + sLen * i.size) + news.length ≤ cs.size) :
    (Builtin.append_ #[t, tx] ty #[.slice (some (loc.addr o)) sLen sCap, xv]).run P w = .ok (.slice (some (loc.addr o)) (sLen + m) sCap) (w.setCells loc.blk (loc.off + (o + sLen * i.size)) news) := by
  have := run_append_room_src (P := P) w t tx ty e i T.ht T.hi loc.blk (loc.off + o) sLen sCap xv m news hs hroom (fun j hj => ?_) (fun j hj => ?_)
  · rw [show loc.off + (o + sLen * i.size) = loc.off + o + sLen * i.size from by omega]
    exact this
  · simp only [World.cell?, hw]
    simp
    omega
  · simp [World.frozen?, hw]
def AppRes (P : Program) (t tx ty : Nat) (H : Heap) (n : Nat) (s x : AV) (v : AV) (H' : Heap) (n' : Nat) : Prop :=
  ∀ (θ : Theta) (w : World) (B : Nat) (sv xv : Value), HRel P θ (hfn H) B w → Fresh θ n → B ≤ w.heap.size → VR θ s sv → VR θ x xv →
    ∃ v' w' θ', (Builtin.append_ #[t, tx] ty #[sv, xv]).run P w = .ok v' w' ∧ Went P θ (hfn H) n B w θ' (hfn H') n' w' ∧ VR θ' v v'
theorem joinK_some {c : Cells} {a : Nat} {news : List AV} {k : Cells → Bool} (h : joinK c 0 a news k = true) : ∃ d, k d = true := by
  have h : (c.roomK (Nat.add a news.length) fun d => fillK news d a k) = true := h
  obtain ⟨d, h, _⟩ := Cells.roomK_ok h
  exact fillK_some h
theorem appSpl_ok {P : Program} {t tx ty e : Nat} {i : TypeInfo} {zv : Value} (T : AppT P t tx e i zv) {H : Heap} {n b s lo hi len es m : Nat} {x : AV} {news : List AV} {k : AV → Heap → Nat → Bool}
    (hsrc : ∀ (P : Program) (θ : Theta) (B : Nat) (w : World) (xv : Value), HRel P θ (hfn H) B w → VR θ x xv → ∃ vs, concs θ news = some vs ∧ ∀ (tx e' : TypeId), P.underlying tx = some (.slice e') → Src P i.size tx xv m vs w)
    (hnl : news.length = m * i.size)
    (h : appSpl i.size H n b s lo hi len es m news k = true) : ∃ v H' n', k v H' n' = true ∧ AppRes P t tx ty H n (.sym (.spl b s lo hi len es)) x v H' n' := by
  obtain ⟨hes, h2⟩ := ifB_iff.1 h
  obtain ⟨hlim, h3⟩ := ifB_iff.1 h2
  clear h h2
  have hes := Nat.eq_of_beq_eq_true hes
  subst hes
  have hlim : hi + len + m ≤ 4096 := by simpa using hlim
  obtain ⟨hb, h4⟩ := at_iff.1 h3
  clear h3
  rcases orSplit_iff h4 with ⟨s', lo', hi', f, es', q, cp, cw, hbl, h5⟩ | h5
  rotate_left
  · cases h5
  clear h4
  obtain ⟨e1, h6⟩ := ifB_iff.1 h5
  obtain ⟨e2, h7⟩ := ifB_iff.1 h6
  obtain ⟨hlq, h8⟩ := ifB_iff.1 h7
  clear h5 h6 h7
  have e1 := Nat.eq_of_beq_eq_true e1
  have e2 := Nat.eq_of_beq_eq_true e2
  subst e1
  subst e2
  have hlq : len ≤ q := by simpa using hlq
  rw [forceN_eq] at h8
  have hmul : len * i.size ≤ q * i.size := Nat.mul_le_mul_right _ hlq
  by_cases hdep : q * i.size ≤ cw.dep
  rotate_left
  · obtain ⟨d, h9⟩ := joinK_some h8
    obtain ⟨hn, h10⟩ := ifB_iff.1 h9
    simp only [hput_eq, forceN_eq] at h10
    refine ⟨_, _, _, h10, fun θ w B sv xv r fr hB vs vx => ?_⟩
    obtain ⟨z, l, hz, hl, _⟩ := vs.symS
    have hr := r.at hl
    rw [hbl] at hr
    obtain ⟨_, _, _, _, hd2⟩ := split_num hr
    exact absurd hd2 hdep
  obtain ⟨d, h9, hd, hg⟩ := joinK_ok (by show 0 + len * i.size ≤ cw.dep; omega) h8
  have hd : len * i.size + news.length ≤ d.dep := hd
  have hg : ∀ j, j < len * i.size + news.length → d.get j = if j < len * i.size then cw.get (0 + j) else news.getD (j - len * i.size) .bad := hg
  obtain ⟨hn, h10⟩ := ifB_iff.1 h9
  have hn : n < 32768 := by simpa [blt_eq] using hn
  simp only [hput_eq, forceN_eq] at h10
  refine ⟨_, _, _, h10, fun θ w B sv xv r fr hB vs vx => ?_⟩
  obtain ⟨z, l, hz, hl, hlo, _, hcap, rfl⟩ := vs.symS
  have hzhi : z ≤ hi := by obtain ⟨_, _, h2⟩ := num_some hz; omega
  obtain ⟨nv, hnv, hS⟩ := hsrc P θ B w xv r vx
  obtain ⟨e', htx⟩ := T.htx
  have hs := hS tx e' htx
  have hvl := concs_length hnv
  have hr := r.at hl
  rw [hbl] at hr
  obtain ⟨hBl, y, cs, te, hy, hw, hsz, hpos, hf, hq, hd1, hd2, hp, hwi, hone⟩ := hr
  have hyz := num_same hz hy
  subst hyz
  simp only [Int.toNat_natCast] at hf hq hwi hone
  have hfz : f * i.size ≤ z * i.size := Nat.mul_le_mul_right _ hf
  rw [Nat.add_mul] at hq
  have hzl : (z + len) * i.size = z * i.size + len * i.size := Nat.add_mul _ _ _
  have hlm : (len + m) * i.size = len * i.size + news.length := by rw [Nat.add_mul, hnl]
  have hzlm : (z + (len + m)) * i.size = z * i.size + (len * i.size + news.length) := by rw [Nat.add_mul, hlm]
  have hob : (hfn H b).own = true := by rw [hbl]; rfl
  have hi0 := fr n (Nat.le_refl _)
  have hbn : b ≠ n := by intro e; rw [e, hi0] at hl; cases hl
  have hnews : ∀ j, j < news.length → ∃ u, Ev.conc θ (news.getD j .bad) = some u ∧ nv[j]? = some u := by
    intro j hj
    have ha : news[j]? = some (news[j]'hj) := List.getElem?_eq_getElem hj
    obtain ⟨u, hu, hcu⟩ := concs_getElem hnv ha
    exact ⟨u, by rw [List.getD_eq_getElem?_getD, ha]; exact hcu, hu⟩
  rw [hfn_put _ _ hn, hfn_put _ _ hb]
  by_cases hroom : z + len + m ≤ l.size / i.size
  · have hfit : (z + len + m) * i.size ≤ l.size := (Nat.le_div_iff_mul_le T.pos).1 hroom
    have hfit' : z * i.size + len * i.size + news.length ≤ l.size := by rw [hnl, ← hzl, ← Nat.add_mul]; exact hfit
    have hset := setCells_ok l.blk te nv (l.off + (z + len) * i.size) w cs hw (by rw [hzl, hvl, hsz]; omega)
    have happ := run_append_room_src (P := P) w t tx ty e i T.ht T.hi l.blk l.off (z + len) (l.size / i.size) xv m nv hs hroom (fun j hj => by
      simp only [World.cell?, hw]
      simp
      omega) (fun j hj => by simp [World.frozen?, hw])
    have haddr : (⟨l.blk, l.off, none⟩ : Addr) = l.addr 0 := by simp [Loc.addr]
    rw [haddr] at happ
    have hwent := went_rebind (n := n) (loc' := l) r fr hl hob rfl hset.os hset.tape hset.output (by rw [hset.size]; exact Nat.le_refl _) (fun k _ hk => hset.other k hk) (.split s lo' hi' f i.size (len + m) cp d) (by
      have hθ : θ.le (θ.add n l) := Theta.le_add hi0 _
      obtain ⟨cs', hw', hs', hg'⟩ := hset.self
      refine ⟨hBl, z, cs', te, num_le hθ hy, hw', by rw [hs', hsz], hpos, by simpa using hf, by simp only [Int.toNat_natCast]; rw [hzlm]; omega, hd1, by rw [hlm]; exact hd, fun j hj => ?_, fun j hj => ?_, fun j v hj hv => ?_⟩
      · obtain ⟨v, hv, hc⟩ := hp j hj
        refine ⟨v, conc_le hθ _ _ hv, ?_⟩
        rw [hg', if_neg (by omega)]
        exact hc
      · simp only [Int.toNat_natCast]
        rw [hlm] at hj
        rw [hg j hj, hg']
        by_cases hjl : j < len * i.size
        · rw [if_pos hjl, if_neg (by omega), Nat.zero_add]
          obtain ⟨v, hv, hc⟩ := hwi j (by omega)
          exact ⟨v, conc_le hθ _ _ hv, hc⟩
        · rw [if_neg hjl, if_pos (by omega)]
          obtain ⟨u, hu, hcu⟩ := hnews (j - len * i.size) (by omega)
          exact ⟨u, conc_le hθ _ _ hu, by rw [show l.off + (z * i.size + j) - (l.off + (z + len) * i.size) = j - len * i.size from by omega]; exact hcu⟩
      · simp only [Int.toNat_natCast] at hj
        rw [hg'] at hv
        by_cases hin : (z + len) * i.size ≤ j ∧ j < (z + len) * i.size + nv.length
        · rw [if_pos (by omega)] at hv
          exact hs.one v (List.mem_of_getElem? hv)
        · rw [if_neg (by omega)] at hv
          exact hone j v (by rw [hzlm] at hj; rw [Nat.add_mul]; omega) hv)
    refine ⟨_, _, _, happ, by simpa using hwent, .inr ?_⟩
    have hθ : θ.le (θ.add n l) := Theta.le_add hi0 _
    simp only [Ev.conc, SymT.conc, num_le hθ hz, Option.bind_some, Theta.add_self, Theta.spl, Int.toNat_natCast]
    rw [if_pos ⟨T.pos, by show z + (len + m) ≤ l.size / i.size; omega⟩, Nat.add_assoc]
    rfl
  · have wk := went_kill r fr b
    have hov : ((cs.toList.drop l.off).take ((z + len) * i.size)).length = (z + len) * i.size := by
      rw [List.length_take, Nat.min_eq_left]
      rw [List.length_drop, Array.length_toList, hzl, hsz]
      omega
    have hold := run_firstCells_some (P := P) w.drew i.size (z + len) (l.addr 0) (z + len) (l.size / i.size) ((cs.toList.drop l.off).take ((z + len) * i.size)) hov (fun j u hj => by
      have hjl : j < (z + len) * i.size := by
        rcases Nat.lt_or_ge j ((z + len) * i.size) with h | h
        · exact h
        · rw [List.getElem?_eq_none (by omega)] at hj; cases hj
      rw [List.getElem?_take, if_pos hjl, List.getElem?_drop] at hj
      have hwd : w.drew.heap[l.blk]? = some (.cells cs te (0, 0)) := hw
      rw [Loc.addr_add]
      simp only [World.cell?, Loc.addr, hwd]
      simpa using hj)
    have hbytes : (z + len + m) * i.bytes ≤ 140737488355328 := Nat.le_trans (Nat.mul_le_mul (show z + len + m ≤ 4096 by omega) T.small) (by decide)
    have hrun := run_append_grow_src (P := P) w t tx ty e i zv T.ht T.hi T.hz (some (l.addr 0)) (z + len) (l.size / i.size) _ hold xv m nv hs (by omega) (by omega) (growslice_fits (by omega) hbytes)
    have hge := grownCap_ge w (z + len + m) (l.size / i.size) e
    generalize hcapN : grownCap w (z + len + m) (l.size / i.size) e = N at hrun hge
    have hzc : (Builtin.zeroCells zv.cells (N - (z + len + m))).size = (N - (z + len + m)) * i.size := by simp [Builtin.zeroCells, T.hzs]
    have hol : ((cs.toList.drop l.off).take ((z + len) * i.size) ++ nv).length = (z + len + m) * i.size := by
      rw [List.length_append, hov, hvl, hnl, ← Nat.add_mul]
    have hget : ∀ j, j < (z + len + m) * i.size → ((((cs.toList.drop l.off).take ((z + len) * i.size) ++ nv).toArray ++ Builtin.zeroCells zv.cells (N - (z + len + m))))[j]? = if j < (z + len) * i.size then cs[l.off + j]? else nv[j - (z + len) * i.size]? := by
      intro j hj
      rw [Array.getElem?_append_left (by simpa using (by rw [hol]; exact hj : j < ((cs.toList.drop l.off).take ((z + len) * i.size) ++ nv).length))]
      simp only [List.getElem?_toArray]
      by_cases hjl : j < (z + len) * i.size
      · rw [if_pos hjl, List.getElem?_append_left (by omega), List.getElem?_take, if_pos hjl, List.getElem?_drop]
        simp
      · rw [if_neg hjl, List.getElem?_append_right (by omega), hov]
    have hN : (z + len + m) * i.size + (N - (z + len + m)) * i.size = N * i.size := by rw [← Nat.add_mul]; congr 1; omega
    have hall := went_alloc (w' := w.drew.alloc (.cells (((cs.toList.drop l.off).take ((z + len) * i.size) ++ nv).toArray ++ Builtin.zeroCells zv.cells (N - (z + len + m))) e)) (ob := .cells (((cs.toList.drop l.off).take ((z + len) * i.size) ++ nv).toArray ++ Builtin.zeroCells zv.cells (N - (z + len + m))) e (0, 0)) (b := .split s lo' hi' f i.size (len + m) cp d) (sz := N * i.size) wk.rel wk.fresh rfl rfl rfl rfl (by
      have hθ : θ.le (θ.add n ⟨w.heap.size, 0, N * i.size⟩) := Theta.le_add hi0 _
      refine ⟨hB, z, _, e, num_le hθ hy, heap_alloc_self _ _, ?_, hpos, by simpa using hf, ?_, hd1, by rw [hlm]; exact hd, fun j hj => ?_, fun j hj => ?_, fun j v hj hv => ?_⟩
      · simp only [Array.size_append, List.size_toArray, hol, hzc, Nat.zero_add]; exact hN
      · simp only [Int.toNat_natCast]; exact Nat.mul_le_mul_right _ (by omega)
      · obtain ⟨v, hv, hc⟩ := hp j hj
        refine ⟨v, conc_le hθ _ _ hv, ?_⟩
        simp only [Nat.zero_add]
        rw [hget j (by rw [Nat.add_assoc, hzlm]; omega), if_pos (by omega)]
        exact hc
      · simp only [Int.toNat_natCast, Nat.zero_add]
        rw [hlm] at hj
        rw [hg j hj, hget _ (by rw [Nat.add_assoc, hzlm]; omega)]
        by_cases hjl : j < len * i.size
        · rw [if_pos hjl, if_pos (by omega), Nat.zero_add]
          obtain ⟨v, hv, hc⟩ := hwi j (by omega)
          exact ⟨v, conc_le hθ _ _ hv, hc⟩
        · rw [if_neg hjl, if_neg (by omega)]
          obtain ⟨u, hu, hcu⟩ := hnews (j - len * i.size) (by omega)
          exact ⟨u, conc_le hθ _ _ hu, by rw [show z * i.size + j - (z + len) * i.size = j - len * i.size from by omega]; exact hcu⟩
      · simp only [Int.toNat_natCast] at hj
        simp only [Nat.zero_add] at hv
        rw [hget j (by rw [Nat.add_assoc]; exact hj)] at hv
        by_cases hin : j < (z + len) * i.size
        · rw [if_pos hin] at hv
          exact hone j v (by rw [Nat.add_mul]; omega) hv
        · rw [if_neg hin] at hv
          exact hs.one v (List.mem_of_getElem? hv))
    refine ⟨_, _, _, hrun, by simpa using wk.trans hall, .inr ?_⟩
    have hθ : θ.le (θ.add n ⟨w.heap.size, 0, N * i.size⟩) := Theta.le_add hi0 _
    simp only [Ev.conc, SymT.conc, num_le hθ hz, Option.bind_some, Theta.add_self, Theta.spl, Int.toNat_natCast]
    have hq2 : N * i.size / i.size = N := Nat.mul_div_cancel _ T.pos
    rw [if_pos ⟨T.pos, by rw [hq2]; show z + (len + m) ≤ N; omega⟩, hq2, Nat.add_assoc]
    rfl
theorem clnSpl_ok {P : Program} {t tx ty e : Nat} {i : TypeInfo} {zv : Value} (T : AppT P t tx e i zv) {H : Heap} {n b s lo hi len es b0 o0 : Nat} {k : AV → Heap → Nat → Bool}
    (h : clnSpl i.size H n b s lo hi len es k = true) : ∃ v H' n', k v H' n' = true ∧ AppRes P t tx ty H n (.sl b0 o0 0 (.known 0)) (.sym (.spl b s lo hi len es)) v H' n' := by
  obtain ⟨hes, h2⟩ := ifB_iff.1 h
  obtain ⟨hlim, h2'⟩ := ifB_iff.1 h2
  obtain ⟨hpos0, h3⟩ := ifB_iff.1 h2'
  clear h h2 h2'
  have hes := Nat.eq_of_beq_eq_true hes
  subst hes
  have hlim : hi + len ≤ 4096 := by simpa using hlim
  have hpos0 : 0 < lo + len := by simpa [blt_eq] using hpos0
  obtain ⟨hb, h4⟩ := at_iff.1 h3
  clear h3
  rcases orSplit_iff h4 with ⟨s', lo', hi', f, es', q, cp, cw, hbl, h5⟩ | h5
  rotate_left
  · cases h5
  clear h4
  obtain ⟨e1, h6⟩ := ifB_iff.1 h5
  obtain ⟨e2, h7⟩ := ifB_iff.1 h6
  obtain ⟨hlq, h8⟩ := ifB_iff.1 h7
  obtain ⟨hn, h10⟩ := ifB_iff.1 h8
  clear h5 h6 h7 h8
  have e1 := Nat.eq_of_beq_eq_true e1
  have e2 := Nat.eq_of_beq_eq_true e2
  subst e1
  subst e2
  have hlq : len ≤ q := by simpa using hlq
  have hn : n < 32768 := by simpa [blt_eq] using hn
  simp only [hput_eq, forceN_eq] at h10
  have hmul : len * i.size ≤ q * i.size := Nat.mul_le_mul_right _ hlq
  refine ⟨_, _, _, h10, fun θ w B sv xv r fr hB vs vx => ?_⟩
  obtain ⟨l0, _, rfl⟩ := vs.sl
  obtain ⟨z, l, hz, hl, hlo, _, hcap, rfl⟩ := vx.symS
  have hzhi : z ≤ hi := by obtain ⟨_, _, h2⟩ := num_some hz; omega
  obtain ⟨e', htx⟩ := T.htx
  have hr := r.at hl
  rw [hbl] at hr
  obtain ⟨hBl, y, cs, te, hy, hw, hsz, hpos, hf, hq, hd1, hd2, hp, hwi, hone⟩ := hr
  have hyz := num_same hz hy
  subst hyz
  simp only [Int.toNat_natCast] at hf hq hwi hone
  have hfz : f * i.size ≤ z * i.size := Nat.mul_le_mul_right _ hf
  rw [Nat.add_mul] at hq
  have hzl : (z + len) * i.size = z * i.size + len * i.size := Nat.add_mul _ _ _
  have hi0 := fr n (Nat.le_refl _)
  have hov : ((cs.toList.drop l.off).take ((z + len) * i.size)).length = (z + len) * i.size := by
    rw [List.length_take, Nat.min_eq_left]
    rw [List.length_drop, Array.length_toList, hzl, hsz]
    omega
  have hin : ∀ j u, ((cs.toList.drop l.off).take ((z + len) * i.size))[j]? = some u → j < (z + len) * i.size ∧ cs[l.off + j]? = some u := by
    intro j u hj
    have hjl : j < (z + len) * i.size := by
      rcases Nat.lt_or_ge j ((z + len) * i.size) with h | h
      · exact h
      · rw [List.getElem?_eq_none (by omega)] at hj; cases hj
    rw [List.getElem?_take, if_pos hjl, List.getElem?_drop] at hj
    exact ⟨hjl, by simpa using hj⟩
  have hs : Src P i.size tx (.slice (some (l.addr 0)) (z + len) (l.size / i.size)) (z + len) ((cs.toList.drop l.off).take ((z + len) * i.size)) w :=
    Src.ofSlice w htx _ _ _ _ hov (fun j u hj => by
      rw [Loc.addr_add]
      simp only [World.cell?, Loc.addr, hw]
      simpa using (hin j u hj).2) (fun u hu => by
      obtain ⟨j, hj⟩ := List.getElem?_of_mem hu
      obtain ⟨h1, h2⟩ := hin j u hj
      exact hone j u (by rw [Nat.add_mul]; omega) h2)
  have hold := run_firstCells_some (P := P) w.drew i.size 0 (l0.addr o0) 0 0 [] (by simp) (fun j u hj => by simp at hj)
  have hbytes : (0 + (z + len)) * i.bytes ≤ 140737488355328 := Nat.le_trans (Nat.mul_le_mul (show 0 + (z + len) ≤ 4096 by omega) T.small) (by decide)
  have hrun := run_append_grow_src (P := P) w t tx ty e i zv T.ht T.hi T.hz (some (l0.addr o0)) 0 0 [] hold _ (z + len) _ hs (by omega) (by omega) (growslice_fits (by omega) hbytes)
  have hge := grownCap_ge w (0 + (z + len)) 0 e
  generalize hcapN : grownCap w (0 + (z + len)) 0 e = N at hrun hge
  simp only [Nat.zero_add, List.nil_append] at hrun hge
  have hzc : (Builtin.zeroCells zv.cells (N - (z + len))).size = (N - (z + len)) * i.size := by simp [Builtin.zeroCells, T.hzs]
  have hget : ∀ j, j < (z + len) * i.size → ((((cs.toList.drop l.off).take ((z + len) * i.size)).toArray ++ Builtin.zeroCells zv.cells (N - (z + len))))[j]? = cs[l.off + j]? := by
    intro j hj
    rw [Array.getElem?_append_left (by simpa using (by rw [hov]; exact hj : j < ((cs.toList.drop l.off).take ((z + len) * i.size)).length))]
    simp only [List.getElem?_toArray]
    rw [List.getElem?_take, if_pos hj, List.getElem?_drop]
    simp
  have hN : (z + len) * i.size + (N - (z + len)) * i.size = N * i.size := by rw [← Nat.add_mul]; congr 1; omega
  rw [hfn_put _ _ hn]
  have hall := went_alloc (w' := w.drew.alloc (.cells (((cs.toList.drop l.off).take ((z + len) * i.size)).toArray ++ Builtin.zeroCells zv.cells (N - (z + len))) e)) (ob := .cells (((cs.toList.drop l.off).take ((z + len) * i.size)).toArray ++ Builtin.zeroCells zv.cells (N - (z + len))) e (0, 0)) (b := .split s lo' hi' f i.size len cp cw) (sz := N * i.size) r fr rfl rfl rfl rfl (by
    have hθ : θ.le (θ.add n ⟨w.heap.size, 0, N * i.size⟩) := Theta.le_add hi0 _
    refine ⟨hB, z, _, e, num_le hθ hy, heap_alloc_self _ _, ?_, hpos, by simpa using hf, ?_, hd1, by omega, fun j hj => ?_, fun j hj => ?_, fun j v hj hv => ?_⟩
    · simp only [Array.size_append, List.size_toArray, hov, hzc, Nat.zero_add]; exact hN
    · simp only [Int.toNat_natCast]; exact Nat.mul_le_mul_right _ (by omega)
    · obtain ⟨v, hv, hc⟩ := hp j hj
      refine ⟨v, conc_le hθ _ _ hv, ?_⟩
      simp only [Nat.zero_add]
      rw [hget j (by omega)]
      exact hc
    · simp only [Int.toNat_natCast, Nat.zero_add]
      rw [hget _ (by omega)]
      obtain ⟨v, hv, hc⟩ := hwi j (by omega)
      exact ⟨v, conc_le hθ _ _ hv, hc⟩
    · simp only [Int.toNat_natCast] at hj
      simp only [Nat.zero_add] at hv
      rw [hget j hj] at hv
      exact hone j v (by rw [Nat.add_mul]; omega) hv)
  refine ⟨_, _, _, hrun, hall, .inr ?_⟩
  have hθ : θ.le (θ.add n ⟨w.heap.size, 0, N * i.size⟩) := Theta.le_add hi0 _
  simp only [Ev.conc, SymT.conc, num_le hθ hz, Option.bind_some, Theta.add_self, Theta.spl, Int.toNat_natCast]
  have hq2 : N * i.size / i.size = N := Nat.mul_div_cancel _ T.pos
  rw [if_pos ⟨T.pos, by rw [hq2]; omega⟩, hq2]
  rfl
theorem fit_ok {P : Program} {t tx ty e : Nat} {i : TypeInfo} {zv : Value} (T : AppT P t tx e i zv) {H : Heap} {n b o len m : Nat} {cap : Cap} {x : AV} {news : List AV} {k : AV → Heap → Nat → Bool}
    (hsrc : ∀ (P : Program) (θ : Theta) (B : Nat) (w : World) (xv : Value), HRel P θ (hfn H) B w → VR θ x xv → ∃ vs, concs θ news = some vs ∧ ∀ (tx e' : TypeId), P.underlying tx = some (.slice e') → Src P i.size tx xv m vs w)
    (hnl : news.length = m * i.size)
    (hcap : ∀ ex blen c (loc : Loc) w B θ, hfn H b = .cells false ex blen c → o + (len + m) * i.size ≤ blen → HRel P θ (hfn H) B w → θ.blk b = some loc → cap.ok loc o len → len + m ≤ cap.of loc o ∧ cap.ok loc o (len + m))
    (h : fitK i.size H n b o len m cap news k = true) : ∃ v H' n', k v H' n' = true ∧ AppRes P t tx ty H n (.sl b o len cap) x v H' n' := by
  unfold fitK at h
  rw [forceN_eq] at h
  obtain ⟨bl, hb, h, h1, ⟨ex, blen, c, hbl, hle⟩, hq⟩ := writeK_ok h
  rw [forceN_eq] at h
  have hle : o + len * i.size + news.length ≤ blen := hle
  refine ⟨_, _, _, h, fun θ w B sv xv r f hB vs vx => ?_⟩
  obtain ⟨loc, hl, rfl, hok⟩ := vs.sl'
  obtain ⟨nv, hnv, hS⟩ := hsrc P θ B w xv r vx
  obtain ⟨e', htx⟩ := T.htx
  have hs := hS tx e' htx
  obtain ⟨_, hw⟩ := hq P θ n B w nv loc r f hl hnv
  have hr := r.at hl
  rw [hbl] at hr
  obtain ⟨_, cs, te, hcs, hsz, hle2, _⟩ := hr.2.2 rfl
  obtain ⟨hroom, hok'⟩ := hcap ex blen c loc w B θ hbl (by rw [Nat.add_mul]; omega) r hl hok
  have hvl := concs_length hnv
  refine ⟨_, _, θ, app_fit T hs hcs hroom (by omega), hw, .inr ?_⟩
  show Ev.conc θ (.sl b o (len + m) cap) = _
  rw [conc_sl hl hok']
theorem grow_ok {P : Program} {t tx ty e : Nat} {i : TypeInfo} {zv : Value} (T : AppT P t tx e i zv) {H : Heap} {n b o len m : Nat} {cap : Cap} {x : AV} {news : List AV} {k : AV → Heap → Nat → Bool} {kill : Bool}
    (hsrc : ∀ (P : Program) (θ : Theta) (B : Nat) (w : World) (xv : Value), HRel P θ (hfn H) B w → VR θ x xv → ∃ vs, concs θ news = some vs ∧ ∀ (tx e' : TypeId), P.underlying tx = some (.slice e') → Src P i.size tx xv m vs w)
    (hnl : news.length = m * i.size) (h1 : ∀ a ∈ news, a.one = true)
    (hcap : (kill = false ∧ ∃ c, cap = .known c ∧ c < len + m) ∨ (kill = true ∧ cap = .opn i.size))
    (h : growK i.size kill H n b o len m news k = true) : ∃ v H' n', k v H' n' = true ∧ AppRes P t tx ty H n (.sl b o len cap) x v H' n' := by
  obtain ⟨hb, h⟩ := at_iff.1 h
  obtain ⟨ro, ex, blen, cs, hbl, h⟩ := ckCells_iff.1 h
  rw [forceN_eq] at h
  obtain ⟨hle, h⟩ := ifB_iff.1 h
  have hle : o + len * i.size ≤ blen := by simpa using hle
  have hroomc : ∀ (θ : Theta) (w : World) (B : Nat) (loc : Loc), HRel P θ (hfn H) B w → θ.blk b = some loc → blen ≤ cs.dep := by
    intro θ w B loc r hl
    have hr := r.at hl
    rw [hbl] at hr
    exact hr.1
  by_cases hdep : blen ≤ cs.dep
  · obtain ⟨d, h, hd, hg⟩ := joinK_ok (by show o + len * i.size ≤ cs.dep; omega) h
    have hd : len * i.size + news.length ≤ d.dep := hd
    have hg : ∀ j, j < len * i.size + news.length → d.get j = if j < len * i.size then cs.get (o + j) else news.getD (j - len * i.size) .bad := hg
    simp only [forceN_eq] at h
    have hll : (cs.row o (len * i.size) ++ news).length = len * i.size + news.length := by rw [List.length_append, row_length]
    have hgl : ∀ j, j < (cs.row o (len * i.size) ++ news).length → d.get j = (cs.row o (len * i.size) ++ news).getD j .bad := by
      intro j hj
      rw [hll] at hj
      rw [hg j hj]
      by_cases hjq : j < len * i.size
      · rw [if_pos hjq, List.getD_eq_getElem?_getD, List.getElem?_append_left (by rw [row_length]; exact hjq), row_get hjq]
        rfl
      · rw [if_neg hjq, List.getD_eq_getElem?_getD, List.getD_eq_getElem?_getD, List.getElem?_append_right (by rw [row_length]; omega), row_length]
    have hlen : (cs.row o (len * i.size) ++ news).length = (len + m) * i.size := by rw [hll, hnl, Nat.add_mul]
    have hlim : len + m ≤ 4096 := by
      have h2 : (len + m) * 1 ≤ (len + m) * i.size := Nat.mul_le_mul_left _ T.pos
      have h3 := Cells.dep_le d
      omega
    have hadd : Nat.add (Nat.mul len i.size) news.length = (cs.row o (len * i.size) ++ news).length := hll.symm
    have olds : ∀ (θ : Theta) (w : World) (B : Nat) (loc : Loc) (c : Nat), HRel P θ (hfn H) B w → θ.blk b = some loc → ∃ ov, concs θ (cs.row o (len * i.size)) = some ov ∧
        (Builtin.firstCells i.size len (.slice (some (loc.addr o)) len c)).run P w.drew = .ok ov.toArray w.drew := by
      intro θ w B loc c r hl
      have hr := r.at hl
      rw [hbl] at hr
      obtain ⟨ov, g1, g2, g3⟩ := row_ok hr (len * i.size) o hle
      exact ⟨ov, g1, run_firstCells_some w.drew i.size len (loc.addr o) len c ov g2 (fun j u hj => by rw [Loc.addr_add]; exact g3 j u hj)⟩
    rcases hcap with ⟨rfl, c, rfl, hlt⟩ | ⟨rfl, rfl⟩
    · obtain ⟨hn, h⟩ := newOpn_ok h
      refine ⟨_, _, _, h, fun θ w B sv xv r f hB vs vx => ?_⟩
      obtain ⟨loc, hl, rfl⟩ := vs.sl
      obtain ⟨nv, hnv, hS⟩ := hsrc P θ B w xv r vx
      obtain ⟨e', htx⟩ := T.htx
      have hs := hS tx e' htx
      obtain ⟨ov, g1, g2⟩ := olds θ w B loc c r hl
      obtain ⟨v', w', θ', h1', h2', h3'⟩ := app_grow (ty := ty) T r f hB hs g2 hlt hlim (concs_append g1 hnv) hlen (by rw [hll]; exact hd) hgl
      refine ⟨v', w', θ', h1', ?_, h3'⟩
      rw [hfn_put _ _ hn, hadd]
      exact h2'
    · cases ro with
      | true => exact (Bool.false_ne_true h).elim
      | false =>
        simp only [hput_eq] at h
        obtain ⟨hn, h⟩ := newOpn_ok h
        refine ⟨_, _, _, h, fun θ w B sv xv r f hB vs vx => ?_⟩
        obtain ⟨loc, hl, rfl, hok⟩ := vs.sl'
        obtain ⟨nv, hnv, hS⟩ := hsrc P θ B w xv r vx
        obtain ⟨e', htx⟩ := T.htx
        have hs := hS tx e' htx
        have hvl := concs_length hnv
        rw [hfn_put _ _ hn, hfn_put _ _ hb, hadd]
        by_cases hroom : len + m ≤ (loc.size - o) / i.size
        · have hr := r.at hl
          rw [hbl] at hr
          obtain ⟨_, rcs, te, hcs, hsz, hle2, _⟩ := hr.2.2 rfl
          have hmul : (len + m) * i.size ≤ loc.size - o := (Nat.le_div_iff_mul_le T.pos).1 hroom
          have hsum : (len + m) * i.size = len * i.size + news.length := by rw [Nat.add_mul, hnl]
          obtain ⟨hst, hw⟩ := went_move r f hl hbl (o := o) (q := len * i.size) hnv (ones_conc h1 hnv) (by omega) hle (c' := d) hd hg
          refine ⟨_, _, _, app_fit T hs hcs (sCap := (Cap.opn i.size).of loc o) hroom (by omega), by rw [hll]; exact hw, .inr ?_⟩
          have := conc_sl (b := n) (o := 0) (len := len + m) (cap := .opn i.size) (Theta.add_self θ n ⟨loc.blk, loc.off + o, loc.size - o⟩) (by show len + m ≤ (loc.size - o - 0) / i.size; rw [Nat.sub_zero]; exact hroom)
          show Ev.conc _ (.sl n 0 (len + m) (.opn i.size)) = _
          rw [this]
          simp only [Cap.of, Nat.sub_zero, Loc.addr, Nat.add_zero]
        · have wk := went_kill r f b
          obtain ⟨ov, g1, g2⟩ := olds θ w B loc ((loc.size - o) / i.size) r hl
          obtain ⟨v', w', θ', h1', h2', h3'⟩ := app_grow (ty := ty) T wk.rel wk.fresh hB hs g2 (by omega) hlim (concs_append g1 hnv) hlen (by rw [hll]; exact hd) hgl
          exact ⟨v', w', θ', h1', wk.trans h2', h3'⟩
  · have key : ∃ v H' n', k v H' n' = true := by
      have jk : ∀ {c : Cells} {o q : Nat} {news : List AV} {k' : Cells → Bool}, joinK c o q news k' = true → ∃ d, k' d = true := by
        have fk : ∀ (l : List AV) (c : Cells) (i : Nat) (k' : Cells → Bool), fillK l c i k' = true → ∃ c', k' c' = true := by
          intro l
          induction l with
          | nil => intro c i k' h; exact ⟨c, h⟩
          | cons a l ih =>
            intro c i k' h
            have h : (c.setK i a fun c => fillK l c (i + 1) k') = true := h
            rw [Cells.setK_eq] at h
            exact ih _ _ _ h
        intro c o q news k' h
        unfold joinK at h
        cases ho : Nat.beq o 0 with
        | true =>
          simp only [ho] at h
          obtain ⟨d, h, _⟩ := Cells.roomK_ok h
          exact fk _ _ _ _ h
        | false =>
          simp only [ho] at h
          obtain ⟨_, h⟩ := rowK_ok h
          obtain ⟨d, h, _⟩ := cellsK_ok h
          exact ⟨d, h⟩
      obtain ⟨d, h⟩ := jk h
      simp only [forceN_eq] at h
      cases kill with
      | false => exact ⟨_, _, _, (newOpn_ok h).2⟩
      | true =>
        cases ro with
        | true => exact (Bool.false_ne_true h).elim
        | false =>
          simp only [hput_eq] at h
          exact ⟨_, _, _, (newOpn_ok h).2⟩
    obtain ⟨v, H', n', hk⟩ := key
    refine ⟨v, H', n', hk, fun θ w B sv xv r f hB vs vx => ?_⟩
    obtain ⟨loc, hl, rfl⟩ := vs.sl
    exact absurd (hroomc θ w B loc r hl) hdep
theorem run_append_none {P : Program} {t tx ty e : Nat} {i : TypeInfo} {zv : Value} (T : AppT P t tx e i zv) {w : World} {xv sv : Value} (hs : Src P i.size tx xv 0 [] w) (hsv : sv = .slice none 0 0 ∨ ∃ a n c, sv = .slice (some a) n c ∧ n ≤ c) :
    (Builtin.append_ #[t, tx] ty #[sv, xv]).run P w = .ok sv w := by
  obtain ⟨e', htx⟩ := T.htx
  rcases hsv with rfl | ⟨a, n, c, rfl, hle⟩
  · simp [Builtin.append_, run_underlying T.ht, run_underlying htx, typeInfo, T.hi, hs.len, hs.cells, Go.sizeOf]
  · simp [Builtin.append_, run_underlying T.ht, run_underlying htx, typeInfo, T.hi, hs.len, hs.cells, hle, storeCells, Go.sizeOf]
theorem heavy_append {P : Program} {env : List AV} {o : Oper} {c : Call} {t tx : Nat} {s x : Operand} {H : Heap} {n : Nat} {k : AV → Heap → Nat → Bool} (ho : o.op = .call c) (hc : c.callee = .builtin .append) (ha : c.args = #[s, x]) (ht : c.argTypes = #[t, tx])
    (h : appendE P t tx H n (ev P env s) (ev P env x) k = true) : ∃ v H' n', k v H' n' = true ∧ HeavySpec P env o H n v H' n' := by
  suffices hh : ∃ v H' n', k v H' n' = true ∧ AppRes P t tx o.type H n (ev P env s) (ev P env x) v H' n' by
    obtain ⟨v, H', n', hk, hr⟩ := hh
    refine ⟨v, H', n', hk, fun θ ac w B r f hB hO => ?_⟩
    have hs := hO.at (x := s) (by simp [ho, Op.operands, Call.operands, hc, ha])
    have hx := hO.at (x := x) (by simp [ho, Op.operands, Call.operands, hc, ha])
    obtain ⟨v', w', θ', h1, h2, h3⟩ := hr θ w B _ _ r f hB hs hx
    refine ⟨v', w', θ', .inl ?_, h2, h3⟩
    simp [execOp, ho, resolve, hc, ha, ht, invoke, builtin, h1]
  unfold appendE at h
  split at h
  · rename_i e hu
    split at h
    · rename_i e2 hu2
      split at h
      · rename_i z zs hz
        split at h
        · rename_i hby
          obtain ⟨i, zv, hi, hzv, hsz, hzc⟩ := zeroA_info hz
          obtain ⟨hzl, _⟩ := zeroA_ok hz
          have T : AppT P t tx e i zv := by
            refine ⟨hu, ⟨e2, hu2⟩, hi, hzv, ?_, ?_, by simpa [hi] using hby⟩
            · obtain ⟨vs, hvs, hcl⟩ := hzc ⟨fun _ => none, fun _ => none⟩
              have := concs_length hvs
              rw [hcl, hsz, ← hzl, ← this]
              simp
            · rw [hsz, ← hzl]; simp
          rw [← hsz] at h
          rcases orSym_iff h with ⟨t', hxs, h0⟩ | h0
          · clear h
            obtain ⟨b, s', lo, hi', len, es, et, h2⟩ := SymT.ckS_iff h0
            clear h0
            subst et
            rw [hxs]
            rcases ckSl_iff.1 h2 with ⟨_, h3⟩ | ⟨b0, o0, l0, cap, hss, h3⟩ | ⟨_, _, _, _, _, h3⟩
            · cases h3
            · obtain ⟨hl0, h4⟩ := ifB_iff.1 h3
              obtain ⟨hc0, h5⟩ := capZ_iff h4
              have hl0 := Nat.eq_of_beq_eq_true hl0
              subst hl0 hc0
              rw [hss]
              exact clnSpl_ok T h5
            · cases h3
          clear h
          obtain ⟨m, news, h, hnl, h1, hsrc⟩ := srcK_ok h0
          clear h0
          rcases orSym_iff h with ⟨t', hss, h0⟩ | h0
          · clear h
            obtain ⟨b, s', lo, hi', len, es, et, h2⟩ := SymT.ckS_iff h0
            clear h0
            subst et
            rw [hss]
            exact appSpl_ok T hsrc hnl h2
          clear h
          have h := h0
          clear h0
          rcases ckSl_iff.1 h with ⟨hx, h⟩ | ⟨b, q, len, cap, hx, h⟩ | ⟨b, q, lo, es, hx, h⟩
          · rw [hx]
            cases hm : Nat.beq m 0 with
            | true =>
              simp only [hm] at h
              have hk := h
              obtain rfl : m = 0 := by simpa using hm
              have hnn : news = [] := List.eq_nil_of_length_eq_zero (by rw [hnl]; simp)
              subst hnn
              refine ⟨_, _, _, hk, fun θ w B sv xv r f hB vs vx => ?_⟩
              obtain ⟨nv, hnv, hS⟩ := hsrc P θ B w xv r vx
              simp only [concs, Option.some.injEq] at hnv
              subst hnv
              exact ⟨sv, w, θ, run_append_none T (hS tx e2 hu2) (.inl vs.nils), Went.refl r f, vs⟩
            | false =>
              simp only [hm] at h
              have hm0 : m ≠ 0 := by intro e; rw [e] at hm; simp at hm
              obtain ⟨c, h, hd, hg⟩ := cellsK_ok h
              rw [forceN_eq] at h
              obtain ⟨hn, h⟩ := newOpn_ok h
              refine ⟨_, _, _, h, fun θ w B sv xv r f hB vs vx => ?_⟩
              obtain ⟨nv, hnv, hS⟩ := hsrc P θ B w xv r vx
              have hs := hS tx e2 hu2
              rw [vs.nils, hfn_put _ _ hn]
              have hlim : 0 + m ≤ 4096 := by
                have h2 : m * 1 ≤ m * i.size := Nat.mul_le_mul_left _ T.pos
                have h3 := Cells.dep_le c
                omega
              have := app_grow (ty := o.type) (base := none) (sLen := 0) (sCap := 0) (olds := []) T r f hB hs (run_firstCells_none w.drew i.size 0 0 0) (by omega) hlim (l := news) (by simpa using hnv) (by simpa using hnl) hd hg
              simpa using this
          · rw [hx]
            unfold appSl at h
            cases cap with
            | known cp =>
              cases hfit : Nat.ble (Nat.add len m) cp with
              | true =>
                simp only [hfit] at h
                have hle : len + m ≤ cp := by simpa using hfit
                exact fit_ok T hsrc hnl (fun _ _ _ _ _ _ _ _ _ _ _ _ => ⟨hle, trivial⟩) h
              | false =>
                simp only [hfit] at h
                have hlt : cp < len + m := by
                  have : ¬ (len + m ≤ cp) := by intro e; have e2 : Nat.ble (Nat.add len m) cp = true := Nat.ble_eq_true_of_le e; rw [e2] at hfit; cases hfit
                  omega
                exact grow_ok T hsrc hnl h1 (.inl ⟨rfl, cp, rfl, hlt⟩) h
            | opn es =>
              obtain ⟨hes, h9⟩ := ifB_iff.1 h
              clear h
              obtain rfl : es = i.size := by simpa using hes
              cases hm : Nat.beq m 0 with
              | true =>
                simp only [hm] at h9
                obtain rfl : m = 0 := by simpa using hm
                have hnn : news = [] := List.eq_nil_of_length_eq_zero (by rw [hnl]; simp)
                rw [hx] at h9
                have hk := h9
                subst hnn
                refine ⟨_, _, _, hk, fun θ w B sv xv r f hB vs vx => ?_⟩
                obtain ⟨nv, hnv, hS⟩ := hsrc P θ B w xv r vx
                simp only [concs, Option.some.injEq] at hnv
                subst hnv
                obtain ⟨loc, hl, hv, hok⟩ := vs.sl'
                exact ⟨sv, w, θ, run_append_none T (hS tx e2 hu2) (.inr ⟨_, _, _, hv, hok⟩), Went.refl r f, vs⟩
              | false =>
                simp only [hm] at h9
                obtain ⟨hb, h⟩ := at_iff.1 h9
                obtain ⟨ro, ex, blen, cs, hbl, h⟩ := ckCells_iff.1 h
                cases hfit : Nat.ble (Nat.add q (Nat.mul (Nat.add len m) i.size)) blen with
                | true =>
                  simp only [hfit] at h
                  have hle : q + (len + m) * i.size ≤ blen := by simpa using hfit
                  refine fit_ok T hsrc hnl (fun ex' blen' c' loc w B θ hb' hle' r hl hok => ?_) h
                  have hr := r.at hl
                  rw [hb'] at hr
                  obtain ⟨_, rcs, te, hcs, hs, hle2, _⟩ := hr.2.2 rfl
                  have : len + m ≤ (loc.size - q) / i.size := (Nat.le_div_iff_mul_le T.pos).2 (by omega)
                  exact ⟨this, this⟩
                | false =>
                  simp only [hfit] at h
                  exact grow_ok T hsrc hnl h1 (.inr ⟨rfl, rfl⟩) h
          · exact (Bool.false_ne_true h).elim
        · cases h
      · cases h
    · cases h
  · cases h
end
end Ev
namespace Ev
open Go
open Go.RowKit
noncomputable section
def copyK (sz : Nat) (H : Heap) (b o dl b2 o2 sl : Nat) (k : AV → Heap → Bool) : Bool :=
  forceN (Bool.rec dl sl (Nat.ble sl dl)) fun m => at_ H b2 fun bl => bl.ckCells fun _ _ blen c => ifB (Nat.ble (Nat.add o2 (Nat.mul m sz)) blen)
    (c.rowK (Nat.mul m sz) o2 fun l => writeK H b o l fun H => k (.int .i64 (.ofNat m)) H)
def copyE (P : Program) (t : Nat) (H : Heap) (d x : AV) (k : AV → Heap → Bool) : Bool :=
  match P.underlying t with
  | some (.slice e) => if (P.info? e).isSome then
      x.ckSl (d.ckSl (k (.int .i64 0) H) (fun _ _ _ _ => k (.int .i64 0) H) (fun _ _ _ _ => k (.int .i64 0) H))
        (fun b2 o2 sl _ => d.ckSl (k (.int .i64 0) H) (fun b o dl _ => copyK (P.cellsOf e) H b o dl b2 o2 sl k) (fun _ _ _ _ => k (.int .i64 0) H))
        (fun _ _ _ _ => d.ckSl (k (.int .i64 0) H) (fun _ _ _ _ => k (.int .i64 0) H) (fun _ _ _ _ => k (.int .i64 0) H))
    else false
  | _ => false
def SlV (v : Value) (n : Nat) : Prop := (n = 0 ∧ v = .slice none 0 0) ∨ ∃ a c, v = .slice (some a) n c
theorem VR.sle_form {θ : Theta} {b o lo es : Nat} {v : Value} (h : VR θ (.sle b o lo es) v) : SlV v 0 := by
  have hcc := h.conc (by simp)
  simp only [Ev.conc, Option.map_eq_some_iff] at hcc
  obtain ⟨l, _, hcc⟩ := hcc
  right
  rw [← hcc]
  split <;> exact ⟨_, _, rfl⟩
theorem VR.sl_form {θ : Theta} {b o n : Nat} {c : Cap} {v : Value} (h : VR θ (.sl b o n c) v) : SlV v n := by
  obtain ⟨l, _, h⟩ := h.sl
  exact .inr ⟨_, _, h⟩
theorem VR.nils_form {θ : Theta} {v : Value} (h : VR θ .nils v) : SlV v 0 := .inl ⟨rfl, h.nils⟩
theorem run_copy_zero {P : Program} {t e ty : Nat} {i : TypeInfo} (hu : P.underlying t = some (.slice e)) (hi : P.info? e = some i) {ts : Array TypeId} (ht : ts[0]? = some t) {d x : Value} {n m : Nat} (hd : SlV d n) (hx : SlV x m) (h0 : n = 0 ∨ m = 0) (w : World) :
    (Builtin.copy_ ts ty #[d, x]).run P w = .ok (.int .i64 0) w := by
  have hmin : Nat.min m n = 0 := by show min m n = 0; omega
  rcases hd with ⟨rfl, rfl⟩ | ⟨a, c, rfl⟩ <;> rcases hx with ⟨rfl, rfl⟩ | ⟨a', c', rfl⟩ <;>
    simp [Builtin.copy_, ht, run_underlying hu, Builtin.lenOf, Builtin.firstCells, loadCells, loadCellsFrom, storeCells, goInt, Go.sizeOf, typeInfo, hi, hmin]
theorem heavy_copy {P : Program} {env : List AV} {o : Oper} {c : Call} {t : Nat} {d x : Operand} {H : Heap} {n : Nat} {k : AV → Heap → Bool} (ho : o.op = .call c) (hc : c.callee = .builtin .copy) (ha : c.args = #[d, x]) (ht : c.argTypes[0]? = some t)
    (h : copyE P t H (ev P env d) (ev P env x) k = true) : ∃ v H', k v H' = true ∧ HeavySpec P env o H n v H' n := by
  have hod : d ∈ o.op.operands := by simp [ho, Op.operands, Call.operands, hc, ha]
  have hox : x ∈ o.op.operands := by simp [ho, Op.operands, Call.operands, hc, ha]
  have run : ∀ (ac : Act) (w w' : World) (v : Value), (Builtin.copy_ c.argTypes o.type #[ac.eval d, ac.eval x]).run P w = .ok v w' → (execOp ac.eval o).run P w = .ok (.value v) w' := by
    intro ac w w' v hr
    simp [execOp, ho, resolve, hc, ha, invoke, builtin, hr]
  unfold copyE at h
  split at h
  · rename_i e hu
    split at h
    · rename_i hinf
      cases hi : P.info? e with
      | none => simp [hi] at hinf
      | some i =>
        have hsz : i.size = P.cellsOf e := by simp [Program.cellsOf, hi]
        have zero : k (.int .i64 0) H = true → (∀ θ ac, Opd P θ env o ac → ∃ n m, SlV (ac.eval d) n ∧ SlV (ac.eval x) m ∧ (n = 0 ∨ m = 0)) → ∃ v H', k v H' = true ∧ HeavySpec P env o H n v H' n := by
          intro hk hz
          refine ⟨_, _, hk, fun θ ac w B r f hB hO => ?_⟩
          obtain ⟨p, q, hd, hx, h0⟩ := hz θ ac hO
          exact ⟨.int .i64 0, w, θ, .inl (run ac w w _ (run_copy_zero hu hi ht hd hx h0 w)), Went.refl r f, .inr rfl⟩
        have fd : ∀ {θ ac}, Opd P θ env o ac → VR θ (ev P env d) (ac.eval d) := fun hO => hO.at hod
        have fx : ∀ {θ ac}, Opd P θ env o ac → VR θ (ev P env x) (ac.eval x) := fun hO => hO.at hox
        rcases ckSl_iff.1 h with ⟨hx, h⟩ | ⟨b2, o2, sl, cap2, hx, h⟩ | ⟨b2, o2, lo2, es2, hx, h⟩
        · rcases ckSl_iff.1 h with ⟨hd, h⟩ | ⟨b, q, dl, cap, hd, h⟩ | ⟨b, q, lo, es, hd, h⟩
          · exact zero h fun θ ac hO => ⟨_, _, (hd ▸ fd hO).nils_form, (hx ▸ fx hO).nils_form, .inr rfl⟩
          · exact zero h fun θ ac hO => ⟨_, _, (hd ▸ fd hO).sl_form, (hx ▸ fx hO).nils_form, .inr rfl⟩
          · exact zero h fun θ ac hO => ⟨_, _, (hd ▸ fd hO).sle_form, (hx ▸ fx hO).nils_form, .inr rfl⟩
        · rcases ckSl_iff.1 h with ⟨hd, h⟩ | ⟨b, q, dl, cap, hd, h⟩ | ⟨b, q, lo, es, hd, h⟩
          · exact zero h fun θ ac hO => ⟨_, _, (hd ▸ fd hO).nils_form, (hx ▸ fx hO).sl_form, .inl rfl⟩
          · unfold copyK at h
            rw [forceN_eq] at h
            obtain ⟨hb2, h⟩ := at_iff.1 h
            obtain ⟨ro, ex, blen, cs, hbl, h⟩ := ckCells_iff.1 h
            obtain ⟨hle, h⟩ := ifB_iff.1 h
            have hmin : (Bool.rec dl sl (Nat.ble sl dl) : Nat) = Nat.min sl dl := by
              show _ = min sl dl
              cases hb : Nat.ble sl dl with
              | true => have : sl ≤ dl := by simpa using hb
                        show sl = _; omega
              | false => have : ¬ sl ≤ dl := by intro e; have e2 := Nat.ble_eq_true_of_le e; rw [e2] at hb; cases hb
                         show dl = _; omega
            rw [hmin] at h hle
            have hle : o2 + Nat.min sl dl * P.cellsOf e ≤ blen := by simpa using hle
            obtain ⟨h1, h⟩ := rowK_ok h
            obtain ⟨bl, hb, h, _, _, hq⟩ := writeK_ok h
            refine ⟨_, _, h, fun θ ac w B r f hB hO => ?_⟩
            have vd := hd ▸ fd hO
            have vx := hx ▸ fx hO
            obtain ⟨ld, hld, vd⟩ := vd.sl
            obtain ⟨lx, hlx, vx⟩ := vx.sl
            have hr := r.at hlx
            rw [hbl] at hr
            obtain ⟨vs, g1, g2, g3⟩ := row_ok hr _ o2 hle
            obtain ⟨hst, hw⟩ := hq P θ n B w vs ld r f hld g1
            refine ⟨.int .i64 (Nat.min sl dl : Nat), _, θ, .inl (run ac w _ _ ?_), hw, .inr rfl⟩
            have hfc := run_firstCells_some (P := P) w (P.cellsOf e) (Nat.min sl dl) (lx.addr o2) sl (cap2.of lx o2) vs g2 (fun j u hj => by rw [Loc.addr_add]; exact g3 j u hj)
            simp only [Builtin.copy_, ht, vd, vx, List.getElem?_toArray, List.getElem?_cons_zero, List.getElem?_cons_succ, Sem.run_bind, run_underlying hu, Result.andThen_ok, Builtin.lenOf, Sem.run_pure, run_sizeOf w hi, hfc, hst, goInt]
          · exact zero h fun θ ac hO => ⟨_, _, (hd ▸ fd hO).sle_form, (hx ▸ fx hO).sl_form, .inl rfl⟩
        · rcases ckSl_iff.1 h with ⟨hd, h⟩ | ⟨b, q, dl, cap, hd, h⟩ | ⟨b, q, lo, es, hd, h⟩
          · exact zero h fun θ ac hO => ⟨_, _, (hd ▸ fd hO).nils_form, (hx ▸ fx hO).sle_form, .inl rfl⟩
          · exact zero h fun θ ac hO => ⟨_, _, (hd ▸ fd hO).sl_form, (hx ▸ fx hO).sle_form, .inr rfl⟩
          · exact zero h fun θ ac hO => ⟨_, _, (hd ▸ fd hO).sle_form, (hx ▸ fx hO).sle_form, .inr rfl⟩
    · cases h
  · cases h
end
end Ev
namespace Ev
open Go
open Go.RowKit
noncomputable section
theorem run_setObj_map {P : Program} {w : World} {r : Nat} {es : Array MapEntry} {clock : Nat} (o : Obj) (hb : w.heap[r]? = some (.map es clock)) : (setObj r o).run P w = .ok () { w with heap := w.heap.setIfInBounds r o } := by
  simp [setObj, Sem.run, hb]
def clearE (P : Program) (t : Nat) (H : Heap) (x : AV) (k : AV → Heap → Bool) : Bool :=
  match P.underlying t with
  | some (.slice e) => (match zeroA P e with
    | some z => x.ckSl (k (.tup []) H) (fun b o len _ => Bool.rec (writeK H b o (repL z len) fun H => k (.tup []) H) (k (.tup []) H) (Nat.beq len 0)) (fun _ _ _ _ => k (.tup []) H)
    | none => false)
  | some (.map _ _) => x.ckMap (k (.tup []) H) fun b => at_ H b fun bl => bl.ckMap fun _ clk => hput H b (.map .nil clk) fun H => k (.tup []) H
  | _ => false
theorem went_map {P : Program} {θ : Theta} {h : Nat → Blk} {n B : Nat} {w : World} (r : HRel P θ h B w) (f : Fresh θ n) {b : Nat} {loc : Loc} (hl : θ.blk b = some loc) {es es' : Ents} {clk clk' : Nat}
    (hb : h b = .map es clk) {l : Array MapEntry} (hes : EntsRel θ es' l.toList) {w' : World} (hw' : w' = { w with heap := w.heap.setIfInBounds loc.blk (.map l clk') }) :
    Went P θ h n B w θ (setB h b (.map es' clk')) n w' := by
  have hr := r.at hl
  rw [hb] at hr
  obtain ⟨hB, l0, hw, _⟩ := hr
  have hob : (h b).own = true := by rw [hb]; rfl
  have hlt := lt_of_heap hw
  have hother : ∀ k, k < w.heap.size → k ≠ loc.blk → w'.heap[k]? = w.heap[k]? := fun k _ hk => by rw [hw']; simp [Ne.symm hk]
  have hs : w.heap.size ≤ w'.heap.size := by rw [hw']; simp
  refine ⟨Theta.le_refl _, Nat.le_refl _, fun _ _ => rfl, ?_, f, Frm.turn hob hl (by rw [hw']) (by rw [hw']) (by rw [hw']) hs hother, Grows.turn w hob hl _⟩
  exact r.turn (own_ne hob) hl hs hother _ ⟨hB, l, by rw [hw']; simp [hlt], hes⟩
theorem heavy_clear {P : Program} {env : List AV} {o : Oper} {c : Call} {t : Nat} {x : Operand} {H : Heap} {n : Nat} {k : AV → Heap → Bool} (ho : o.op = .call c) (hc : c.callee = .builtin .clear) (ha : c.args = #[x]) (ht : c.argTypes[0]? = some t)
    (h : clearE P t H (ev P env x) k = true) : ∃ v H', k v H' = true ∧ HeavySpec P env o H n v H' n := by
  have hox : x ∈ o.op.operands := by simp [ho, Op.operands, Call.operands, hc, ha]
  have run : ∀ (ac : Act) (w w' : World) (v : Value), (Builtin.clear_ c.argTypes o.type #[ac.eval x]).run P w = .ok v w' → (execOp ac.eval o).run P w = .ok (.value v) w' := by
    intro ac w w' v hr
    simp [execOp, ho, resolve, hc, ha, invoke, builtin, hr]
  have hnil : ∀ θ, VR θ (.tup []) (.tuple #[]) := fun θ => .inr rfl
  unfold clearE at h
  split at h
  · rename_i e hu
    split at h
    · rename_i z hz
      have zero : k (.tup []) H = true → (∀ θ ac, Opd P θ env o ac → SlV (ac.eval x) 0) → ∃ v H', k v H' = true ∧ HeavySpec P env o H n v H' n := by
        intro hk hz
        refine ⟨_, _, hk, fun θ ac w B r f hB hO => ⟨.tuple #[], w, θ, .inl (run ac w w _ ?_), Went.refl r f, hnil θ⟩⟩
        rcases hz θ ac hO with ⟨_, e⟩ | ⟨a, cp, e⟩ <;> simp [Builtin.clear_, ht, e, run_underlying hu]
      rcases ckSl_iff.1 h with ⟨hx, h⟩ | ⟨b, q, len, cap, hx, h⟩ | ⟨b, q, lo, es, hx, h⟩
      · exact zero h fun θ ac hO => (hx ▸ hO.at hox).nils_form
      · cases hl : Nat.beq len 0 with
        | true =>
          simp only [hl] at h
          obtain rfl : len = 0 := by simpa using hl
          exact zero h fun θ ac hO => (hx ▸ hO.at hox).sl_form
        | false =>
          simp only [hl] at h
          have hl0 : len ≠ 0 := by intro e; rw [e] at hl; simp at hl
          obtain ⟨bl, hb, h, h1, _, hq⟩ := writeK_ok h
          refine ⟨_, _, h, fun θ ac w B r f hB hO => ?_⟩
          have vx := hx ▸ hO.at hox
          obtain ⟨lx, hlx, vx⟩ := vx.sl
          obtain ⟨i, zv, hi, hzero, hsz, hzc⟩ := zeroA_info hz
          obtain ⟨zvs, hzvs, hcells⟩ := hzc θ
          obtain ⟨hst, hw⟩ := hq P θ n B w _ lx r f hlx (repL_conc hzvs len)
          refine ⟨.tuple #[], _, θ, .inl (run ac w _ _ ?_), hw, hnil θ⟩
          have hrow : (Builtin.zeroCells zv.cells len).toList = (List.replicate len zvs).flatten := by
            simp only [Builtin.zeroCells, hcells]
            by_cases hv : zvs = []
            · subst hv; simp
            · have := range_mod zvs len hv
              simpa using this
          obtain ⟨m, rfl⟩ : ∃ m, len = m + 1 := ⟨len - 1, by omega⟩
          simp only [Builtin.clear_, ht, vx, List.getElem?_toArray, List.getElem?_cons_zero, Sem.run_bind, run_underlying hu, Result.andThen_ok, zeroValue, typeInfo, hi, hzero, run_program, Sem.run_pure, hrow, hst]
      · exact zero h fun θ ac hO => (hx ▸ hO.at hox).sle_form
    · cases h
  · rename_i kt e hu
    rcases ckMap_iff.1 h with ⟨hx, h⟩ | ⟨b, hx, h⟩
    · refine ⟨_, _, h, fun θ ac w B r f hB hO => ⟨.tuple #[], w, θ, .inl (run ac w w _ ?_), Went.refl r f, hnil θ⟩⟩
      have vx := hx ▸ hO.at hox
      simp [Builtin.clear_, ht, vx.nilm, run_underlying hu]
    · obtain ⟨hb, h⟩ := at_iff.1 h
      obtain ⟨es, clk, hbl, h⟩ := ckMap'_iff.1 h
      rw [hput_eq] at h
      refine ⟨_, _, h, fun θ ac w B r f hB hO => ?_⟩
      have vx := hx ▸ hO.at hox
      obtain ⟨l, hl, vx⟩ := vx.map
      have hr := r.at hl
      rw [hbl] at hr
      obtain ⟨_, es', hw, hes⟩ := hr
      refine ⟨.tuple #[], { w with heap := w.heap.setIfInBounds l.blk (.map #[] clk) }, θ, .inl (run ac w _ _ ?_), by
        rw [hfn_put _ _ hb]
        exact went_map r f hl hbl (es' := .nil) (l := #[]) (clk' := clk) .nil rfl, hnil θ⟩
      · simp [Builtin.clear_, ht, vx, run_underlying hu, run_getObj_of hw (by simp), run_setObj_map _ hw]
  · cases h
def Ents.upd (es : Ents) (is : List Nat) (H : Heap) (key val : AV) (clk : Nat) (k : Bool → Ents → Bool) : Bool :=
  Ents.rec (motive := fun _ => (Bool → Ents → Bool) → Bool) (fun k => k false (.cons key val clk .nil)) (fun k' v' b l ih k => keyEq is H key k' (k true (.cons key val b l)) (ih fun f l' => k f (.cons k' v' b l'))) es k
theorem Ents.upd_ok {P : Program} {kt : Nat} {fl : Bool} {H : Heap} {key val : AV} {clk : Nat} (hd : KeyOk P kt fl key) : ∀ {es : Ents} {k : Bool → Ents → Bool}, es.upd (keyIs P kt) H key val clk k = true →
    ∃ f es', k f es' = true ∧ ∀ θ B w kv vv l i, HRel P θ (hfn H) B w → Ev.conc θ key = some kv → Ev.conc θ val = some vv → EntsRel θ es l →
      (f = false ∧ FindAt P w kt fl kv l i none ∧ EntsRel θ es' (l ++ [⟨kv, vv, clk⟩])) ∨
      (f = true ∧ ∃ j e, FindAt P w kt fl kv l i (some (i + j, e.val)) ∧ l[j]? = some e ∧ e.key = kv ∧ EntsRel θ es' (l.set j { e with key := kv, val := vv }))
  | .nil, k, h => ⟨false, _, h, fun θ B w kv vv l i r hk hv hl => by
      cases hl
      exact .inl ⟨rfl, hd.nil w kv i, .cons hk hv .nil⟩⟩
  | .cons k' v' b es, k, h => by
    have h : keyEq (keyIs P kt) H key k' (k true (.cons key val b es)) (es.upd (keyIs P kt) H key val clk fun f l' => k f (.cons k' v' b l')) = true := h
    rcases hd.eq H k' _ _ h with ⟨hy, hq⟩ | ⟨hn, hq⟩
    · refine ⟨true, _, hy, fun θ B w kv vv l i r hk hv hl => ?_⟩
      cases hl with
      | cons hk' hv' hl =>
        obtain ⟨h1, h2⟩ := hq θ B w _ _ r hk hk'
        subst h2
        exact .inr ⟨rfl, 0, _, FindAt.hit h1, rfl, rfl, .cons hk hv hl⟩
    · obtain ⟨f, es', hk2, hr⟩ := Ents.upd_ok hd hn
      refine ⟨f, _, hk2, fun θ B w kv vv l i r hk hv hl => ?_⟩
      cases hl with
      | cons hk' hv' hl =>
        have h1 := hq θ B w _ _ r hk hk'
        rcases hr θ B w kv vv _ (i + 1) r hk hv hl with ⟨hf, h2, h3⟩ | ⟨hf, j, e, h2, h3, h4, h5⟩
        · exact .inl ⟨hf, FindAt.miss h1 h2, .cons hk' hv' h3⟩
        · exact .inr ⟨hf, j + 1, e, FindAt.miss h1 (by rw [show i + (j + 1) = i + 1 + j from by omega]; exact h2), by simpa using h3, h4, .cons hk' hv' h5⟩
def mapUpE (P : Program) (t : Nat) (H : Heap) (m key val : AV) (k : AV → Heap → Bool) : Bool :=
  match P.underlying t with
  | some (.map kt _) => keyOk P kt key (val.ckOk (m.ckMap false fun b => at_ H b fun bl => bl.ckMap fun es clk => es.upd (keyIs P kt) H key val clk fun f es' =>
        Bool.rec (forceN (Nat.succ clk) fun c => hput H b (.map es' c) fun H => k .bad H) (hput H b (.map es' clk) fun H => k .bad H) f))
  | _ => false
theorem heavy_mapUp {P : Program} {env : List AV} {o : Oper} {t : Nat} {m x y : Operand} {H : Heap} {n : Nat} {k : AV → Heap → Bool} (ho : o.op = .mapUpdate t m x y ∨ o.op = .insert t m x y)
    (h : mapUpE P t H (ev P env m) (ev P env x) (ev P env y) k = true) : ∃ v H', k v H' = true ∧ HeavySpec P env o H n v H' n := by
  have hops : o.op.operands = #[m, x, y] := by rcases ho with e | e <;> rw [e] <;> rfl
  have run : ∀ (ac : Act) (w w' : World), (Instr.mapUpdate t (ac.eval m) (ac.eval x) (ac.eval y)).run P w = .ok () w' → (execOp ac.eval o).run P w = .ok .skip w' := by
    intro ac w w' hr
    rcases ho with e | e <;> simp [execOp, e, hr]
  unfold mapUpE at h
  split at h
  · rename_i kt e hu
    · obtain ⟨⟨fl, hK⟩, h⟩ := keyOk_iff h
      have hkb := hK.bad
      obtain ⟨hvb, h⟩ := ckOk_iff.1 h
      rcases ckMap_iff.1 h with ⟨_, h⟩ | ⟨b, hx, h⟩
      · cases h
      · obtain ⟨hb, h⟩ := at_iff.1 h
        obtain ⟨es, clk, hbl, h⟩ := ckMap'_iff.1 h
        obtain ⟨f, es', h, hq⟩ := Ents.upd_ok hK h
        have main : ∀ (θ : Theta) (ac : Act) (w : World) (B : Nat), HRel P θ (hfn H) B w → Fresh θ n → Opd P θ env o ac → ∃ w', (Instr.mapUpdate t (ac.eval m) (ac.eval x) (ac.eval y)).run P w = .ok () w' ∧
            Went P θ (hfn H) n B w θ (setB (hfn H) b (.map es' (if f then clk else clk + 1))) n w' := by
          intro θ ac w B r fr hO
          have vm := hO.at (x := m) (by simp [hops])
          have vx := (hO.at (x := x) (by simp [hops])).conc hkb
          have vy := (hO.at (x := y) (by simp [hops])).conc hvb
          rw [hx] at vm
          obtain ⟨l, hl, vm⟩ := vm.map
          have hr := r.at hl
          rw [hbl] at hr
          obtain ⟨_, l0, hw, hes⟩ := hr
          rcases hq θ B w _ _ _ 0 r vx vy hes with ⟨rfl, h2, h3⟩ | ⟨rfl, j, e, h2, h3, h4, h5⟩
          · refine ⟨_, ?_, went_map r fr hl hbl (es' := es') (clk' := clk + 1) (l := l0.push ⟨ac.eval x, ac.eval y, clk⟩) (by simpa using h3) rfl⟩
            simp [Instr.mapUpdate, run_underlying hu, vm, run_getObj_of hw (by simp), hK.chk θ _ _ w vx, hK.find h2, run_setObj_map _ hw]
          · rw [Nat.zero_add] at h2
            have hget : l0[j]? = some e := by simpa using h3
            have hlt : j < l0.size := by
              rcases Nat.lt_or_ge j l0.size with h | h
              · exact h
              · simp [Array.getElem?_eq_none h] at hget
            have hel : l0[j] = e := by simpa [Array.getElem?_eq_getElem hlt] using hget
            have hmod : l0.modify j (fun e => { e with key := ac.eval x, val := ac.eval y }) = (l0.toList.set j { e with key := ac.eval x, val := ac.eval y }).toArray := by
              apply Array.ext'
              apply List.ext_getElem?
              intro i
              simp only [Array.getElem?_toList, Array.getElem?_modify, List.getElem?_set]
              by_cases hij : j = i
              · subst hij
                simp [hlt, hel]
              · simp [hij]
            refine ⟨_, ?_, went_map r fr hl hbl (es' := es') (clk' := clk) (l := (l0.toList.set j { e with key := ac.eval x, val := ac.eval y }).toArray) (by simpa using h5) rfl⟩
            have hsb := hK.bits θ _ vx
            simp [Instr.mapUpdate, run_underlying hu, vm, run_getObj_of hw (by simp), hK.chk θ _ _ w vx, hK.find h2, hget, h4, Instr.keyThatStays, hsb, hmod, run_setObj_map _ hw]
        cases f with
        | false =>
          simp only [forceN_eq, hput_eq] at h
          refine ⟨_, _, h, fun θ ac w B r fr hB hO => ?_⟩
          obtain ⟨w', hr, hw⟩ := main θ ac w B r fr hO
          exact ⟨undef, w', θ, .inr ⟨run ac w w' hr, rfl⟩, by rw [hfn_put _ _ hb]; exact hw, .inl rfl⟩
        | true =>
          simp only [hput_eq] at h
          refine ⟨_, _, h, fun θ ac w B r fr hB hO => ?_⟩
          obtain ⟨w', hr, hw⟩ := main θ ac w B r fr hO
          exact ⟨undef, w', θ, .inr ⟨run ac w w' hr, rfl⟩, by rw [hfn_put _ _ hb]; exact hw, .inl rfl⟩
  · cases h
def rangeE (P : Program) (t : Nat) (H : Heap) (n : Nat) (x : AV) (k : AV → Heap → Nat → Bool) : Bool :=
  match P.underlying t with
  | some (.map _ _) => x.ckMap false fun m => at_ H m fun bl => bl.ckMap fun _ clk => ifB (Nat.blt n 32768) (hput H n (.miter m clk [] clk) fun H => forceN (Nat.succ n) fun n' => k (.ptr n 0) H n')
  | _ => false
theorem heavy_range {P : Program} {env : List AV} {o : Oper} {t : Nat} {x : Operand} {H : Heap} {n : Nat} {k : AV → Heap → Nat → Bool} (ho : o.op = .range t x)
    (h : rangeE P t H n (ev P env x) k = true) : ∃ v H' n', k v H' n' = true ∧ HeavySpec P env o H n v H' n' := by
  unfold rangeE at h
  split at h
  · rename_i kt e hu
    rcases ckMap_iff.1 h with ⟨_, h⟩ | ⟨b, hx, h⟩
    · cases h
    · obtain ⟨hb, h⟩ := at_iff.1 h
      obtain ⟨es, clk, hbl, h⟩ := ckMap'_iff.1 h
      obtain ⟨hn, h⟩ := ifB_iff.1 h
      have hn : n < 32768 := by simpa [blt_eq] using hn
      rw [hput_eq, forceN_eq] at h
      refine ⟨_, _, _, h, fun θ ac w B r f hB hO => ?_⟩
      have vx := hx ▸ hO.at (x := x) (by simp [ho, Op.operands])
      obtain ⟨l, hl, vx⟩ := vx.map
      have hr := r.at hl
      rw [hbl] at hr
      obtain ⟨_, l0, hw, hes⟩ := hr
      have hi := f n (Nat.le_refl _)
      refine ⟨.pointer (some ⟨w.heap.size, 0, none⟩), w.alloc (.mapIter (some l.blk) clk #[] clk), θ.add n ⟨w.heap.size, 0, 0⟩, .inl ?_, ?_, .inr ?_⟩
      · simp [execOp, ho, Instr.range, run_underlying hu, vx, run_getObj_of hw (by simp)]
        try rfl
      · rw [hfn_put _ _ hn]
        exact went_alloc r f (ob := .mapIter (some l.blk) clk #[] clk) rfl rfl rfl rfl ⟨hB, rfl, l, (Theta.le_add hi _).1 _ _ hl, heap_alloc_self _ _⟩
      · simp [Ev.conc, Theta.add_self, Loc.addr]
  · cases h
def nextE (H : Heap) (x : AV) (isS : Bool) (k : AV → Bool) : Bool :=
  match isS with
  | true => false
  | false => x.ckPtr fun r o => ifB (Nat.beq o 0) (at_ H r fun bl => bl.ckIter fun m _ _ _ => at_ H m fun bm => bm.ckMap fun es _ => Ents.casesOn (motive := fun _ => Bool) es (k (.tup [.bool false])) (fun _ _ _ _ => false))
theorem read_next {P : Program} {env : List AV} {o : Oper} {isS : Bool} {x : Operand} {H : Heap} {k : AV → Bool} (ho : o.op = .next x isS)
    (h : nextE H (ev P env x) isS k = true) : ∃ v, k v = true ∧ ReadSpec P env o H v := by
  unfold nextE at h
  split at h
  · cases h
  · obtain ⟨b, q, hx, h⟩ := ckPtr_iff.1 h
    obtain ⟨hq, h⟩ := ifB_iff.1 h
    obtain rfl : q = 0 := by simpa using hq
    obtain ⟨hb, h⟩ := at_iff.1 h
    obtain ⟨m, since, seen, last, hbl, h⟩ := ckIter_iff.1 h
    obtain ⟨hm, h⟩ := at_iff.1 h
    obtain ⟨es, clk, hml, h⟩ := ckMap'_iff.1 h
    cases es with
    | cons a b c d => exact (Bool.false_ne_true h).elim
    | nil =>
      refine ⟨_, h, fun θ ac w B r hO => ⟨.tuple #[.bool false], ?_, .inr (by simp [Ev.conc, concs])⟩⟩
      have vx := hx ▸ hO.at (x := x) (by simp [ho, Op.operands])
      obtain ⟨l, hl, vx⟩ := vx.ptr
      have hr := r.at hl
      rw [hbl] at hr
      obtain ⟨_, h0, lm, hlm, hw⟩ := hr
      have hr2 := r.at hlm
      rw [hml] at hr2
      obtain ⟨_, l0, hw2, hes⟩ := hr2
      have : l0 = #[] := by
        cases hl0 : l0.toList with
        | nil => simpa using hl0
        | cons a b => rw [hl0] at hes; cases hes
      subst this
      have had : l.addr 0 = ⟨l.blk, 0, none⟩ := by simp [Loc.addr, h0]
      simp [execOp, ho, vx, had, Instr.next, run_getObj_of hw (by simp), run_getObj_of hw2 (by simp), Question.forced]
end
end Ev
