/- A part of the proof that GcRoom returns true: text EvG. -/
import Derived.Test.YtfhilpdbmfbbdaaGreatDoorEvF
namespace Ev
open Go
open Go.RowKit
noncomputable section
def over (h : Nat → Blk) (ex : Nat → Option Blk) : Nat → Blk := fun b => (ex b).getD (h b)
theorem over_some {h : Nat → Blk} {ex : Nat → Option Blk} {b : Nat} {x : Blk} (e : ex b = some x) : over h ex b = x := by simp [over, e]
theorem over_none {h : Nat → Blk} {ex : Nat → Option Blk} {b : Nat} (e : ex b = none) : over h ex b = h b := by simp [over, e]
theorem HRel.under {P : Program} {θ : Theta} {h : Nat → Blk} {ex : Nat → Option Blk} {B : Nat} {w : World} (r : HRel P θ (over h ex) B w) (hd : ∀ b x, ex b = some x → h b = .dead) : HRel P θ h B w :=
  r.weaken fun b hb => by
    cases e : ex b with
    | none => exact (over_none e).symm
    | some x => exact absurd (hd b x e) hb
theorem Went.over {P : Program} {θ θ' : Theta} {h h' : Nat → Blk} {ex : Nat → Option Blk} {n n' B : Nat} {w w' : World} (r : HRel P θ (over h ex) B w) (hd : ∀ b x, ex b = some x → h b = .dead)
    (k : Went P θ h n B w θ' h' n' w') : Went P θ (Ev.over h ex) n B w θ' (Ev.over h' ex) n' w' := by
  have far : ∀ b x l, ex b = some x → x ≠ .dead → θ.blk b = some l → ∀ b0 l0, h b0 ≠ .dead → θ.blk b0 = some l0 → l0.blk ≠ l.blk := by
    intro b x l e hx hl b0 l0 h0 hl0 e0
    have hb0 : ex b0 = none := by
      cases e1 : ex b0 with
      | none => rfl
      | some y => exact absurd (hd b0 y e1) h0
    have := r.inj b b0 l l0 (by rw [over_some e]; exact hx) (by rw [over_none hb0]; exact h0) hl hl0 e0.symm
    subst this
    rw [e] at hb0; cases hb0
  have same : ∀ b x l, ex b = some x → x ≠ .dead → θ.blk b = some l → l.blk < w.heap.size ∧ w'.heap[l.blk]? = w.heap[l.blk]? := by
    intro b x l e hx hl
    have hlt : l.blk < w.heap.size := r.lt (b := b) (by rw [over_some e]; exact hx) hl
    exact ⟨hlt, k.frm.block _ hlt fun b0 l0 h0 hl0 => far b x l e hx hl b0 l0 (own_ne h0) hl0⟩
  refine ⟨k.le, k.num, k.old, ⟨fun b hb => ?_, fun b b' l l' hb hb' hl hl' el => ?_⟩, k.fresh, ?_, ?_⟩
  · cases e : ex b with
    | none =>
      rw [over_none e] at hb ⊢
      exact k.rel.blk b hb
    | some x =>
      rw [over_some e] at hb ⊢
      obtain ⟨l, hl, hlt, hr⟩ := r.blk b (by rw [over_some e]; exact hb)
      rw [over_some e] at hr
      exact ⟨l, k.le.1 _ _ hl, Nat.lt_of_lt_of_le hlt k.frm.size, hr.keep k.le (same b x l e hb hl).2⟩
  · have cross : ∀ b x l, ex b = some x → x ≠ .dead → θ'.blk b = some l → ∀ b' l', ex b' = none → h' b' ≠ .dead → θ'.blk b' = some l' → l.blk ≠ l'.blk := by
      intro b x l e hx hl b' l' e' hb' hl' el
      obtain ⟨l0, hl0, _⟩ := r.blk b (by rw [over_some e]; exact hx)
      have := k.le.1 _ _ hl0
      rw [hl] at this; injection this with this; subst this
      obtain ⟨hlt, _⟩ := same b x l e hx hl0
      rcases k.grows.any b' l' hb' hl' with ⟨b0, l1, h0, t0, e0⟩ | hge
      · exact far b x l e hx hl0 b0 l1 h0 t0 (e0.trans el.symm)
      · omega
    cases e : ex b with
    | none =>
      rw [over_none e] at hb
      cases e' : ex b' with
      | none =>
        rw [over_none e'] at hb'
        exact k.rel.inj b b' l l' hb hb' hl hl' el
      | some x =>
        rw [over_some e'] at hb'
        exact absurd el.symm (cross b' x l' e' hb' hl' b l e hb hl)
    | some x =>
      rw [over_some e] at hb
      cases e' : ex b' with
      | none =>
        rw [over_none e'] at hb'
        exact absurd el (cross b x l e hb hl b' l' e' hb' hl')
      | some y =>
        rw [over_some e'] at hb'
        obtain ⟨l0, hl0, _⟩ := r.blk b (by rw [over_some e]; exact hb)
        obtain ⟨l1, hl1, _⟩ := r.blk b' (by rw [over_some e']; exact hb')
        have t0 := k.le.1 _ _ hl0
        have t1 := k.le.1 _ _ hl1
        rw [hl] at t0; injection t0 with t0; subst t0
        rw [hl'] at t1; injection t1 with t1; subst t1
        exact r.inj b b' l l' (by rw [over_some e]; exact hb) (by rw [over_some e']; exact hb') hl0 hl1 el
  · refine ⟨k.frm.os, k.frm.tape, k.frm.output, k.frm.size, fun q hq hn => k.frm.block q hq fun b l hb hl => hn b l ?_ hl⟩
    cases e : ex b with
    | none => rw [over_none e]; exact hb
    | some x => exact absurd (hd b x e) (own_ne hb)
  · have back : ∀ b0, h b0 ≠ .dead → Ev.over h ex b0 = h b0 := by
      intro b0 h0
      cases e : ex b0 with
      | none => exact over_none e
      | some x => exact absurd (hd b0 x e) h0
    have old : ∀ b x l, ex b = some x → x ≠ .dead → θ'.blk b = some l → θ.blk b = some l := by
      intro b x l e hx hl
      obtain ⟨l0, hl0, _⟩ := r.blk b (by rw [over_some e]; exact hx)
      have := k.le.1 _ _ hl0
      rw [hl] at this; injection this with this; subst this
      exact hl0
    refine ⟨fun b l hb hl => ?_, fun b l hb hl => ?_⟩
    · cases e : ex b with
      | none =>
        rw [over_none e] at hb
        rcases k.grows.own b l hb hl with ⟨b0, l0, h0, t0, e0⟩ | hge
        · exact .inl ⟨b0, l0, by rw [back b0 (own_ne h0)]; exact h0, t0, e0⟩
        · exact .inr hge
      | some x =>
        rw [over_some e] at hb
        exact .inl ⟨b, l, by rw [over_some e]; exact hb, old b x l e (own_ne hb) hl, rfl⟩
    · cases e : ex b with
      | none =>
        rw [over_none e] at hb
        rcases k.grows.any b l hb hl with ⟨b0, l0, h0, t0, e0⟩ | hge
        · exact .inl ⟨b0, l0, by rw [back b0 h0]; exact h0, t0, e0⟩
        · exact .inr hge
      | some x =>
        rw [over_some e] at hb
        exact .inl ⟨b, l, by rw [over_some e]; exact hb, old b x l e hb hl, rfl⟩
end
end Ev
namespace Ev
open Go
open Go.RowKit
noncomputable section
def ancM (ms : List Nat) : List Edge → Nat
  | [] => 0
  | e :: es => cond (Region.binds .any e) (Nat.lor (Nat.lor (ancM ms es) (ms.getD e.on 0)) (Nat.shiftLeft 1 e.on)) (ancM ms es)
def mkMs : List Oper → List Nat → List Nat
  | [], ms => ms
  | o :: l, ms => mkMs l (ms ++ [ancM ms o.after.toList])
def anc (ms : List Nat) (p q : Nat) : Bool := Nat.testBit (ms.getD q 0) p
theorem ancM_spec {ms : List Nat} {p : Nat} : ∀ {es : List Edge}, Nat.testBit (ancM ms es) p = true → ∃ e ∈ es, Region.binds .any e = true ∧ (e.on = p ∨ Nat.testBit (ms.getD e.on 0) p = true)
  | [], h => by simp [ancM] at h
  | e :: es, h => by
    simp only [ancM] at h
    cases hb : Region.binds .any e with
    | false =>
      rw [hb] at h
      obtain ⟨e', h1, h2⟩ := ancM_spec (es := es) h
      exact ⟨e', by simp [h1], h2⟩
    | true =>
      rw [hb] at h
      change Nat.testBit ((ancM ms es ||| ms.getD e.on 0) ||| (1 <<< e.on)) p = true at h
      rw [Nat.testBit_or, Nat.testBit_or, Bool.or_eq_true, Bool.or_eq_true] at h
      rcases h with (h | h) | h
      · obtain ⟨e', h1, h2⟩ := ancM_spec (es := es) h
        exact ⟨e', by simp [h1], h2⟩
      · exact ⟨e, by simp, hb, .inr h⟩
      · refine ⟨e, by simp, hb, .inl ?_⟩
        rw [Nat.one_shiftLeft, Nat.testBit_two_pow] at h
        simpa using h
theorem mkMs_pre : ∀ (l : List Oper) (ms : List Nat), ∃ r, mkMs l ms = ms ++ r ∧ r.length = l.length
  | [], ms => ⟨[], by simp [mkMs], rfl⟩
  | o :: l, ms => by
    obtain ⟨r, h1, h2⟩ := mkMs_pre l (ms ++ [ancM ms o.after.toList])
    exact ⟨ancM ms o.after.toList :: r, by rw [mkMs, h1]; simp, by simp [h2]⟩
theorem mkMs_at : ∀ {l : List Oper} {ms : List Nat} {k : Nat} {o : Oper}, l[k]? = some o → (mkMs l ms).getD (ms.length + k) 0 = ancM ((mkMs l ms).take (ms.length + k)) o.after.toList
  | [], ms, k, o, h => by simp at h
  | o' :: l, ms, 0, o, h => by
    simp at h; subst h
    obtain ⟨r, h1, h2⟩ := mkMs_pre l (ms ++ [ancM ms o'.after.toList])
    rw [mkMs, h1]
    simp [List.getD_eq_getElem?_getD]
  | o' :: l, ms, k + 1, o, h => by
    have := mkMs_at (l := l) (ms := ms ++ [ancM ms o'.after.toList]) (k := k) (o := o) (by simpa using h)
    simp only [List.length_append, List.length_singleton] at this
    rw [mkMs, show ms.length + (k + 1) = ms.length + 1 + k from by omega]
    exact this
def Waits (ops : Array Oper) (ms : List Nat) : Prop :=
  ∀ p q, anc ms p q = true → ∃ o, ops[q]? = some o ∧ ∃ e ∈ o.after, Region.binds .any e = true ∧ (e.on = p ∨ (e.on < q ∧ anc ms p e.on = true))
theorem waits_mk (ops : Array Oper) : Waits ops (mkMs ops.toList []) := by
  intro p q h
  unfold anc at h
  obtain ⟨r, h1, h2⟩ := mkMs_pre ops.toList []
  rcases Nat.lt_or_ge q ops.size with hq | hq
  · have ho : ops.toList[q]? = some ops[q] := by simp [hq]
    have := mkMs_at (ms := []) ho
    simp only [List.length_nil, Nat.zero_add] at this
    rw [this] at h
    obtain ⟨e, h3, h4, h5⟩ := ancM_spec h
    refine ⟨ops[q], by simp [hq], e, by simpa using h3, h4, h5.imp id fun h5 => ?_⟩
    by_cases he : e.on < q
    · refine ⟨he, ?_⟩
      unfold anc
      rw [List.getD_eq_getElem?_getD, List.getElem?_take_of_lt he] at h5
      rw [List.getD_eq_getElem?_getD]
      exact h5
    · rw [List.getD_eq_getElem?_getD, List.getElem?_eq_none (by simp; omega)] at h5
      simp at h5
  · rw [List.getD_eq_getElem?_getD, List.getElem?_eq_none (by rw [h1]; simp [h2]; omega)] at h
    simp at h
def Closed (ops : Array Oper) (L : Array Bool) : Prop :=
  ∀ q o, L.getD q false = true → ops[q]? = some o → ∀ e ∈ o.after, Region.binds .any e = true → L.getD e.on false = true
theorem Closed.anc {ops : Array Oper} {ms : List Nat} {L : Array Bool} (hw : Waits ops ms) (hc : Closed ops L) {p : Nat} : ∀ {q : Nat}, anc ms p q = true → L.getD q false = true → L.getD p false = true := by
  intro q
  induction q using Nat.strongRecOn with
  | ind q ih =>
    intro h hq
    obtain ⟨o, ho, e, he, hb, h1⟩ := hw p q h
    have := hc q o hq ho e he hb
    rcases h1 with rfl | ⟨h1, h2⟩
    · exact this
    · exact ih _ h1 h2 this
theorem Closed.ready {ops : Array Oper} {ms : List Nat} {L : Array Bool} (hw : Waits ops ms) (hc : Closed ops L) {p q : Nat} (hr : q ∈ Region.ready .any ops L) (h : Ev.anc ms p q = true) : L.getD p false = true := by
  obtain ⟨o, ho, e, he, hb, h1⟩ := hw p q h
  obtain ⟨_, o', ho', hall⟩ := mem_ready.1 hr
  rw [ho] at ho'; injection ho' with ho'; subst ho'
  have := hall e he hb
  rcases h1 with rfl | ⟨h1, h2⟩
  · exact this
  · exact hc.anc hw h2 this
theorem getD_set_of {L : Array Bool} {i j : Nat} (h : (L.setIfInBounds i true).getD j false = true) : j = i ∨ L.getD j false = true := by
  simp only [Array.getD_eq_getD_getElem?, Array.getElem?_setIfInBounds] at h ⊢
  by_cases e : i = j
  · exact .inl e.symm
  · rw [if_neg e] at h; exact .inr h
theorem getD_set_in {L : Array Bool} {i j : Nat} (h : L.getD j false = true) : (L.setIfInBounds i true).getD j false = true := by
  simp only [Array.getD_eq_getD_getElem?, Array.getElem?_setIfInBounds] at h ⊢
  by_cases e : i = j
  · subst e
    rcases Nat.lt_or_ge i L.size with h' | h'
    · simp [h']
    · rw [Array.getElem?_eq_none h'] at h; simp at h
  · rw [if_neg e]; exact h
theorem getD_set_same {L : Array Bool} {i : Nat} (h : i < L.size) : (L.setIfInBounds i true).getD i false = true := by
  simp [Array.getD_eq_getD_getElem?, h]
theorem Closed.set {ops : Array Oper} {L : Array Bool} (hc : Closed ops L) {i : Nat} (hr : i ∈ Region.ready .any ops L) : Closed ops (L.setIfInBounds i true) := by
  intro q o hq ho e he hb
  rcases getD_set_of hq with rfl | hq
  · obtain ⟨_, o', ho', hall⟩ := mem_ready.1 hr
    rw [ho] at ho'; injection ho' with ho'; subst ho'
    exact getD_set_in (hall e he hb)
  · exact getD_set_in (hc q o hq ho e he hb)
theorem ready_not {ops : Array Oper} {L : Array Bool} {i : Nat} (hs : L.size = ops.size) (hr : i ∈ Region.ready .any ops L) : i < ops.size ∧ L.getD i false = false := by
  obtain ⟨h, o, ho, _⟩ := mem_ready.1 hr
  have hi : i < ops.size := by
    rcases Nat.lt_or_ge i ops.size with h' | h'
    · exact h'
    · rw [Array.getElem?_eq_none h'] at ho; cases ho
  refine ⟨hi, ?_⟩
  simp only [Array.getD_eq_getD_getElem?] at h ⊢
  rw [Array.getElem?_eq_getElem (by omega)] at h ⊢
  simpa using h
def allI : List Oper → Nat → (Nat → Oper → Bool) → Bool
  | [], _, _ => true
  | o :: l, i, f => cond (f i o) (allI l (i + 1) f) false
theorem allI_iff : ∀ {l : List Oper} {i : Nat} {f : Nat → Oper → Bool}, allI l i f = true → ∀ j o, l[j]? = some o → f (i + j) o = true
  | [], i, f, _, j, o, h => by simp at h
  | o' :: l, i, f, h, j, o, hj => by
    simp only [allI] at h
    cases hf : f i o' with
    | false => rw [hf] at h; cases h
    | true =>
      rw [hf] at h
      cases j with
      | zero => simp at hj; subst hj; exact hf
      | succ j =>
        have := allI_iff (l := l) h j o (by simpa using hj)
        rwa [show i + 1 + j = i + (j + 1) from by omega] at this
def memN (t : Nat) : List Nat → Bool
  | [] => false
  | x :: l => cond (Nat.beq t x) true (memN t l)
theorem memN_iff {t : Nat} : ∀ {l : List Nat}, memN t l = true ↔ t ∈ l
  | [] => by simp [memN]
  | x :: l => by
    simp only [memN]
    cases h : Nat.beq t x with
    | true => simp at h; simp [h]
    | false =>
      have : t ≠ x := by intro e; subst e; simp at h
      simp only [cond_false, memN_iff (l := l)]
      simp [this]
def pairOK (P : Program) (ops : Array Oper) (ms : List Nat) (i : Nat) (o : Oper) (j : Nat) (oj : Oper) : Bool :=
  cond (Nat.beq i j) true (
    (cond (Nat.blt i j && Nat.ble 3 (cls P o) && Nat.ble 3 (cls P oj)) (anc ms i j) true) &&
    (match oj.dst with
     | none => true
     | some t => (match o.dst with | some s => !Nat.beq s t | none => true) &&
       cond (memN t (o.looksAt ops)) (cond (Nat.blt j i) (anc ms j i) (anc ms i j)) true))
def regOK (P : Program) (ops : Array Oper) (ms : List Nat) : Bool :=
  allI ops.toList 0 fun i o => (o.after.toList.all fun e => cond (Region.binds .any e) (Nat.blt e.on i) true) && allI ops.toList 0 fun j oj => pairOK P ops ms i o j oj
structure RegOK (P : Program) (ops : Array Oper) (ms : List Nat) : Prop where
  waits : Waits ops ms
  back : ∀ (i : Nat) (o : Oper), ops[i]? = some o → ∀ e ∈ o.after, Region.binds .any e = true → e.on < i
  heavies : ∀ (i j : Nat) (o oj : Oper), ops[i]? = some o → ops[j]? = some oj → i < j → 3 ≤ cls P o → 3 ≤ cls P oj → anc ms i j = true
  once : ∀ (i j : Nat) (o oj : Oper) (t : Nat), ops[i]? = some o → ops[j]? = some oj → o.dst = some t → oj.dst = some t → i = j
  before : ∀ (i j : Nat) (o oj : Oper) (t : Nat), ops[i]? = some o → ops[j]? = some oj → j < i → oj.dst = some t → t ∈ o.looksAt ops → anc ms j i = true
  behind : ∀ (i j : Nat) (o oj : Oper) (t : Nat), ops[i]? = some o → ops[j]? = some oj → i < j → oj.dst = some t → t ∈ o.looksAt ops → anc ms i j = true
theorem regOK_iff {P : Program} {ops : Array Oper} (h : regOK P ops (mkMs ops.toList []) = true) : RegOK P ops (mkMs ops.toList []) := by
  have one : ∀ i o, ops[i]? = some o → (∀ e ∈ o.after, Region.binds .any e = true → e.on < i) ∧ ∀ j oj, ops[j]? = some oj → pairOK P ops (mkMs ops.toList []) i o j oj = true := by
    intro i o ho
    have := allI_iff h i o (by simpa using ho)
    rw [Nat.zero_add, Bool.and_eq_true] at this
    refine ⟨fun e he hb => ?_, fun j oj hj => ?_⟩
    · have h1 := List.all_eq_true.1 this.1 e (by simpa using he)
      rw [hb, cond_true, Nat.blt_eq] at h1
      exact h1
    · have h1 := allI_iff this.2 j oj (by simpa using hj)
      rwa [Nat.zero_add] at h1
  have pair : ∀ i j o oj, ops[i]? = some o → ops[j]? = some oj → i ≠ j →
      ((i < j → 3 ≤ cls P o → 3 ≤ cls P oj → anc (mkMs ops.toList []) i j = true) ∧ ∀ t, oj.dst = some t → o.dst ≠ some t ∧ (t ∈ o.looksAt ops → (j < i → anc (mkMs ops.toList []) j i = true) ∧ (i < j → anc (mkMs ops.toList []) i j = true))) := by
    intro i j o oj ho hj hne
    have h1 := (one i o ho).2 j oj hj
    unfold pairOK at h1
    have hb : Nat.beq i j = false := by
      cases hb : Nat.beq i j with
      | false => rfl
      | true => exact absurd (Nat.eq_of_beq_eq_true hb) hne
    rw [hb, cond_false, Bool.and_eq_true] at h1
    refine ⟨fun hij h3 h3' => ?_, fun t ht => ?_⟩
    · have := h1.1
      rw [show (Nat.blt i j && Nat.ble 3 (cls P o) && Nat.ble 3 (cls P oj)) = true from by simp [Nat.blt_eq, hij, h3, h3']] at this
      exact this
    · have := h1.2
      simp only [ht, Bool.and_eq_true] at this
      refine ⟨fun hs => ?_, fun hl => ?_⟩
      · have := this.1
        rw [hs] at this
        simp at this
      · have := this.2
        rw [memN_iff.2 hl, cond_true] at this
        refine ⟨fun hji => ?_, fun hij => ?_⟩
        · rwa [show Nat.blt j i = true from by simp [Nat.blt_eq, hji], cond_true] at this
        · rwa [show Nat.blt j i = false from by rw [blt_eq]; simp; omega, cond_false] at this
  refine ⟨waits_mk ops, fun i o ho => (one i o ho).1, fun i j o oj ho hj hij => (pair i j o oj ho hj (by omega)).1 hij, fun i j o oj t ho hj h1 h2 => ?_, fun i j o oj t ho hj hij hd hl => ?_, fun i j o oj t ho hj hij hd hl => ?_⟩
  · rcases Nat.lt_or_ge i j with h' | h'
    · exact absurd h1 ((pair i j o oj ho hj (by omega)).2 t h2).1
    · rcases Nat.lt_or_ge j i with h'' | h''
      · exact absurd h1 ((pair i j o oj ho hj (by omega)).2 t h2).1
      · omega
  · exact (((pair i j o oj ho hj (by omega)).2 t hd).2 hl).1 hij
  · exact (((pair i j o oj ho hj (by omega)).2 t hd).2 hl).2 hij
structure Row where
  v : AV
  env : List AV
  id : Nat
  blk : Option Blk
  ver : Nat
def free (ms : List Nat) (a : Nat) (hs : List Nat) : Bool := hs.all fun q => !anc ms a q
def exs (keep : Nat → Bool) : Nat → List Row → List (Nat × Blk)
  | _, [] => []
  | a, r :: rs => match r.blk with
    | some b => cond (keep a) ((r.id, b) :: exs keep (a + 1) rs) (exs keep (a + 1) rs)
    | none => exs keep (a + 1) rs
def keepAt (ms hv : List Nat) (i j a : Nat) : Bool := Nat.blt a i && anc ms a i && free ms a (hv.take j)
def layH : List (Nat × Blk) → Heap → (Heap → Bool) → Bool
  | [], H, k => hi (k H)
  | (i, b) :: l, H, k => hput H i b fun H => layH l H k
def layP : List (Nat × Blk) → Heap → Heap
  | [], H => H
  | (i, b) :: l, H => layP l (Tr.put 5 H i b)
theorem layH_eq : ∀ (l : List (Nat × Blk)) (H : Heap) (k : Heap → Bool), layH l H k = k (layP l H)
  | [], _, _ => rfl
  | (i, b) :: l, H, k => by rw [layH, hput_eq, layH_eq l]; rfl
def exL : List (Nat × Blk) → Nat → Option Blk
  | [], _ => none
  | (i, b) :: l, x => match exL l x with | some y => some y | none => if i = x then some b else none
theorem over_exL : ∀ {l : List (Nat × Blk)} {H : Heap}, (∀ p ∈ l, p.1 < 32768) → hfn (layP l H) = over (hfn H) (exL l)
  | [], H, _ => by funext x; simp [layP, over, exL]
  | (i, b) :: l, H, h => by
    rw [layP, over_exL (l := l) (fun p hp => h p (by simp [hp])), hfn_put _ _ (h (i, b) (by simp))]
    funext x
    simp only [over, exL, setB]
    cases exL l x with
    | some y => rfl
    | none => by_cases e : i = x <;> simp [e]
theorem exL_mem : ∀ {l : List (Nat × Blk)} {x : Nat} {b : Blk}, exL l x = some b → (x, b) ∈ l
  | [], x, b, h => by simp [exL] at h
  | (i, c) :: l, x, b, h => by
    simp only [exL] at h
    cases e : exL l x with
    | some y => rw [e] at h; simp at h; subst h; simp [exL_mem e]
    | none =>
      rw [e] at h
      by_cases ei : i = x
      · simp [ei] at h; simp [ei, h]
      · simp [ei] at h
theorem exL_none : ∀ {l : List (Nat × Blk)} {x : Nat}, exL l x = none → ∀ b, (x, b) ∉ l
  | [], x, _, b => by simp
  | (i, c) :: l, x, h, b => by
    simp only [exL] at h
    cases e : exL l x with
    | some y => rw [e] at h; simp at h
    | none =>
      rw [e] at h
      have h1 := exL_none e b
      by_cases ei : i = x
      · simp [ei] at h
      · simp [h1, Ne.symm ei]
theorem exs_mem {keep : Nat → Bool} {x : Nat} {b : Blk} : ∀ {l : List Row} {a : Nat}, (x, b) ∈ exs keep a l ↔ ∃ j r, l[j]? = some r ∧ r.blk = some b ∧ r.id = x ∧ keep (a + j) = true
  | [], a => by simp [exs]
  | r :: rs, a => by
    have ih := exs_mem (keep := keep) (x := x) (b := b) (l := rs) (a := a + 1)
    have tail : (∃ j r', rs[j]? = some r' ∧ r'.blk = some b ∧ r'.id = x ∧ keep (a + 1 + j) = true) ↔ ∃ j r', (r :: rs)[j + 1]? = some r' ∧ r'.blk = some b ∧ r'.id = x ∧ keep (a + (j + 1)) = true := by
      simp [Nat.add_assoc, Nat.add_comm 1]
    have split : (∃ j r', (r :: rs)[j]? = some r' ∧ r'.blk = some b ∧ r'.id = x ∧ keep (a + j) = true) ↔ (r.blk = some b ∧ r.id = x ∧ keep a = true) ∨ ∃ j r', (r :: rs)[j + 1]? = some r' ∧ r'.blk = some b ∧ r'.id = x ∧ keep (a + (j + 1)) = true := by
      constructor
      · rintro ⟨j, r', h1, h2⟩
        cases j with
        | zero => simp at h1; subst h1; exact .inl h2
        | succ j => exact .inr ⟨j, r', h1, h2⟩
      · rintro (h | ⟨j, r', h⟩)
        · exact ⟨0, r, by simp, h⟩
        · exact ⟨j + 1, r', h⟩
    rw [split, ← tail, ← ih]
    simp only [exs]
    cases hb : r.blk with
    | none => simp
    | some b' =>
      simp only []
      cases hk : keep a with
      | false => simp
      | true =>
        simp only [cond_true, List.mem_cons, Prod.mk.injEq, Option.some.injEq, and_true]
        constructor
        · rintro (⟨h1, h2⟩ | h)
          · exact .inl ⟨h2.symm, h1.symm⟩
          · exact .inr h
        · rintro (⟨h1, h2⟩ | h)
          · exact .inl ⟨h2.symm, h1.symm⟩
          · exact .inr h
theorem exs_congr {k1 k2 : Nat → Bool} : ∀ {l : List Row} {a : Nat}, (∀ j, j < l.length → k1 (a + j) = k2 (a + j)) → exs k1 a l = exs k2 a l
  | [], _, _ => rfl
  | r :: rs, a, h => by
    have h0 := h 0 (by simp)
    have ih := exs_congr (k1 := k1) (k2 := k2) (l := rs) (a := a + 1) fun j hj => by have := h (j + 1) (by simpa using hj); rwa [show a + (j + 1) = a + 1 + j from by omega] at this
    simp only [exs, ih]
    rw [show k1 a = k2 a from h0]
theorem exs_append {keep : Nat → Bool} : ∀ {l m : List Row} {a : Nat}, (∀ j, a + l.length ≤ j → keep j = false) → exs keep a (l ++ m) = exs keep a l
  | [], m, a, h => by
    have : ∀ (m : List Row) (a : Nat), (∀ j, a ≤ j → keep j = false) → exs keep a m = [] := by
      intro m
      induction m with
      | nil => intro a _; rfl
      | cons r m ih =>
        intro a h
        simp only [exs, ih (a + 1) (fun j hj => h j (by omega)), h a (Nat.le_refl _)]
        cases r.blk <;> rfl
    simpa [exs] using this m a (by simpa using h)
  | r :: l, m, a, h => by
    simp only [List.cons_append, exs, exs_append (l := l) (m := m) (a := a + 1) (fun j hj => h j (by simp; omega))]
structure Ids (n0 n1 : Nat) (R : List Row) : Prop where
  lo : ∀ (a : Nat) (r : Row) (b : Blk), R[a]? = some r → r.blk = some b → n0 ≤ r.id ∧ r.id < n1 ∧ r.id < 32768
  inj : ∀ (a a' : Nat) (r r' : Row) (b b' : Blk), R[a]? = some r → R[a']? = some r' → r.blk = some b → r'.blk = some b' → r.id = r'.id → a = a'
abbrev EX (R : List Row) (keep : Nat → Bool) : Nat → Option Blk := exL (exs keep 0 R)
theorem EX_some {n0 n1 : Nat} {R : List Row} (hi : Ids n0 n1 R) {keep : Nat → Bool} {x : Nat} {b : Blk} : EX R keep x = some b ↔ ∃ a r, R[a]? = some r ∧ r.blk = some b ∧ r.id = x ∧ keep a = true := by
  constructor
  · intro h
    obtain ⟨j, r, h1, h2, h3, h4⟩ := exs_mem.1 (exL_mem h)
    exact ⟨j, r, h1, h2, h3, by simpa using h4⟩
  · rintro ⟨a, r, h1, h2, h3, h4⟩
    have hm : (x, b) ∈ exs keep 0 R := exs_mem.2 ⟨a, r, h1, h2, h3, by simpa using h4⟩
    cases e : EX R keep x with
    | none => exact absurd hm (exL_none e b)
    | some b' =>
      obtain ⟨j, r', g1, g2, g3, _⟩ := exs_mem.1 (exL_mem e)
      have := hi.inj j a r' r b' b g1 h1 g2 h2 (g3.trans h3.symm)
      subst this
      rw [g1] at h1; injection h1 with h1; subst h1
      rw [g2] at h2; exact h2
theorem EX_none {n0 n1 : Nat} {R : List Row} (hi : Ids n0 n1 R) {keep : Nat → Bool} {x : Nat} : EX R keep x = none ↔ ∀ a r b, R[a]? = some r → r.blk = some b → r.id = x → keep a = false := by
  constructor
  · intro h a r b h1 h2 h3
    cases hk : keep a with
    | false => rfl
    | true =>
      have := (EX_some hi).2 ⟨a, r, h1, h2, h3, hk⟩
      rw [h] at this; cases this
  · intro h
    cases e : EX R keep x with
    | none => rfl
    | some b =>
      obtain ⟨a, r, h1, h2, h3, h4⟩ := (EX_some hi).1 e
      rw [h a r b h1 h2 h3] at h4; cases h4
theorem over_or {n0 n1 : Nat} {R : List Row} (hi : Ids n0 n1 R) (h : Nat → Blk) {k1 k2 k : Nat → Bool} (hk : ∀ a r b, R[a]? = some r → r.blk = some b → k a = (k1 a || k2 a)) :
    over (over h (EX R k1)) (EX R k2) = over h (EX R k) := by
  funext x
  cases e2 : EX R k2 x with
  | some b =>
    obtain ⟨a, r, h1, h2, h3, h4⟩ := (EX_some hi).1 e2
    rw [over_some e2, over_some ((EX_some hi).2 ⟨a, r, h1, h2, h3, by rw [hk a r b h1 h2, h4]; simp⟩)]
  | none =>
    rw [over_none e2]
    cases e1 : EX R k1 x with
    | some b =>
      obtain ⟨a, r, h1, h2, h3, h4⟩ := (EX_some hi).1 e1
      rw [over_some e1, over_some ((EX_some hi).2 ⟨a, r, h1, h2, h3, by rw [hk a r b h1 h2, h4]; simp⟩)]
    | none =>
      rw [over_none e1, over_none ((EX_none hi).2 fun a r b h1 h2 h3 => by rw [hk a r b h1 h2, (EX_none hi).1 e1 a r b h1 h2 h3, (EX_none hi).1 e2 a r b h1 h2 h3]; rfl)]
theorem lay_EX {n0 n1 : Nat} {R : List Row} (hi : Ids n0 n1 R) (keep : Nat → Bool) (H : Heap) : hfn (layP (exs keep 0 R) H) = over (hfn H) (EX R keep) :=
  over_exL fun p hp => by
    obtain ⟨j, r, h1, h2, h3, _⟩ := (exs_mem (x := p.1) (b := p.2)).1 hp
    rw [← h3]
    exact (hi.lo j r p.2 h1 h2).2.2
end
end Ev
namespace Ev
open Go
open Go.RowKit
noncomputable section
def GW (ops : Array Oper) (env : List AV) (o : Oper) (t : Bool) : Prop :=
  match o.guard with
  | none => t = true
  | some (j, want) => (∃ b, gdOf ops env j = .bool b ∧ (b == want) = t) ∨ (t = false ∧ ∃ l, gdOf ops env j = .tup l)
def allowed (ms hv : List Nat) (i j : Nat) : Bool := (hv.take j).all (fun q => !anc ms i q) && (hv.drop j).all (fun q => !anc ms q i)
inductive StepOK (P : Program) (ops : Array Oper) (ms : List Nat) (R : List Row) (V : List (Heap × Nat)) (hv : List Nat) (i : Nat) (o : Oper) (r : Row) : Prop where
  | pure (hc : cls P o < 3) (hb : r.blk = none) (hg : GW ops r.env o true) (hs : PureSpec P r.env o r.v)
  | read (hc : cls P o < 3) (hb : r.blk = none) (hg : GW ops r.env o true)
      (hs : ∀ j H n, V[j]? = some (H, n) → allowed ms hv i j = true → ReadSpec P r.env o (layP (exs (keepAt ms hv i j) 0 R) H) r.v)
  | alloc (hc : cls P o < 3) (b : Blk) (hb : r.blk = some b) (hg : GW ops r.env o true) (hs : AllocSpec P r.env o r.id r.v b)
  | skip (hc : cls P o < 3) (hb : ∀ b, r.blk = some b → b = .dead) (hg : GW ops r.env o false) (hv : r.v = .tup [])
  | heavy (k : Nat) (H : Heap) (n : Nat) (H' : Heap) (n' : Nat) (hk : hv[k]? = some i) (hV : V[k]? = some (H, n)) (hV' : V[k + 1]? = some (H', n')) (hb : r.blk = none) (hg : GW ops r.env o true)
      (hs : OpGoes P r.env o (layP (exs (keepAt ms hv i k) 0 R) H) n r.v H' n')
  | skipH (k : Nat) (H : Heap) (n : Nat) (hk : hv[k]? = some i) (hV : V[k]? = some (H, n)) (hV' : V[k + 1]? = some (layP (exs (keepAt ms hv i k) 0 R) H, n)) (hb : r.blk = none) (hg : GW ops r.env o false) (hv : r.v = .tup [])
structure EnvAt (ops : Array Oper) (env0 : List AV) (R : List Row) (i : Nat) (env : List AV) : Prop where
  len : env.length = env0.length
  wrote : ∀ (j : Nat) (o : Oper) (r : Row) (t : Nat), j < i → ops[j]? = some o → R[j]? = some r → o.dst = some t → t < env0.length → env.getD t .bad = r.v
  old : ∀ (t : Nat), (∀ (j : Nat) (o : Oper), j < i → ops[j]? = some o → o.dst ≠ some t) → env.getD t .bad = env0.getD t .bad
structure Good (P : Program) (ops : Array Oper) (ms : List Nat) (env0 : List AV) (H0 : Heap) (n0 n1 : Nat) (R : List Row) (V : List (Heap × Nat)) (hv : List Nat) : Prop where
  reg : RegOK P ops ms
  num : n0 ≤ n1
  ids : Ids n0 n1 R
  rows : R.length = ops.size
  env : ∀ (i : Nat) (r : Row), R[i]? = some r → EnvAt ops env0 R i r.env
  step : ∀ (i : Nat) (o : Oper) (r : Row), ops[i]? = some o → R[i]? = some r → StepOK P ops ms R V hv i o r
  hvc : ∀ (k q : Nat), hv[k]? = some q → ∃ o, ops[q]? = some o ∧ 3 ≤ cls P o
  hvo : ∀ (k l q q' : Nat), k < l → hv[k]? = some q → hv[l]? = some q' → q < q'
  v0 : V[0]? = some (H0, n1)
  vl : V.length = hv.length + 1
  dead : ∀ (a : Nat) (r : Row) (b : Blk) (j q : Nat) (H : Heap) (n : Nat), R[a]? = some r → r.blk = some b → hv[j]? = some q → V[j + 1]? = some (H, n) → free ms a (hv.take (j + 1)) = true → anc ms q a = false → hfn H r.id = .dead
structure Core (P : Program) (S : Start) (h : Nat → Blk) (n : Nat) (ds : List Deferred) (w : World) (θ : Theta) : Prop where
  low : S.B ≤ S.w.heap.size
  went : Went P S.θ S.h S.n S.B S.w θ h n w
  glob : GlobOK P θ
  defs : MarksOK P S.lo θ h w ds
theorem Core.step {P : Program} {S : Start} {h h' : Nat → Blk} {n n' : Nat} {ds : List Deferred} {w w' : World} {θ θ' : Theta} (c : Core P S h n ds w θ) (k : Went P θ h n S.B w θ' h' n' w') : Core P S h' n' ds w' θ' :=
  ⟨c.low, c.went.trans k, c.glob.le k.le, c.defs.went k⟩
theorem Core.room {P : Program} {S : Start} {h : Nat → Blk} {n : Nat} {ds : List Deferred} {w : World} {θ : Theta} (c : Core P S h n ds w θ) : S.B ≤ w.heap.size := Nat.le_trans c.low c.went.frm.size
theorem Went.upto {P : Program} {θ θ' : Theta} {h h' : Nat → Blk} {n n' m B : Nat} {w w' : World} (k : Went P θ h n B w θ' h' n' w') (hm : n' ≤ m) : Went P θ h n B w θ' h' m w' :=
  ⟨k.le, Nat.le_trans k.num hm, k.old, k.rel, fun b hb => k.fresh b (Nat.le_trans hm hb), k.frm, k.grows⟩
theorem Went.drawn {P : Program} {θ θ' : Theta} {h h' : Nat → Blk} {n n' B : Nat} {w w' : World} (k : Went P θ h n B w θ' h' n' w') (d : Nat) : Went P θ h n B w θ' h' n' { w' with drawn := d } :=
  ⟨k.le, k.num, k.old, k.rel.keep (Theta.le_refl _) (Nat.le_refl _) (fun _ _ _ _ => rfl), k.fresh, ⟨k.frm.os, k.frm.tape, k.frm.output, k.frm.size, k.frm.block⟩, k.grows⟩
theorem MarksOK.drawn {P : Program} {lo : Nat} {θ : Theta} {h : Nat → Blk} {w : World} {ds : List Deferred} (m : MarksOK P lo θ h w ds) (d : Nat) : MarksOK P lo θ h { w with drawn := d } ds := m
theorem went_new {P : Program} {θ : Theta} {h : Nat → Blk} {n id B : Nat} {w w' : World} (r : HRel P θ h B w) (f : Fresh θ n) (hi : θ.blk id = none) (hid : id < n) {ob : Obj} {b : Blk} {sz : Nat}
    (hh : w'.heap = w.heap.push ob) (ho : w'.os = w.os) (ht : w'.tape = w.tape) (hu : w'.output = w.output)
    (hb : BRel P (θ.add id ⟨w.heap.size, 0, sz⟩) B (w.alloc ob) ⟨w.heap.size, 0, sz⟩ b) {θ0 : Theta} {h0 : Nat → Blk} {n0 : Nat} {w0 : World} (k : Went P θ0 h0 n0 B w0 θ h n w) (hlo : n0 ≤ id) :
    Went P θ0 h0 n0 B w0 (θ.add id ⟨w.heap.size, 0, sz⟩) (setB h id b) n w' := by
  have hh' : w'.heap = (w.alloc ob).heap := hh
  have fr : Frm θ h w w' := by
    have := Frm.alloc θ h w ob
    exact ⟨ho, ht, hu, by rw [hh']; exact this.size, fun k hk hn => by rw [hh']; exact this.block k hk hn⟩
  refine ⟨Theta.le_trans k.le (Theta.le_add hi _), k.num, fun x hx => ?_, ?_, f.add (Nat.le_refl _) hid, k.frm.trans fr k.grows, k.grows.trans k.frm.size (Grows.add r id b sz)⟩
  · show (if id = x then _ else θ.blk x) = _
    rw [if_neg (by omega)]
    exact k.old x hx
  · exact (r.alloc hi ob b sz hb).keep (Theta.le_refl _) (by rw [hh']; exact Nat.le_refl _) (fun x l _ _ => by rw [hh'])
structure Temps (ops : Array Oper) (env0 : List AV) (R : List Row) (L : Array Bool) (tmps : Array Value) (θ : Theta) : Prop where
  wrote : ∀ (i : Nat) (o : Oper) (r : Row) (t : Nat), L.getD i false = true → ops[i]? = some o → R[i]? = some r → o.dst = some t → t < env0.length → VR θ r.v (tmps.getD t undef)
  old : ∀ (t : Nat), (∀ (i : Nat) (o : Oper), L.getD i false = true → ops[i]? = some o → o.dst ≠ some t) → VR θ (env0.getD t .bad) (tmps.getD t undef)
  len : env0.length ≤ tmps.size
theorem Temps.put {P : Program} {ops : Array Oper} {ms : List Nat} {env0 : List AV} {R : List Row} {L : Array Bool} {a : Act} {θ θ' : Theta} (g : RegOK P ops ms) (hL : L.size = ops.size) (t : Temps ops env0 R L a.tmps θ) (k : θ.le θ') {i : Nat} {o : Oper} {r : Row} (ho : ops[i]? = some o) (hr : R[i]? = some r)
    (hn : L.getD i false = false) {v : Value} (hv : VR θ' r.v v) : Temps ops env0 R (L.setIfInBounds i true) (a.put o.dst v).tmps θ' := by
  have hi : i < ops.size := by
    rcases Nat.lt_or_ge i ops.size with h' | h'
    · exact h'
    · rw [Array.getElem?_eq_none h'] at ho; cases ho
  have same : ∀ s, o.dst ≠ some s → (a.put o.dst v).tmps.getD s undef = a.tmps.getD s undef := by
    intro s hs
    cases hd : o.dst with
    | none => rfl
    | some d =>
      have : d ≠ s := fun e => hs (by rw [hd, e])
      simp [Act.put, Array.getD_eq_getD_getElem?, this]
  have self : ∀ s, o.dst = some s → s < a.tmps.size → (a.put o.dst v).tmps.getD s undef = v := by
    intro s hs hlt
    simp [hs, Act.put, Array.getD_eq_getD_getElem?, hlt]
  refine ⟨fun j oj rj s hj hoj hrj hs hlt => ?_, fun s hs => ?_, ?_⟩
  · by_cases hd : o.dst = some s
    · have := g.once i j o oj s ho hoj hd hs
      subst this
      rw [hr] at hrj; injection hrj with hrj; subst hrj
      rw [self s hd (Nat.lt_of_lt_of_le hlt t.len)]
      exact hv
    · rw [same s hd]
      rcases getD_set_of hj with rfl | hj
      · rw [ho] at hoj; injection hoj with hoj; subst hoj; exact absurd hs hd
      · exact (t.wrote j oj rj s hj hoj hrj hs hlt).le k
  · have hd : o.dst ≠ some s := hs i o (getD_set_same (by omega)) ho
    rw [same s hd]
    exact (t.old s fun j oj hj hoj => hs j oj (getD_set_in hj) hoj).le k
  · cases o.dst <;> simpa [Act.put] using t.len
theorem Temps.at {P : Program} {ops : Array Oper} {ms : List Nat} {env0 : List AV} {R : List Row} {L : Array Bool} {tmps : Array Value} {θ : Theta} (g : RegOK P ops ms) (hL : L.size = ops.size) (hR : R.length = ops.size) (hc : Closed ops L) (t : Temps ops env0 R L tmps θ) {i : Nat} {o : Oper} {env : List AV}
    (ho : ops[i]? = some o) (hr : i ∈ Region.ready .any ops L) (e : EnvAt ops env0 R i env) {s : Nat} (hs : s ∈ o.looksAt ops) : VR θ (env.getD s .bad) (tmps.getD s undef) := by
  obtain ⟨hi, hn⟩ := ready_not hL hr
  by_cases hlt : s < env0.length
  · by_cases hw : ∃ (j : Nat) (oj : Oper), ops[j]? = some oj ∧ oj.dst = some s
    · obtain ⟨j, oj, hoj, hd⟩ := hw
      have hj : j < ops.size := by
        rcases Nat.lt_or_ge j ops.size with h' | h'
        · exact h'
        · rw [Array.getElem?_eq_none h'] at hoj; cases hoj
      by_cases hji : j < i
      · have ha := g.before i j o oj s ho hoj hji hd hs
        have hLj := hc.ready g.waits hr ha
        have hrj : R[j]? = some R[j] := List.getElem?_eq_getElem (by omega)
        rw [e.wrote j oj _ s hji hoj hrj hd hlt]
        exact t.wrote j oj _ s hLj hoj hrj hd hlt
      · have hLj : L.getD j false = false := by
          rcases Nat.lt_or_ge i j with h' | h'
          · cases hl : L.getD j false with
            | false => rfl
            | true =>
              have := hc.anc g.waits (g.behind i j o oj s ho hoj h' hd hs) hl
              rw [hn] at this; cases this
          · have : j = i := by omega
            subst this; exact hn
        rw [e.old s fun k ok hk hok hkd => by have := g.once k j ok oj s hok hoj hkd hd; omega]
        exact t.old s fun k ok hk hok hkd => by
          have := g.once k j ok oj s hok hoj hkd hd
          subst this
          rw [hLj] at hk; cases hk
    · rw [e.old s fun j oj _ hoj hd => hw ⟨j, oj, hoj, hd⟩]
      exact t.old s fun j oj _ hoj hd => hw ⟨j, oj, hoj, hd⟩
  · left
    rw [List.getD_eq_getElem?_getD, List.getElem?_eq_none (by rw [e.len]; omega)]
    rfl
theorem looks_op {ops : Array Oper} {o : Oper} {t : Nat} (h : Operand.tmp t ∈ o.op.operands) : t ∈ o.looksAt ops := by
  unfold Oper.looksAt
  exact List.mem_append_left _ (List.mem_filterMap.2 ⟨.tmp t, by simpa using h, rfl⟩)
theorem looks_guard {ops : Array Oper} {o : Oper} {j t : Nat} {want : Bool} (h : o.guard = some (j, want)) (ht : (ops[j]?).bind (·.dst) = some t) : t ∈ o.looksAt ops := by
  unfold Oper.looksAt
  rw [h]
  refine List.mem_append_right _ ?_
  simp only [ht]
  simp
theorem wanted_of {ops : Array Oper} {env env0 : List AV} {o : Oper} {t : Bool} {tmps : Array Value} {θ : Theta} (hg : GW ops env o t) (hl : env.length = env0.length) (hle : env0.length ≤ tmps.size) (h : ∀ s ∈ o.looksAt ops, VR θ (env.getD s .bad) (tmps.getD s undef)) :
    Region.wanted o (yielded ops tmps) = t := by
  unfold GW at hg
  cases hgd : o.guard with
  | none => rw [hgd] at hg; simp only at hg; subst hg; simp [Region.wanted, hgd]
  | some p =>
    obtain ⟨j, want⟩ := p
    rw [hgd] at hg
    simp only at hg
    rcases hg with ⟨b, hb, hbt⟩ | ⟨rfl, l, hl2⟩
    rotate_left
    · have hy : yielded ops tmps j = none := by
        unfold gdOf at hl2
        unfold yielded
        cases hd : (ops[j]?).bind (·.dst) with
        | none => rfl
        | some d =>
          simp only [hd] at hl2
          have hv := h d (looks_guard hgd hd)
          rw [hl2] at hv
          obtain ⟨vs, _, hv⟩ := hv.tup
          simp only [Option.bind_some]
          rcases Nat.lt_or_ge d tmps.size with hlt | hge
          · rw [Array.getD_eq_getD_getElem?, Array.getElem?_eq_getElem hlt] at hv
            rw [Array.getElem?_eq_getElem hlt]
            have hv : tmps[d] = .tuple vs.toArray := by simpa using hv
            rw [hv]
          · rw [Array.getElem?_eq_none hge]
      simp only [Region.wanted, hgd, hy]
      cases want <;> rfl
    have hy : yielded ops tmps j = some b := by
      unfold gdOf at hb
      unfold yielded
      cases hd : (ops[j]?).bind (·.dst) with
      | none => simp [hd] at hb
      | some d =>
        simp only [hd] at hb
        have hv := h d (looks_guard hgd hd)
        rw [hb] at hv
        have hv := hv.bool
        have hlt : d < env.length := by
          rcases Nat.lt_or_ge d env.length with h' | h'
          · exact h'
          · rw [List.getD_eq_getElem?_getD, List.getElem?_eq_none h'] at hb; cases hb
        have hlt2 : d < tmps.size := Nat.lt_of_lt_of_le hlt (by rw [hl]; exact hle)
        have : tmps[d]? = some (.bool b) := by
          rw [Array.getD_eq_getD_getElem?, Array.getElem?_eq_getElem hlt2] at hv
          rw [Array.getElem?_eq_getElem hlt2]
          simpa using hv
        simp [this]
    simp only [Region.wanted, hgd, hy]
    rw [← hbt]
    cases b <;> cases want <;> rfl
end
end Ev
namespace Ev
open Go
open Go.RowKit
noncomputable section
def kp (ms hv : List Nat) (L : Array Bool) (j a : Nat) : Bool := L.getD a false && free ms a (hv.take j)
theorem EX_congr {n0 n1 : Nat} {R : List Row} (hi : Ids n0 n1 R) {k1 k2 : Nat → Bool} (h : ∀ a r b, R[a]? = some r → r.blk = some b → k1 a = k2 a) : EX R k1 = EX R k2 := by
  funext x
  cases e : EX R k2 x with
  | some b =>
    obtain ⟨a, r, h1, h2, h3, h4⟩ := (EX_some hi).1 e
    exact (EX_some hi).2 ⟨a, r, h1, h2, h3, by rw [h a r b h1 h2]; exact h4⟩
  | none => exact (EX_none hi).2 fun a r b h1 h2 h3 => by rw [h a r b h1 h2]; exact (EX_none hi).1 e a r b h1 h2 h3
structure Inv (P : Program) (ops : Array Oper) (ms : List Nat) (env0 : List AV) (n0 n1 : Nat) (R : List Row) (V : List (Heap × Nat)) (hv : List Nat) (S : Start) (L : Array Bool) (j : Nat) (H : Heap) (n : Nat) (a : Act) (w : World) (θ : Theta) : Prop where
  size : L.size = ops.size
  closed : Closed ops L
  ver : ∀ (k q : Nat), hv[k]? = some q → (L.getD q false = true ↔ k < j)
  at_ : V[j]? = some (H, n)
  cnt : n1 ≤ n
  lo : S.n ≤ n0
  core : Core P S (over (hfn H) (EX R (kp ms hv L j))) n a.defers w θ
  none_ : ∀ (x : Nat) (r : Row) (b : Blk), R[x]? = some r → r.blk = some b → L.getD x false = false → θ.blk r.id = none
  dead : ∀ (x : Nat) (r : Row) (b : Blk), R[x]? = some r → r.blk = some b → L.getD x false = true → free ms x (hv.take j) = true → hfn H r.id = .dead
  tmps : Temps ops env0 R L a.tmps θ
section
variable {P : Program} {ops : Array Oper} {ms : List Nat} {env0 : List AV} {H0 : Heap} {n0 n1 : Nat} {R : List Row} {V : List (Heap × Nat)} {hv : List Nat}
theorem anc_lt (g : RegOK P ops ms) {p q : Nat} : anc ms p q = true → p < q := by
  induction q using Nat.strongRecOn with
  | ind q ih =>
    intro h
    obtain ⟨o, ho, e, he, hb, h1⟩ := g.waits p q h
    have := g.back q o ho e he hb
    rcases h1 with rfl | ⟨h1, h2⟩
    · exact this
    · have := ih _ h1 h2; omega
theorem hv_mem {k : Nat} {q : Nat} (h : q ∈ hv.take k) : ∃ m, m < k ∧ hv[m]? = some q := by
  obtain ⟨m, hm⟩ := List.getElem?_of_mem h
  have hlt : m < k := by
    rcases Nat.lt_or_ge m k with h' | h'
    · exact h'
    · rw [List.getElem?_eq_none (by simp; omega)] at hm; cases hm
  rw [List.getElem?_take_of_lt hlt] at hm
  exact ⟨m, hlt, hm⟩
theorem free_of {k i : Nat} (h : ∀ m q, m < k → hv[m]? = some q → anc ms i q = false) : free ms i (hv.take k) = true := by
  unfold free
  rw [List.all_eq_true]
  intro q hq
  obtain ⟨m, hm, e⟩ := hv_mem hq
  rw [h m q hm e]; rfl
theorem free_succ {k i q : Nat} (h : hv[k]? = some q) : free ms i (hv.take (k + 1)) = (free ms i (hv.take k) && !anc ms i q) := by
  unfold free
  have : hv.take (k + 1) = hv.take k ++ [q] := by
    rw [List.take_add_one, h]; rfl
  rw [this, List.all_append]
  simp
theorem Inv.free {S : Start} {L : Array Bool} {j : Nat} {H : Heap} {n : Nat} {a : Act} {w : World} {θ : Theta} (g : Good P ops ms env0 H0 n0 n1 R V hv) (s : Inv P ops ms env0 n0 n1 R V hv S L j H n a w θ) {i : Nat} (hn : L.getD i false = false) : free ms i (hv.take j) = true :=
  free_of fun m q hm hq => by
    cases h : anc ms i q with
    | false => rfl
    | true =>
      have := s.closed.anc g.reg.waits h ((s.ver m q hq).2 hm)
      rw [hn] at this; cases this
theorem Inv.allowed {S : Start} {L : Array Bool} {j : Nat} {H : Heap} {n : Nat} {a : Act} {w : World} {θ : Theta} (g : Good P ops ms env0 H0 n0 n1 R V hv) (s : Inv P ops ms env0 n0 n1 R V hv S L j H n a w θ) {i : Nat} (hr : i ∈ Region.ready .any ops L) : allowed ms hv i j = true := by
  unfold Ev.allowed
  rw [Bool.and_eq_true]
  refine ⟨s.free g (ready_not s.size hr).2, ?_⟩
  rw [List.all_eq_true]
  intro q hq
  obtain ⟨m, hm⟩ := List.getElem?_of_mem hq
  rw [List.getElem?_drop] at hm
  cases h : anc ms q i with
  | false => rfl
  | true =>
    have := (s.ver _ q hm).1 (s.closed.ready g.reg.waits hr h)
    omega
theorem Inv.sees {S : Start} {L : Array Bool} {j : Nat} {H : Heap} {n : Nat} {a : Act} {w : World} {θ : Theta} (g : Good P ops ms env0 H0 n0 n1 R V hv) (s : Inv P ops ms env0 n0 n1 R V hv S L j H n a w θ) {i : Nat} (hr : i ∈ Region.ready .any ops L) :
    over (hfn H) (EX R (kp ms hv L j)) = over (hfn (layP (exs (keepAt ms hv i j) 0 R) H)) (EX R fun x => kp ms hv L j x && !anc ms x i) ∧
    ∀ x b, EX R (fun x => kp ms hv L j x && !anc ms x i) x = some b → hfn (layP (exs (keepAt ms hv i j) 0 R) H) x = .dead := by
  constructor
  · rw [lay_EX g.ids, over_or g.ids]
    intro x r b hx hb
    cases ha : anc ms x i with
    | false => simp [keepAt, ha]
    | true =>
      have h1 := anc_lt g.reg ha
      have h2 := s.closed.ready g.reg.waits hr ha
      have h3 : Nat.blt x i = true := by simp [Nat.blt_eq, h1]
      simp [keepAt, kp, ha, h2, h3]
  · intro x b hx
    obtain ⟨y, r, h1, h2, h3, h4⟩ := (EX_some g.ids).1 hx
    simp only [Bool.and_eq_true, Bool.not_eq_true'] at h4
    rw [lay_EX g.ids, over_none ((EX_none g.ids).2 fun y' r' b' g1 g2 g3 => ?_)]
    · rw [← h3]
      have := h4.1
      simp only [kp, Bool.and_eq_true] at this
      exact s.dead y r b h1 h2 this.1 this.2
    · have := g.ids.inj y y' r r' b b' h1 g1 h2 g2 (h3.trans g3.symm)
      subst this
      simp [keepAt, h4.2]
theorem Inv.opd {S : Start} {L : Array Bool} {j : Nat} {H : Heap} {n : Nat} {a : Act} {w : World} {θ : Theta} (g : Good P ops ms env0 H0 n0 n1 R V hv) (s : Inv P ops ms env0 n0 n1 R V hv S L j H n a w θ) {i : Nat} (hr : i ∈ Region.ready .any ops L) {o : Oper} {r : Row} (ho : ops[i]? = some o) (hR : R[i]? = some r) : Opd P θ r.env o a :=
  fun x hx => ev_ok s.core.glob x fun t ht => s.tmps.at g.reg s.size g.rows s.closed ho hr (g.env i r hR) (looks_op (by rw [← ht]; exact hx))
theorem Inv.light {S : Start} {L : Array Bool} {j : Nat} {H : Heap} {n : Nat} {a : Act} {w w' : World} {θ θ' : Theta} (g : Good P ops ms env0 H0 n0 n1 R V hv) (s : Inv P ops ms env0 n0 n1 R V hv S L j H n a w θ) {i : Nat} (hr : i ∈ Region.ready .any ops L) {o : Oper} {r : Row} (ho : ops[i]? = some o) (hR : R[i]? = some r) (hc : cls P o < 3)
    {v : Value} (hv' : VR θ' r.v v) (le : θ.le θ') (core : Core P S (over (hfn H) (EX R (kp ms hv (L.setIfInBounds i true) j))) n a.defers w' θ')
    (hno : ∀ (x : Nat) (r' : Row) (b : Blk), R[x]? = some r' → r'.blk = some b → x ≠ i → θ.blk r'.id = none → θ'.blk r'.id = none) :
    Inv P ops ms env0 n0 n1 R V hv S (L.setIfInBounds i true) j H n (a.put o.dst v) w' θ' := by
  obtain ⟨hi, hn⟩ := ready_not s.size hr
  have hnot : ∀ k, hv[k]? ≠ some i := fun k hk => by
    obtain ⟨o', ho', h3⟩ := g.hvc k i hk
    rw [ho] at ho'; injection ho' with ho'; subst ho'; omega
  refine ⟨by simp [s.size], s.closed.set hr, fun k q hq => ?_, s.at_, s.cnt, s.lo, by rw [put_defers]; exact core, fun x r' b hx hb hx' => ?_, fun x r' b hx hb hx' hf => ?_, s.tmps.put g.reg s.size le ho hR hn hv'⟩
  · rw [← s.ver k q hq]
    constructor
    · intro h
      rcases getD_set_of h with rfl | h
      · exact absurd hq (hnot k)
      · exact h
    · exact getD_set_in
  · have hxi : x ≠ i := by
      rintro rfl
      rw [getD_set_same (by rw [s.size]; exact hi)] at hx'; cases hx'
    have : L.getD x false = false := by
      cases h : L.getD x false with
      | false => rfl
      | true => rw [getD_set_in h] at hx'; cases hx'
    exact hno x r' b hx hb hxi (s.none_ x r' b hx hb this)
  · rcases getD_set_of hx' with rfl | h
    · have h0 := s.none_ x r' b hx hb hn
      have h1 := s.core.went.rel.dead_of_none h0
      cases e : EX R (kp ms hv L j) r'.id with
      | none => rwa [over_none e] at h1
      | some c =>
        obtain ⟨y, ry, g1, g2, g3, g4⟩ := (EX_some g.ids).1 e
        have := g.ids.inj y x ry r' c b g1 hx g2 hb g3
        subst this
        simp [kp, hn] at g4
    · exact s.dead x r' b hx hb h hf
theorem Inv.next {S : Start} {L : Array Bool} {j : Nat} {H H' : Heap} {n n' : Nat} {a : Act} {w w' : World} {θ θ' : Theta} (g : Good P ops ms env0 H0 n0 n1 R V hv) (s : Inv P ops ms env0 n0 n1 R V hv S L j H n a w θ) {i : Nat} (hr : i ∈ Region.ready .any ops L) {o : Oper} {r : Row} (ho : ops[i]? = some o) (hR : R[i]? = some r)
    (hk : hv[j]? = some i) (hV' : V[j + 1]? = some (H', n')) (hb : r.blk = none) {v : Value} (hv' : VR θ' r.v v) (went : Went P θ (hfn (layP (exs (keepAt ms hv i j) 0 R) H)) n S.B w θ' (hfn H') n' w') :
    Inv P ops ms env0 n0 n1 R V hv S (L.setIfInBounds i true) (j + 1) H' n' (a.put o.dst v) w' θ' := by
  obtain ⟨hi, hn⟩ := ready_not s.size hr
  obtain ⟨e1, e2⟩ := s.sees g hr
  have hrel := s.core.went.rel
  rw [e1] at hrel
  have went := Went.over hrel e2 went
  have hne : ∀ (x : Nat) (r' : Row) (b : Blk), R[x]? = some r' → r'.blk = some b → x ≠ i := fun x r' b hx hxb e => by
    subst e; rw [hR] at hx; injection hx with hx; subst hx; rw [hb] at hxb; cases hxb
  have mono : ∀ (x : Nat), x ≠ i → (L.setIfInBounds i true).getD x false = L.getD x false := fun x hx => by
    cases h : L.getD x false with
    | true => exact getD_set_in h
    | false =>
      cases h' : (L.setIfInBounds i true).getD x false with
      | false => rfl
      | true => rcases getD_set_of h' with e | h'; exact absurd e hx; rw [h] at h'; cases h'
  have e3 : (EX R fun x => kp ms hv L j x && !anc ms x i) = EX R (kp ms hv (L.setIfInBounds i true) (j + 1)) := EX_congr g.ids fun x r' b hx hxb => by
    simp only [kp, free_succ hk, mono x (hne x r' b hx hxb), Bool.and_assoc]
  rw [← e1, e3] at went
  refine ⟨by simp [s.size], s.closed.set hr, fun k q hq => ?_, hV', Nat.le_trans s.cnt went.num, s.lo, by rw [put_defers]; exact s.core.step went, fun x r' b hx hxb hx' => ?_, fun x r' b hx hxb hx' hf => ?_, s.tmps.put g.reg s.size went.le ho hR hn hv'⟩
  · by_cases hkj : k = j
    · subst hkj
      rw [hk] at hq; injection hq with hq; subst hq
      simp [getD_set_same (show i < L.size by rw [s.size]; exact hi)]
    · have hqi : q ≠ i := by
        rintro rfl
        rcases Nat.lt_or_ge k j with h' | h'
        · have := g.hvo k j q q h' hq hk; omega
        · have := g.hvo j k q q (by omega) hk hq; omega
      rw [mono q hqi, s.ver k q hq]
      omega
  · have hxi := hne x r' b hx hxb
    rw [mono x hxi] at hx'
    rw [went.old _ (Nat.lt_of_lt_of_le (g.ids.lo x r' b hx hxb).2.1 s.cnt)]
    exact s.none_ x r' b hx hxb hx'
  · have hxi := hne x r' b hx hxb
    rw [mono x hxi] at hx'
    refine g.dead x r' b j i H' n' hx hxb hk hV' hf ?_
    cases h : anc ms i x with
    | false => rfl
    | true =>
      have := s.closed.anc g.reg.waits h hx'
      rw [hn] at this; cases this
theorem Inv.op {S : Start} {L : Array Bool} {j : Nat} {H : Heap} {n : Nat} {a : Act} {w : World} {θ : Theta} (g : Good P ops ms env0 H0 n0 n1 R V hv) (s : Inv P ops ms env0 n0 n1 R V hv S L j H n a w θ) {i : Nat} (hr : i ∈ Region.ready .any ops L)
    {Fe : Fence} {m : Nat} {K : Act → World → Prop} {Q : Exit → Act → World → Prop} (hL : LooseR Fe) (hK : ∀ j' H' n' a' w' θ', Inv P ops ms env0 n0 n1 R V hv S (L.setIfInBounds i true) j' H' n' a' w' θ' → K a' w') : wpOpIn Fe m P ops Q i K a w := by
  obtain ⟨hi, hn⟩ := ready_not s.size hr
  have ho : ops[i]? = some ops[i] := by simp [hi]
  have hR : R[i]? = some (R[i]'(by rw [g.rows]; exact hi)) := List.getElem?_eq_getElem (by rw [g.rows]; exact hi)
  generalize ops[i] = o at ho
  generalize R[i]'(by rw [g.rows]; exact hi) = r at hR
  have hopd := s.opd g hr ho hR
  have hwant : ∀ t, GW ops r.env o t → Region.wanted o (yielded ops a.tmps) = t := fun t ht => wanted_of ht (g.env i r hR).len s.tmps.len fun x hx => s.tmps.at g.reg s.size g.rows s.closed ho hr (g.env i r hR) hx
  have noblk : r.blk = none → EX R (kp ms hv (L.setIfInBounds i true) j) = EX R (kp ms hv L j) := fun hb => EX_congr g.ids fun x r' b hx hxb => by
    have hxi : x ≠ i := fun e => by subst e; rw [hR] at hx; injection hx with hx; subst hx; rw [hb] at hxb; cases hxb
    have : (L.setIfInBounds i true).getD x false = L.getD x false := by
      cases h : L.getD x false with
      | true => exact getD_set_in h
      | false =>
        cases h' : (L.setIfInBounds i true).getD x false with
        | false => rfl
        | true => rcases getD_set_of h' with e | h'; exact absurd e hxi; rw [h] at h'; cases h'
    simp only [kp, this]
  have isj : ∀ k, hv[k]? = some i → k = j := fun k hk => by
    have h1 : ¬ k < j := fun h => by have := (s.ver k i hk).2 h; rw [hn] at this; cases this
    rcases Nat.lt_or_ge j k with h' | h'
    · have hj : j < hv.length := by
        rcases Nat.lt_or_ge k hv.length with h'' | h''
        · omega
        · rw [List.getElem?_eq_none h''] at hk; cases hk
      have hq : hv[j]? = some hv[j] := List.getElem?_eq_getElem hj
      obtain ⟨o1, ho1, h3⟩ := g.hvc j _ hq
      obtain ⟨o2, ho2, h4⟩ := g.hvc k i hk
      have := g.reg.heavies _ i o1 o2 ho1 ho2 (g.hvo j k _ i h' hq hk) h3 h4
      have := (s.ver j _ hq).1 (s.closed.ready g.reg.waits hr this)
      omega
    · omega
  unfold wpOpIn
  simp only [ho]
  have skipped : GW ops r.env o false → K (a.put o.dst undef) w → if Region.wanted o (yielded ops a.tmps) then o.wpIn Fe m P a w K Q else (∀ f, o.about P w a.eval = some f → Fe.fn f) ∧ K (a.put o.dst undef) w := fun hg hk => by
    rw [hwant _ hg]
    exact ⟨fun f _ => hL.fn f, hk⟩
  have same : r.blk = none → Core P S (over (hfn H) (EX R (kp ms hv (L.setIfInBounds i true) j))) n a.defers w θ := fun hb => by rw [noblk hb]; exact s.core
  cases g.step i o r ho hR with
  | pure hc hb hg hs =>
    rw [hwant _ hg, if_pos rfl]
    obtain ⟨v', h1, h2⟩ := hs θ a w hopd
    exact goes_of_yields (.inl h1) hL (hK _ _ _ _ _ _ (s.light g hr ho hR hc h2 (Theta.le_refl _) (same hb) (fun _ _ _ _ _ _ h => h)))
  | read hc hb hg hs =>
    rw [hwant _ hg, if_pos rfl]
    obtain ⟨e1, e2⟩ := s.sees g hr
    have hrel := s.core.went.rel
    rw [e1] at hrel
    obtain ⟨v', h1, h2⟩ := hs j H n s.at_ (s.allowed g hr) θ a w S.B (hrel.under e2) hopd
    exact goes_of_yields (.inl h1) hL (hK _ _ _ _ _ _ (s.light g hr ho hR hc h2 (Theta.le_refl _) (same hb) (fun _ _ _ _ _ _ h => h)))
  | alloc hc b hb hg hs =>
    rw [hwant _ hg, if_pos rfl]
    have hno := s.none_ i r b hR hb hn
    obtain ⟨l1, l2, l3⟩ := g.ids.lo i r b hR hb
    obtain ⟨v', ob, sz, w', h1, h2, h3, h4, h5, h6, h7⟩ := hs θ a w S.B _ s.core.went.rel hno s.core.room hopd
    have hid : r.id < n := Nat.lt_of_lt_of_le l2 s.cnt
    have hwent := went_new s.core.went.rel s.core.went.fresh hno hid h2 h3 h4 h5 h6 s.core.went (Nat.le_trans s.lo l1)
    have hone : Went P θ (over (hfn H) (EX R (kp ms hv L j))) n S.B w (θ.add r.id ⟨w.heap.size, 0, sz⟩) (setB (over (hfn H) (EX R (kp ms hv L j))) r.id b) (n + 1) w' ∨ True := .inr trivial
    have heq : setB (over (hfn H) (EX R (kp ms hv L j))) r.id b = over (hfn H) (EX R (kp ms hv (L.setIfInBounds i true) j)) := by
      have e1 : setB (over (hfn H) (EX R (kp ms hv L j))) r.id b = over (over (hfn H) (EX R (kp ms hv L j))) (EX R fun x => Nat.beq x i) := by
        funext x
        by_cases e : r.id = x
        · subst e
          rw [over_some ((EX_some g.ids).2 ⟨i, r, hR, hb, rfl, by simp⟩)]
          simp [setB]
        · rw [over_none ((EX_none g.ids).2 fun y r' b' g1 g2 g3 => ?_)]
          · simp [setB, e]
          · cases hy : Nat.beq y i with
            | false => rfl
            | true =>
              have := Nat.eq_of_beq_eq_true hy
              subst this
              rw [hR] at g1; injection g1 with g1; subst g1
              exact absurd g3 e
      rw [e1]
      refine over_or g.ids _ fun x r' b' hx hxb => ?_
      by_cases e : x = i
      · subst e
        simp [kp, getD_set_same (show x < L.size by rw [s.size]; exact hi), s.free g hn]
      · have hb0 : Nat.beq x i = false := by
          cases hb0 : Nat.beq x i with
          | false => rfl
          | true => exact absurd (Nat.eq_of_beq_eq_true hb0) e
        have : (L.setIfInBounds i true).getD x false = L.getD x false := by
          cases h : L.getD x false with
          | true => exact getD_set_in h
          | false =>
            cases h' : (L.setIfInBounds i true).getD x false with
            | false => rfl
            | true => rcases getD_set_of h' with e' | h'; exact absurd e' e; rw [h] at h'; cases h'
        simp only [kp, this, hb0, Bool.or_false]
    rw [heq] at hwent
    have hdefs : MarksOK P S.lo (θ.add r.id ⟨w.heap.size, 0, sz⟩) (over (hfn H) (EX R (kp ms hv (L.setIfInBounds i true) j))) w' a.defers := by
      obtain ⟨rs, e, hnd, hrs⟩ := s.core.defs
      refine ⟨rs, e, hnd, fun q hq => ?_⟩
      obtain ⟨g1, g2, g3⟩ := hrs q hq
      have hlt := lt_of_heap g2
      refine ⟨g1, ?_, fun x l hx hl el => ?_⟩
      · rw [h2, Array.getElem?_push_lt hlt, ← Array.getElem?_eq_getElem hlt]; exact g2
      · rw [← heq] at hx
        by_cases ex : r.id = x
        · subst ex
          rw [Theta.add_self] at hl
          injection hl with hl
          subst hl
          simp only at el
          omega
        · simp only [setB, if_neg ex] at hx
          have hl' : θ.blk x = some l := by
            have : (θ.add r.id ⟨w.heap.size, 0, sz⟩).blk x = θ.blk x := by
              show (if r.id = x then _ else θ.blk x) = _
              rw [if_neg ex]
            rw [← this]; exact hl
          exact g3 x l hx hl' el
    exact goes_of_yields (.inl h1) hL (hK _ _ _ _ _ _ (s.light g hr ho hR hc h7 (Theta.le_add hno _) ⟨s.core.low, hwent, s.core.glob.le (Theta.le_add hno _), hdefs⟩ (fun x r' b' hx hxb hxi h => by
      have hne : r.id ≠ r'.id := fun e => hxi (g.ids.inj x i r' r b' b hx hR hxb hb e.symm)
      show (if r.id = r'.id then _ else θ.blk r'.id) = none
      rw [if_neg hne]; exact h)))
  | skip hc hb hg hv0 =>
    refine skipped hg (hK _ _ _ _ _ _ (s.light g hr ho hR hc (.inr (by rw [hv0]; simp [Ev.conc, concs, undef])) (Theta.le_refl _) ?_ (fun _ _ _ _ _ _ h => h)))
    have heq : over (hfn H) (EX R (kp ms hv (L.setIfInBounds i true) j)) = over (hfn H) (EX R (kp ms hv L j)) := by
      cases hrb : r.blk with
      | none => rw [noblk hrb]
      | some b =>
        have hbd := hb b hrb
        subst hbd
        have hno := s.none_ i r _ hR hrb hn
        have hd := s.core.went.rel.dead_of_none hno
        have e1 : over (hfn H) (EX R (kp ms hv (L.setIfInBounds i true) j)) = over (over (hfn H) (EX R (kp ms hv L j))) (EX R fun x => Nat.beq x i) := by
          symm
          refine over_or g.ids _ fun x r' b' hx hxb => ?_
          by_cases e : x = i
          · subst e
            simp [kp, getD_set_same (show x < L.size by rw [s.size]; exact hi), s.free g hn]
          · have hb0 : Nat.beq x i = false := by
              cases hb0 : Nat.beq x i with
              | false => rfl
              | true => exact absurd (Nat.eq_of_beq_eq_true hb0) e
            have : (L.setIfInBounds i true).getD x false = L.getD x false := by
              cases h : L.getD x false with
              | true => exact getD_set_in h
              | false =>
                cases h' : (L.setIfInBounds i true).getD x false with
                | false => rfl
                | true => rcases getD_set_of h' with e' | h'; exact absurd e' e; rw [h] at h'; cases h'
            simp only [kp, this, hb0, Bool.or_false]
        rw [e1]
        funext x
        cases e2 : EX R (fun x => Nat.beq x i) x with
        | none => rw [over_none e2]
        | some c =>
          obtain ⟨y, ry, g1, g2, g3, g4⟩ := (EX_some g.ids).1 e2
          have := Nat.eq_of_beq_eq_true g4
          subst this
          rw [hR] at g1; injection g1 with g1; subst g1
          rw [hrb] at g2; injection g2 with g2; subst g2
          subst g3
          rw [over_some e2, hd]
    rw [heq]; exact s.core
  | heavy k Hk nk H' n' hk hV hV' hb hg hs =>
    rw [hwant _ hg, if_pos rfl]
    have := isj k hk
    subst this
    rw [s.at_] at hV; injection hV with hV; injection hV with e1 e2; subst e1; subst e2
    obtain ⟨e1, e2⟩ := s.sees g hr
    have hrel := s.core.went.rel
    rw [e1] at hrel
    refine hs Fe m θ a w S.B K Q hL (hrel.under e2) s.core.went.fresh s.core.room s.core.glob hopd fun v' w' θ' hwent hv' => ?_
    exact hK _ _ _ _ _ _ (s.next g hr ho hR hk hV' hb hv' hwent)
  | skipH k Hk nk hk hV hV' hb hg hv0 =>
    have := isj k hk
    subst this
    rw [s.at_] at hV; injection hV with hV; injection hV with e1 e2; subst e1; subst e2
    obtain ⟨e1, e2⟩ := s.sees g hr
    have hrel := s.core.went.rel
    rw [e1] at hrel
    exact skipped hg (hK _ _ _ _ _ _ (s.next g hr ho hR hk hV' hb (.inr (by rw [hv0]; simp [Ev.conc, concs, undef])) (Went.refl (hrel.under e2) s.core.went.fresh)))
end
end
end Ev
namespace Ev
open Go
open Go.RowKit
noncomputable section
section
variable {P : Program} {ops : Array Oper} {ms : List Nat} {env0 : List AV} {H0 : Heap} {n0 n1 : Nat} {R : List Row} {V : List (Heap × Nat)} {hv : List Nat}
theorem all_listed (g : RegOK P ops ms) {L : Array Bool} (hs : L.size = ops.size) (h : Region.ready .any ops L = []) : ∀ i, i < ops.size → L.getD i false = true := by
  intro i
  induction i using Nat.strongRecOn with
  | ind i ih =>
    intro hi
    cases hl : L.getD i false with
    | true => rfl
    | false =>
      have ho : ops[i]? = some ops[i] := by simp [hi]
      have : i ∈ Region.ready .any ops L := by
        refine mem_ready.2 ⟨?_, ops[i], ho, fun e he hb => ?_⟩
        · simp only [Array.getD_eq_getD_getElem?] at hl ⊢
          rw [Array.getElem?_eq_getElem (by omega)] at hl ⊢
          simpa using hl
        · have := g.back i _ ho e he hb
          exact ih _ this (by omega)
      rw [h] at this; cases this
theorem Inv.final {S : Start} {L : Array Bool} {j : Nat} {H : Heap} {n : Nat} {a : Act} {w : World} {θ : Theta} (g : Good P ops ms env0 H0 n0 n1 R V hv) (s : Inv P ops ms env0 n0 n1 R V hv S L j H n a w θ) (h : Region.ready .any ops L = []) {env' : List AV} (he : EnvAt ops env0 R ops.size env') :
    V[hv.length]? = some (H, n) ∧ Now P S env' (layP (exs (fun x => Ev.free ms x hv) 0 R) H) n a w θ := by
  have all := all_listed g.reg s.size h
  have hlt : ∀ {i : Nat} {o : Oper}, ops[i]? = some o → i < ops.size := fun {i o} ho => by
    rcases Nat.lt_or_ge i ops.size with h' | h'
    · exact h'
    · rw [Array.getElem?_eq_none h'] at ho; cases ho
  have hj : hv.length ≤ j := by
    rcases Nat.lt_or_ge j hv.length with h' | h'
    · have hq : hv[j]? = some hv[j] := List.getElem?_eq_getElem h'
      obtain ⟨o, ho, _⟩ := g.hvc j _ hq
      have := (s.ver j _ hq).1 (all _ (hlt ho))
      omega
    · exact h'
  have hj' : j = hv.length := by
    have := s.at_
    rcases Nat.lt_or_ge j V.length with h' | h'
    · rw [g.vl] at h'; omega
    · rw [List.getElem?_eq_none h'] at this; cases this
  have hkeep : EX R (kp ms hv L j) = EX R (fun x => Ev.free ms x hv) := EX_congr g.ids fun x r b hx _ => by
    have hx' : x < ops.size := by
      rcases Nat.lt_or_ge x ops.size with h' | h'
      · exact h'
      · rw [List.getElem?_eq_none (by rw [g.rows]; exact h')] at hx; cases hx
    simp only [kp, all x hx', Bool.true_and]
    rw [List.take_of_length_le hj]
  have hc := s.core
  rw [hkeep, ← lay_EX g.ids] at hc
  refine ⟨hj' ▸ s.at_, hc.low, hc.went, hc.glob, fun t => ?_, by rw [he.len]; exact s.tmps.len, hc.defs⟩
  by_cases ht : t < env0.length
  · by_cases hw : ∃ (i : Nat) (o : Oper), ops[i]? = some o ∧ o.dst = some t
    · obtain ⟨i, o, ho, hd⟩ := hw
      have hi := hlt ho
      have hr : R[i]? = some (R[i]'(by rw [g.rows]; exact hi)) := List.getElem?_eq_getElem (by rw [g.rows]; exact hi)
      rw [he.wrote i o _ t hi ho hr hd ht]
      exact s.tmps.wrote i o _ t (all i hi) ho hr hd ht
    · rw [he.old t fun i o _ ho hd => hw ⟨i, o, ho, hd⟩]
      exact s.tmps.old t fun i o _ ho hd => hw ⟨i, o, ho, hd⟩
  · left
    rw [List.getD_eq_getElem?_getD, List.getElem?_eq_none (by rw [he.len]; omega)]
    rfl
theorem count_set_lt : ∀ {l : List Bool} {i : Nat}, l[i]? = some false → (l.set i true).count false < l.count false
  | [], i, h => by simp at h
  | b :: l, 0, h => by simp at h; subst h; simp
  | b :: l, i + 1, h => by
    have := count_set_lt (l := l) (i := i) (by simpa using h)
    simp only [List.set_cons_succ, List.count_cons]
    omega
theorem Inv.any (g : Good P ops ms env0 H0 n0 n1 R V hv) {S : Start} {Fe : Fence} {m : Nat} {Q : Exit → Act → World → Prop} (hL : LooseR Fe) {env' : List AV} (he : EnvAt ops env0 R ops.size env') {Hm : Heap} {nm : Nat} (hV : V[hv.length]? = some (Hm, nm))
    (hQ : ∀ a w θ, Now P S env' (layP (exs (fun x => Ev.free ms x hv) 0 R) Hm) nm a w θ → Q .normal a w) :
    ∀ (fuel : Nat) (L : Array Bool) (j : Nat) (H : Heap) (n : Nat) (a : Act) (w : World) (θ : Theta), Inv P ops ms env0 n0 n1 R V hv S L j H n a w θ → L.toList.count false ≤ fuel → wpAnyIn Fe m P .any ops Q fuel L a w := by
  have fin : ∀ {L : Array Bool} {j : Nat} {H : Heap} {n : Nat} {a : Act} {w : World} {θ : Theta}, Inv P ops ms env0 n0 n1 R V hv S L j H n a w θ → Region.ready .any ops L = [] → Q .normal a w := fun s h => by
    obtain ⟨h1, h2⟩ := s.final g h he
    rw [hV] at h1; injection h1 with h1; injection h1 with e1 e2; subst e1; subst e2
    exact hQ _ _ _ h2
  intro fuel
  induction fuel with
  | zero =>
    intro L j H n a w θ s hc
    have hr : Region.ready .any ops L = [] := by
      cases hr : Region.ready .any ops L with
      | nil => rfl
      | cons i rs =>
        have hi : i ∈ Region.ready .any ops L := by rw [hr]; simp
        have h1 := (mem_ready.1 hi).1
        have h2 : L.toList[i]? = some false := by
          obtain ⟨hlt, h3⟩ := ready_not s.size hi
          have : i < L.size := by rw [s.size]; exact hlt
          simp [Array.getD_eq_getD_getElem?, this] at h3
          simp [this, h3]
        have := count_set_lt h2
        omega
    exact ⟨hr, fin s hr⟩
  | succ fuel ih =>
    intro L j H n a w θ s hc
    refine ⟨fun hr => fin s hr, fun i hi => ?_⟩
    refine s.op g hi hL fun j' H' n' a' w' θ' s' => ih _ _ _ _ _ _ _ s' ?_
    have h2 : L.toList[i]? = some false := by
      obtain ⟨hlt, h3⟩ := ready_not s.size hi
      have : i < L.size := by rw [s.size]; exact hlt
      simp [Array.getD_eq_getD_getElem?, this] at h3
      simp [this, h3]
    have := count_set_lt h2
    rw [Array.toList_setIfInBounds]
    omega
theorem Good.goes {t : Bool} (g : Good P ops ms env0 H0 n0 n1 R V hv) (hm : P.follows .mixedOrders = true) {env' : List AV} (he : EnvAt ops env0 R ops.size env') {Hm : Heap} {nm : Nat} (hV : V[hv.length]? = some (Hm, nm)) (id : Nat) :
    CodeGoes t P (.region id ops true) env0 H0 n0 env' (layP (exs (fun x => Ev.free ms x hv) 0 R) Hm) nm := by
  intro Fe m S a w θ Q hL s hQ
  refine wpIn_region_any hm ?_
  have hf : ∀ i, (Array.replicate ops.size false).getD i false = false := fun i => by
    simp only [Array.getD_eq_getD_getElem?, Array.getElem?_replicate]
    split <;> rfl
  have hk : EX R (kp ms hv (Array.replicate ops.size false) 0) = fun _ => none := by
    funext x
    exact (EX_none g.ids).2 fun a r b _ _ _ => by simp only [kp, hf, Bool.false_and]
  have h0 : over (hfn H0) (EX R (kp ms hv (Array.replicate ops.size false) 0)) = hfn H0 := by rw [hk]; rfl
  refine Inv.any g hL.1 he hV (fun a' w' θ' s' => hQ a' w' θ' s') ops.size _ 0 H0 n1 a { w with drawn := w.drawn + 1 } θ ⟨by simp, fun q o hq => ?_, fun k q hq => ?_, g.v0, Nat.le_refl _, s.went.num, ?_, fun x r b hx hb _ => ?_, fun x r b _ _ hx => ?_, ⟨fun i o r t hi => ?_, fun t _ => s.tmps t, s.len⟩⟩ (by simp)
  · rw [hf] at hq; cases hq
  · rw [hf]; simp
  · rw [h0]
    exact ⟨s.low, (s.went.upto g.num).drawn _, s.glob, s.defs.drawn _⟩
  · exact s.went.fresh _ (g.ids.lo x r b hx hb).1
  · rw [hf] at hx; cases hx
  · rw [hf] at hi; cases hi
end
end
end Ev
