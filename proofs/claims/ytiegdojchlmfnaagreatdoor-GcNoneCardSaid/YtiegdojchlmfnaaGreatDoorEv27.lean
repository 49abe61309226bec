/- A part of the proof that GcNone returns true: text Ev27. -/
import Derived.Test.YtiegdojchlmfnaaGreatDoorEv26
namespace Ev
open Go
open Go.RowKit
noncomputable section

/-! ### Who waits for whom in a region -/

def ancM (ms : List Nat) : List Edge → Nat
  | [] => 0
  | e :: es => cond (Region.binds .any e) (Nat.lor (Nat.lor (ancM ms es) (ms.getD e.on 0)) (Nat.shiftLeft 1 e.on)) (ancM ms es)

def mkMs : List Oper → List Nat → List Nat
  | [], ms => ms
  | o :: l, ms => mkMs l (ms ++ [ancM ms o.after.toList])

def anc (ms : List Nat) (p q : Nat) : Bool := Nat.testBit (ms.getD q 0) p

theorem ancM_spec {ms : List Nat} {p : Nat} : ∀ {es : List Edge}, Nat.testBit (ancM ms es) p = true → ∃ e ∈ es, Region.binds .any e = true ∧ (e.on = p ∨ Nat.testBit (ms.getD e.on 0) p = true)
  | [], h => by simp [ancM] at h
  | e :: es, h => by
    simp only [ancM] at h
    cases hb : Region.binds .any e with
    | false =>
      rw [hb] at h
      obtain ⟨e', h1, h2⟩ := ancM_spec (es := es) h
      exact ⟨e', by simp [h1], h2⟩
    | true =>
      rw [hb] at h
      change Nat.testBit ((ancM ms es ||| ms.getD e.on 0) ||| (1 <<< e.on)) p = true at h
      rw [Nat.testBit_or, Nat.testBit_or, Bool.or_eq_true, Bool.or_eq_true] at h
      rcases h with (h | h) | h
      · obtain ⟨e', h1, h2⟩ := ancM_spec (es := es) h
        exact ⟨e', by simp [h1], h2⟩
      · exact ⟨e, by simp, hb, .inr h⟩
      · refine ⟨e, by simp, hb, .inl ?_⟩
        rw [Nat.one_shiftLeft, Nat.testBit_two_pow] at h
        simpa using h

theorem mkMs_pre : ∀ (l : List Oper) (ms : List Nat), ∃ r, mkMs l ms = ms ++ r ∧ r.length = l.length
  | [], ms => ⟨[], by simp [mkMs], rfl⟩
  | o :: l, ms => by
    obtain ⟨r, h1, h2⟩ := mkMs_pre l (ms ++ [ancM ms o.after.toList])
    exact ⟨ancM ms o.after.toList :: r, by rw [mkMs, h1]; simp, by simp [h2]⟩

theorem mkMs_at : ∀ {l : List Oper} {ms : List Nat} {k : Nat} {o : Oper}, l[k]? = some o → (mkMs l ms).getD (ms.length + k) 0 = ancM ((mkMs l ms).take (ms.length + k)) o.after.toList
  | [], ms, k, o, h => by simp at h
  | o' :: l, ms, 0, o, h => by
    simp at h; subst h
    obtain ⟨r, h1, h2⟩ := mkMs_pre l (ms ++ [ancM ms o'.after.toList])
    rw [mkMs, h1]
    simp [List.getD_eq_getElem?_getD]
  | o' :: l, ms, k + 1, o, h => by
    have := mkMs_at (l := l) (ms := ms ++ [ancM ms o'.after.toList]) (k := k) (o := o) (by simpa using h)
    simp only [List.length_append, List.length_singleton] at this
    rw [mkMs, show ms.length + (k + 1) = ms.length + 1 + k from by omega]
    exact this

/-- One who is waited for is waited for at once, or by one who is waited for at once. -/
def Waits (ops : Array Oper) (ms : List Nat) : Prop :=
  ∀ p q, anc ms p q = true → ∃ o, ops[q]? = some o ∧ ∃ e ∈ o.after, Region.binds .any e = true ∧ (e.on = p ∨ (e.on < q ∧ anc ms p e.on = true))

theorem waits_mk (ops : Array Oper) : Waits ops (mkMs ops.toList []) := by
  intro p q h
  unfold anc at h
  obtain ⟨r, h1, h2⟩ := mkMs_pre ops.toList []
  rcases Nat.lt_or_ge q ops.size with hq | hq
  · have ho : ops.toList[q]? = some ops[q] := by simp [hq]
    have := mkMs_at (ms := []) ho
    simp only [List.length_nil, Nat.zero_add] at this
    rw [this] at h
    obtain ⟨e, h3, h4, h5⟩ := ancM_spec h
    refine ⟨ops[q], by simp [hq], e, by simpa using h3, h4, h5.imp id fun h5 => ?_⟩
    by_cases he : e.on < q
    · refine ⟨he, ?_⟩
      unfold anc
      rw [List.getD_eq_getElem?_getD, List.getElem?_take_of_lt he] at h5
      rw [List.getD_eq_getElem?_getD]
      exact h5
    · rw [List.getD_eq_getElem?_getD, List.getElem?_eq_none (by simp; omega)] at h5
      simp at h5
  · rw [List.getD_eq_getElem?_getD, List.getElem?_eq_none (by rw [h1]; simp [h2]; omega)] at h
    simp at h

/-- Whoever is listed: so are all for whom it waits. -/
def Closed (ops : Array Oper) (L : Array Bool) : Prop :=
  ∀ q o, L.getD q false = true → ops[q]? = some o → ∀ e ∈ o.after, Region.binds .any e = true → L.getD e.on false = true

theorem Closed.anc {ops : Array Oper} {ms : List Nat} {L : Array Bool} (hw : Waits ops ms) (hc : Closed ops L) {p : Nat} : ∀ {q : Nat}, anc ms p q = true → L.getD q false = true → L.getD p false = true := by
  intro q
  induction q using Nat.strongRecOn with
  | ind q ih =>
    intro h hq
    obtain ⟨o, ho, e, he, hb, h1⟩ := hw p q h
    have := hc q o hq ho e he hb
    rcases h1 with rfl | ⟨h1, h2⟩
    · exact this
    · exact ih _ h1 h2 this

theorem Closed.ready {ops : Array Oper} {ms : List Nat} {L : Array Bool} (hw : Waits ops ms) (hc : Closed ops L) {p q : Nat} (hr : q ∈ Region.ready .any ops L) (h : Ev.anc ms p q = true) : L.getD p false = true := by
  obtain ⟨o, ho, e, he, hb, h1⟩ := hw p q h
  obtain ⟨_, o', ho', hall⟩ := mem_ready.1 hr
  rw [ho] at ho'; injection ho' with ho'; subst ho'
  have := hall e he hb
  rcases h1 with rfl | ⟨h1, h2⟩
  · exact this
  · exact hc.anc hw h2 this

theorem getD_set_of {L : Array Bool} {i j : Nat} (h : (L.setIfInBounds i true).getD j false = true) : j = i ∨ L.getD j false = true := by
  simp only [Array.getD_eq_getD_getElem?, Array.getElem?_setIfInBounds] at h ⊢
  by_cases e : i = j
  · exact .inl e.symm
  · rw [if_neg e] at h; exact .inr h

theorem getD_set_in {L : Array Bool} {i j : Nat} (h : L.getD j false = true) : (L.setIfInBounds i true).getD j false = true := by
  simp only [Array.getD_eq_getD_getElem?, Array.getElem?_setIfInBounds] at h ⊢
  by_cases e : i = j
  · subst e
    rcases Nat.lt_or_ge i L.size with h' | h'
    · simp [h']
    · rw [Array.getElem?_eq_none h'] at h; simp at h
  · rw [if_neg e]; exact h

theorem getD_set_same {L : Array Bool} {i : Nat} (h : i < L.size) : (L.setIfInBounds i true).getD i false = true := by
  simp [Array.getD_eq_getD_getElem?, Array.getElem?_setIfInBounds, h]

theorem Closed.set {ops : Array Oper} {L : Array Bool} (hc : Closed ops L) {i : Nat} (hr : i ∈ Region.ready .any ops L) : Closed ops (L.setIfInBounds i true) := by
  intro q o hq ho e he hb
  rcases getD_set_of hq with rfl | hq
  · obtain ⟨_, o', ho', hall⟩ := mem_ready.1 hr
    rw [ho] at ho'; injection ho' with ho'; subst ho'
    exact getD_set_in (hall e he hb)
  · exact getD_set_in (hc q o hq ho e he hb)

theorem ready_not {ops : Array Oper} {L : Array Bool} {i : Nat} (hs : L.size = ops.size) (hr : i ∈ Region.ready .any ops L) : i < ops.size ∧ L.getD i false = false := by
  obtain ⟨h, o, ho, _⟩ := mem_ready.1 hr
  have hi : i < ops.size := by
    rcases Nat.lt_or_ge i ops.size with h' | h'
    · exact h'
    · rw [Array.getElem?_eq_none h'] at ho; cases ho
  refine ⟨hi, ?_⟩
  simp only [Array.getD_eq_getD_getElem?] at h ⊢
  rw [Array.getElem?_eq_getElem (by omega)] at h ⊢
  simpa using h

/-! ### What is checked of a region before it is carried out -/

def allI : List Oper → Nat → (Nat → Oper → Bool) → Bool
  | [], _, _ => true
  | o :: l, i, f => cond (f i o) (allI l (i + 1) f) false

theorem allI_iff : ∀ {l : List Oper} {i : Nat} {f : Nat → Oper → Bool}, allI l i f = true → ∀ j o, l[j]? = some o → f (i + j) o = true
  | [], i, f, _, j, o, h => by simp at h
  | o' :: l, i, f, h, j, o, hj => by
    simp only [allI] at h
    cases hf : f i o' with
    | false => rw [hf] at h; cases h
    | true =>
      rw [hf] at h
      cases j with
      | zero => simp at hj; subst hj; exact hf
      | succ j =>
        have := allI_iff (l := l) h j o (by simpa using hj)
        rwa [show i + 1 + j = i + (j + 1) from by omega] at this

def memN (t : Nat) : List Nat → Bool
  | [] => false
  | x :: l => cond (Nat.beq t x) true (memN t l)

theorem memN_iff {t : Nat} : ∀ {l : List Nat}, memN t l = true ↔ t ∈ l
  | [] => by simp [memN]
  | x :: l => by
    simp only [memN]
    cases h : Nat.beq t x with
    | true => simp at h; simp [h]
    | false =>
      have : t ≠ x := by intro e; subst e; simp at h
      simp only [cond_false, memN_iff (l := l)]
      simp [this]

def pairOK (P : Program) (ops : Array Oper) (ms : List Nat) (i : Nat) (o : Oper) (j : Nat) (oj : Oper) : Bool :=
  cond (Nat.beq i j) true (
    (cond (Nat.blt i j && Nat.ble 3 (cls P o) && Nat.ble 3 (cls P oj)) (anc ms i j) true) &&
    (match oj.dst with
     | none => true
     | some t => (match o.dst with | some s => !Nat.beq s t | none => true) &&
       cond (memN t (o.looksAt ops)) (cond (Nat.blt j i) (anc ms j i) (anc ms i j)) true))

def regOK (P : Program) (ops : Array Oper) (ms : List Nat) : Bool :=
  allI ops.toList 0 fun i o => (o.after.toList.all fun e => cond (Region.binds .any e) (Nat.blt e.on i) true) && allI ops.toList 0 fun j oj => pairOK P ops ms i o j oj

structure RegOK (P : Program) (ops : Array Oper) (ms : List Nat) : Prop where
  waits : Waits ops ms
  back : ∀ (i : Nat) (o : Oper), ops[i]? = some o → ∀ e ∈ o.after, Region.binds .any e = true → e.on < i
  heavies : ∀ (i j : Nat) (o oj : Oper), ops[i]? = some o → ops[j]? = some oj → i < j → 3 ≤ cls P o → 3 ≤ cls P oj → anc ms i j = true
  once : ∀ (i j : Nat) (o oj : Oper) (t : Nat), ops[i]? = some o → ops[j]? = some oj → o.dst = some t → oj.dst = some t → i = j
  before : ∀ (i j : Nat) (o oj : Oper) (t : Nat), ops[i]? = some o → ops[j]? = some oj → j < i → oj.dst = some t → t ∈ o.looksAt ops → anc ms j i = true
  behind : ∀ (i j : Nat) (o oj : Oper) (t : Nat), ops[i]? = some o → ops[j]? = some oj → i < j → oj.dst = some t → t ∈ o.looksAt ops → anc ms i j = true

theorem regOK_iff {P : Program} {ops : Array Oper} (h : regOK P ops (mkMs ops.toList []) = true) : RegOK P ops (mkMs ops.toList []) := by
  have one : ∀ i o, ops[i]? = some o → (∀ e ∈ o.after, Region.binds .any e = true → e.on < i) ∧ ∀ j oj, ops[j]? = some oj → pairOK P ops (mkMs ops.toList []) i o j oj = true := by
    intro i o ho
    have := allI_iff h i o (by simpa using ho)
    rw [Nat.zero_add, Bool.and_eq_true] at this
    refine ⟨fun e he hb => ?_, fun j oj hj => ?_⟩
    · have h1 := List.all_eq_true.1 this.1 e (by simpa using he)
      rw [hb, cond_true, Nat.blt_eq] at h1
      exact h1
    · have h1 := allI_iff this.2 j oj (by simpa using hj)
      rwa [Nat.zero_add] at h1
  have pair : ∀ i j o oj, ops[i]? = some o → ops[j]? = some oj → i ≠ j →
      ((i < j → 3 ≤ cls P o → 3 ≤ cls P oj → anc (mkMs ops.toList []) i j = true) ∧ ∀ t, oj.dst = some t → o.dst ≠ some t ∧ (t ∈ o.looksAt ops → (j < i → anc (mkMs ops.toList []) j i = true) ∧ (i < j → anc (mkMs ops.toList []) i j = true))) := by
    intro i j o oj ho hj hne
    have h1 := (one i o ho).2 j oj hj
    unfold pairOK at h1
    have hb : Nat.beq i j = false := by
      cases hb : Nat.beq i j with
      | false => rfl
      | true => exact absurd (Nat.eq_of_beq_eq_true hb) hne
    rw [hb, cond_false, Bool.and_eq_true] at h1
    refine ⟨fun hij h3 h3' => ?_, fun t ht => ?_⟩
    · have := h1.1
      rw [show (Nat.blt i j && Nat.ble 3 (cls P o) && Nat.ble 3 (cls P oj)) = true from by simp [Nat.blt_eq, hij, h3, h3']] at this
      exact this
    · have := h1.2
      simp only [ht, Bool.and_eq_true] at this
      refine ⟨fun hs => ?_, fun hl => ?_⟩
      · have := this.1
        rw [hs] at this
        simp at this
      · have := this.2
        rw [memN_iff.2 hl, cond_true] at this
        refine ⟨fun hji => ?_, fun hij => ?_⟩
        · rwa [show Nat.blt j i = true from by simp [Nat.blt_eq, hji], cond_true] at this
        · rwa [show Nat.blt j i = false from by rw [blt_eq]; simp; omega, cond_false] at this
  refine ⟨waits_mk ops, fun i o ho => (one i o ho).1, fun i j o oj ho hj hij => (pair i j o oj ho hj (by omega)).1 hij, fun i j o oj t ho hj h1 h2 => ?_, fun i j o oj t ho hj hij hd hl => ?_, fun i j o oj t ho hj hij hd hl => ?_⟩
  · rcases Nat.lt_or_ge i j with h' | h'
    · exact absurd h1 ((pair i j o oj ho hj (by omega)).2 t h2).1
    · rcases Nat.lt_or_ge j i with h'' | h''
      · exact absurd h1 ((pair i j o oj ho hj (by omega)).2 t h2).1
      · omega
  · exact (((pair i j o oj ho hj (by omega)).2 t hd).2 hl).1 hij
  · exact (((pair i j o oj ho hj (by omega)).2 t hd).2 hl).2 hij

/-! ### Blocks laid beside -/

structure Row where
  v : AV
  env : List AV
  id : Nat
  blk : Option Blk
  ver : Nat

def free (ms : List Nat) (a : Nat) (hs : List Nat) : Bool := hs.all fun q => !anc ms a q

def exs (keep : Nat → Bool) : Nat → List Row → List (Nat × Blk)
  | _, [] => []
  | a, r :: rs => match r.blk with
    | some b => cond (keep a) ((r.id, b) :: exs keep (a + 1) rs) (exs keep (a + 1) rs)
    | none => exs keep (a + 1) rs

def keepAt (ms hv : List Nat) (i j a : Nat) : Bool := Nat.blt a i && anc ms a i && free ms a (hv.take j)

def layH : List (Nat × Blk) → Heap → (Heap → Bool) → Bool
  | [], H, k => hi (k H)
  | (i, b) :: l, H, k => hput H i b fun H => layH l H k

def layP : List (Nat × Blk) → Heap → Heap
  | [], H => H
  | (i, b) :: l, H => layP l (Tr.put 5 H i b)

theorem layH_eq : ∀ (l : List (Nat × Blk)) (H : Heap) (k : Heap → Bool), layH l H k = k (layP l H)
  | [], _, _ => rfl
  | (i, b) :: l, H, k => by rw [layH, hput_eq, layH_eq l]; rfl

def exL : List (Nat × Blk) → Nat → Option Blk
  | [], _ => none
  | (i, b) :: l, x => match exL l x with | some y => some y | none => if i = x then some b else none

theorem over_exL : ∀ {l : List (Nat × Blk)} {H : Heap}, (∀ p ∈ l, p.1 < 32768) → hfn (layP l H) = over (hfn H) (exL l)
  | [], H, _ => by funext x; simp [layP, over, exL]
  | (i, b) :: l, H, h => by
    rw [layP, over_exL (l := l) (fun p hp => h p (by simp [hp])), hfn_put _ _ (h (i, b) (by simp))]
    funext x
    simp only [over, exL, setB]
    cases exL l x with
    | some y => rfl
    | none => by_cases e : i = x <;> simp [e]

theorem exL_mem : ∀ {l : List (Nat × Blk)} {x : Nat} {b : Blk}, exL l x = some b → (x, b) ∈ l
  | [], x, b, h => by simp [exL] at h
  | (i, c) :: l, x, b, h => by
    simp only [exL] at h
    cases e : exL l x with
    | some y => rw [e] at h; simp at h; subst h; simp [exL_mem e]
    | none =>
      rw [e] at h
      by_cases ei : i = x
      · simp [ei] at h; simp [ei, h]
      · simp [ei] at h

theorem exL_none : ∀ {l : List (Nat × Blk)} {x : Nat}, exL l x = none → ∀ b, (x, b) ∉ l
  | [], x, _, b => by simp
  | (i, c) :: l, x, h, b => by
    simp only [exL] at h
    cases e : exL l x with
    | some y => rw [e] at h; simp at h
    | none =>
      rw [e] at h
      have h1 := exL_none e b
      by_cases ei : i = x
      · simp [ei] at h
      · simp [h1, Ne.symm ei]

theorem exs_mem {keep : Nat → Bool} {x : Nat} {b : Blk} : ∀ {l : List Row} {a : Nat}, (x, b) ∈ exs keep a l ↔ ∃ j r, l[j]? = some r ∧ r.blk = some b ∧ r.id = x ∧ keep (a + j) = true
  | [], a => by simp [exs]
  | r :: rs, a => by
    have ih := exs_mem (keep := keep) (x := x) (b := b) (l := rs) (a := a + 1)
    have tail : (∃ j r', rs[j]? = some r' ∧ r'.blk = some b ∧ r'.id = x ∧ keep (a + 1 + j) = true) ↔ ∃ j r', (r :: rs)[j + 1]? = some r' ∧ r'.blk = some b ∧ r'.id = x ∧ keep (a + (j + 1)) = true := by
      simp [Nat.add_assoc, Nat.add_comm 1]
    have split : (∃ j r', (r :: rs)[j]? = some r' ∧ r'.blk = some b ∧ r'.id = x ∧ keep (a + j) = true) ↔ (r.blk = some b ∧ r.id = x ∧ keep a = true) ∨ ∃ j r', (r :: rs)[j + 1]? = some r' ∧ r'.blk = some b ∧ r'.id = x ∧ keep (a + (j + 1)) = true := by
      constructor
      · rintro ⟨j, r', h1, h2⟩
        cases j with
        | zero => simp at h1; subst h1; exact .inl h2
        | succ j => exact .inr ⟨j, r', h1, h2⟩
      · rintro (h | ⟨j, r', h⟩)
        · exact ⟨0, r, by simp, h⟩
        · exact ⟨j + 1, r', h⟩
    rw [split, ← tail, ← ih]
    simp only [exs]
    cases hb : r.blk with
    | none => simp
    | some b' =>
      simp only []
      cases hk : keep a with
      | false => simp [hk]
      | true =>
        simp only [cond_true, List.mem_cons, Prod.mk.injEq, Option.some.injEq, and_true]
        constructor
        · rintro (⟨h1, h2⟩ | h)
          · exact .inl ⟨h2.symm, h1.symm⟩
          · exact .inr h
        · rintro (⟨h1, h2⟩ | h)
          · exact .inl ⟨h2.symm, h1.symm⟩
          · exact .inr h

theorem exs_congr {k1 k2 : Nat → Bool} : ∀ {l : List Row} {a : Nat}, (∀ j, j < l.length → k1 (a + j) = k2 (a + j)) → exs k1 a l = exs k2 a l
  | [], _, _ => rfl
  | r :: rs, a, h => by
    have h0 := h 0 (by simp)
    have ih := exs_congr (k1 := k1) (k2 := k2) (l := rs) (a := a + 1) fun j hj => by have := h (j + 1) (by simpa using hj); rwa [show a + (j + 1) = a + 1 + j from by omega] at this
    simp only [exs, ih]
    rw [show k1 a = k2 a from h0]

theorem exs_append {keep : Nat → Bool} : ∀ {l m : List Row} {a : Nat}, (∀ j, a + l.length ≤ j → keep j = false) → exs keep a (l ++ m) = exs keep a l
  | [], m, a, h => by
    have : ∀ (m : List Row) (a : Nat), (∀ j, a ≤ j → keep j = false) → exs keep a m = [] := by
      intro m
      induction m with
      | nil => intro a _; rfl
      | cons r m ih =>
        intro a h
        simp only [exs, ih (a + 1) (fun j hj => h j (by omega)), h a (Nat.le_refl _)]
        cases r.blk <;> rfl
    simpa [exs] using this m a (by simpa using h)
  | r :: l, m, a, h => by
    simp only [List.cons_append, exs, exs_append (l := l) (m := m) (a := a + 1) (fun j hj => h j (by simp; omega))]

/-- Which rows laid a block, and under which number. -/
structure Ids (n0 n1 : Nat) (R : List Row) : Prop where
  lo : ∀ (a : Nat) (r : Row) (b : Blk), R[a]? = some r → r.blk = some b → n0 ≤ r.id ∧ r.id < n1 ∧ r.id < 32768
  inj : ∀ (a a' : Nat) (r r' : Row) (b b' : Blk), R[a]? = some r → R[a']? = some r' → r.blk = some b → r'.blk = some b' → r.id = r'.id → a = a'

abbrev EX (R : List Row) (keep : Nat → Bool) : Nat → Option Blk := exL (exs keep 0 R)

theorem EX_some {n0 n1 : Nat} {R : List Row} (hi : Ids n0 n1 R) {keep : Nat → Bool} {x : Nat} {b : Blk} : EX R keep x = some b ↔ ∃ a r, R[a]? = some r ∧ r.blk = some b ∧ r.id = x ∧ keep a = true := by
  constructor
  · intro h
    obtain ⟨j, r, h1, h2, h3, h4⟩ := exs_mem.1 (exL_mem h)
    exact ⟨j, r, h1, h2, h3, by simpa using h4⟩
  · rintro ⟨a, r, h1, h2, h3, h4⟩
    have hm : (x, b) ∈ exs keep 0 R := exs_mem.2 ⟨a, r, h1, h2, h3, by simpa using h4⟩
    cases e : EX R keep x with
    | none => exact absurd hm (exL_none e b)
    | some b' =>
      obtain ⟨j, r', g1, g2, g3, _⟩ := exs_mem.1 (exL_mem e)
      have := hi.inj j a r' r b' b g1 h1 g2 h2 (g3.trans h3.symm)
      subst this
      rw [g1] at h1; injection h1 with h1; subst h1
      rw [g2] at h2; exact h2

theorem EX_none {n0 n1 : Nat} {R : List Row} (hi : Ids n0 n1 R) {keep : Nat → Bool} {x : Nat} : EX R keep x = none ↔ ∀ a r b, R[a]? = some r → r.blk = some b → r.id = x → keep a = false := by
  constructor
  · intro h a r b h1 h2 h3
    cases hk : keep a with
    | false => rfl
    | true =>
      have := (EX_some hi).2 ⟨a, r, h1, h2, h3, hk⟩
      rw [h] at this; cases this
  · intro h
    cases e : EX R keep x with
    | none => rfl
    | some b =>
      obtain ⟨a, r, h1, h2, h3, h4⟩ := (EX_some hi).1 e
      rw [h a r b h1 h2 h3] at h4; cases h4

theorem over_or {n0 n1 : Nat} {R : List Row} (hi : Ids n0 n1 R) (h : Nat → Blk) {k1 k2 k : Nat → Bool} (hk : ∀ a r b, R[a]? = some r → r.blk = some b → k a = (k1 a || k2 a)) :
    over (over h (EX R k1)) (EX R k2) = over h (EX R k) := by
  funext x
  cases e2 : EX R k2 x with
  | some b =>
    obtain ⟨a, r, h1, h2, h3, h4⟩ := (EX_some hi).1 e2
    rw [over_some e2, over_some ((EX_some hi).2 ⟨a, r, h1, h2, h3, by rw [hk a r b h1 h2, h4]; simp⟩)]
  | none =>
    rw [over_none e2]
    cases e1 : EX R k1 x with
    | some b =>
      obtain ⟨a, r, h1, h2, h3, h4⟩ := (EX_some hi).1 e1
      rw [over_some e1, over_some ((EX_some hi).2 ⟨a, r, h1, h2, h3, by rw [hk a r b h1 h2, h4]; simp⟩)]
    | none =>
      rw [over_none e1, over_none ((EX_none hi).2 fun a r b h1 h2 h3 => by rw [hk a r b h1 h2, (EX_none hi).1 e1 a r b h1 h2 h3, (EX_none hi).1 e2 a r b h1 h2 h3]; rfl)]

theorem lay_EX {n0 n1 : Nat} {R : List Row} (hi : Ids n0 n1 R) (keep : Nat → Bool) (H : Heap) : hfn (layP (exs keep 0 R) H) = over (hfn H) (EX R keep) :=
  over_exL fun p hp => by
    obtain ⟨j, r, h1, h2, h3, _⟩ := (exs_mem (x := p.1) (b := p.2)).1 hp
    rw [← h3]
    exact (hi.lo j r p.2 h1 h2).2.2

end
end Ev
