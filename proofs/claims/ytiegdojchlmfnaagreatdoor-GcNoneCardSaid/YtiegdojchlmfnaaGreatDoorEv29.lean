/- A part of the proof that GcNone returns true: text Ev29. -/
import Derived.Test.YtiegdojchlmfnaaGreatDoorEv28
namespace Ev
open Go
open Go.RowKit
noncomputable section

/-! ### Every order of a region comes to the same -/

def kp (ms hv : List Nat) (L : Array Bool) (j a : Nat) : Bool := L.getD a false && free ms a (hv.take j)

theorem EX_congr {n0 n1 : Nat} {R : List Row} (hi : Ids n0 n1 R) {k1 k2 : Nat → Bool} (h : ∀ a r b, R[a]? = some r → r.blk = some b → k1 a = k2 a) : EX R k1 = EX R k2 := by
  funext x
  cases e : EX R k2 x with
  | some b =>
    obtain ⟨a, r, h1, h2, h3, h4⟩ := (EX_some hi).1 e
    exact (EX_some hi).2 ⟨a, r, h1, h2, h3, by rw [h a r b h1 h2]; exact h4⟩
  | none => exact (EX_none hi).2 fun a r b h1 h2 h3 => by rw [h a r b h1 h2]; exact (EX_none hi).1 e a r b h1 h2 h3

structure Inv (P : Program) (ops : Array Oper) (ms : List Nat) (env0 : List AV) (n0 n1 : Nat) (R : List Row) (V : List (Heap × Nat)) (hv : List Nat) (S : Start) (L : Array Bool) (j : Nat) (H : Heap) (n : Nat) (a : Act) (w : World) (θ : Theta) : Prop where
  size : L.size = ops.size
  closed : Closed ops L
  ver : ∀ (k q : Nat), hv[k]? = some q → (L.getD q false = true ↔ k < j)
  at_ : V[j]? = some (H, n)
  cnt : n1 ≤ n
  lo : S.n ≤ n0
  core : Core P S (over (hfn H) (EX R (kp ms hv L j))) n a.defers w θ
  none_ : ∀ (x : Nat) (r : Row) (b : Blk), R[x]? = some r → r.blk = some b → L.getD x false = false → θ.blk r.id = none
  dead : ∀ (x : Nat) (r : Row) (b : Blk), R[x]? = some r → r.blk = some b → L.getD x false = true → free ms x (hv.take j) = true → hfn H r.id = .dead
  tmps : Temps ops env0 R L a.tmps θ

section
variable {P : Program} {ops : Array Oper} {ms : List Nat} {env0 : List AV} {H0 : Heap} {n0 n1 : Nat} {R : List Row} {V : List (Heap × Nat)} {hv : List Nat}

theorem anc_lt (g : RegOK P ops ms) {p q : Nat} : anc ms p q = true → p < q := by
  induction q using Nat.strongRecOn with
  | ind q ih =>
    intro h
    obtain ⟨o, ho, e, he, hb, h1⟩ := g.waits p q h
    have := g.back q o ho e he hb
    rcases h1 with rfl | ⟨h1, h2⟩
    · exact this
    · have := ih _ h1 h2; omega

theorem hv_mem {k : Nat} {q : Nat} (h : q ∈ hv.take k) : ∃ m, m < k ∧ hv[m]? = some q := by
  obtain ⟨m, hm⟩ := List.getElem?_of_mem h
  have hlt : m < k := by
    rcases Nat.lt_or_ge m k with h' | h'
    · exact h'
    · rw [List.getElem?_eq_none (by simp; omega)] at hm; cases hm
  rw [List.getElem?_take_of_lt hlt] at hm
  exact ⟨m, hlt, hm⟩

theorem free_of {k i : Nat} (h : ∀ m q, m < k → hv[m]? = some q → anc ms i q = false) : free ms i (hv.take k) = true := by
  unfold free
  rw [List.all_eq_true]
  intro q hq
  obtain ⟨m, hm, e⟩ := hv_mem hq
  rw [h m q hm e]; rfl

theorem free_succ {k i q : Nat} (h : hv[k]? = some q) : free ms i (hv.take (k + 1)) = (free ms i (hv.take k) && !anc ms i q) := by
  unfold free
  have : hv.take (k + 1) = hv.take k ++ [q] := by
    rw [List.take_add_one, h]; rfl
  rw [this, List.all_append]
  simp

theorem Inv.free {S : Start} {L : Array Bool} {j : Nat} {H : Heap} {n : Nat} {a : Act} {w : World} {θ : Theta} (g : Good P ops ms env0 H0 n0 n1 R V hv) (s : Inv P ops ms env0 n0 n1 R V hv S L j H n a w θ) {i : Nat} (hn : L.getD i false = false) : free ms i (hv.take j) = true :=
  free_of fun m q hm hq => by
    cases h : anc ms i q with
    | false => rfl
    | true =>
      have := s.closed.anc g.reg.waits h ((s.ver m q hq).2 hm)
      rw [hn] at this; cases this

theorem Inv.allowed {S : Start} {L : Array Bool} {j : Nat} {H : Heap} {n : Nat} {a : Act} {w : World} {θ : Theta} (g : Good P ops ms env0 H0 n0 n1 R V hv) (s : Inv P ops ms env0 n0 n1 R V hv S L j H n a w θ) {i : Nat} (hr : i ∈ Region.ready .any ops L) : allowed ms hv i j = true := by
  unfold Ev.allowed
  rw [Bool.and_eq_true]
  refine ⟨s.free g (ready_not s.size hr).2, ?_⟩
  rw [List.all_eq_true]
  intro q hq
  obtain ⟨m, hm⟩ := List.getElem?_of_mem hq
  rw [List.getElem?_drop] at hm
  cases h : anc ms q i with
  | false => rfl
  | true =>
    have := (s.ver _ q hm).1 (s.closed.ready g.reg.waits hr h)
    omega

/-- What an operation that is ready sees of the blocks beside, and what it does not. -/
theorem Inv.sees {S : Start} {L : Array Bool} {j : Nat} {H : Heap} {n : Nat} {a : Act} {w : World} {θ : Theta} (g : Good P ops ms env0 H0 n0 n1 R V hv) (s : Inv P ops ms env0 n0 n1 R V hv S L j H n a w θ) {i : Nat} (hr : i ∈ Region.ready .any ops L) :
    over (hfn H) (EX R (kp ms hv L j)) = over (hfn (layP (exs (keepAt ms hv i j) 0 R) H)) (EX R fun x => kp ms hv L j x && !anc ms x i) ∧
    ∀ x b, EX R (fun x => kp ms hv L j x && !anc ms x i) x = some b → hfn (layP (exs (keepAt ms hv i j) 0 R) H) x = .dead := by
  constructor
  · rw [lay_EX g.ids, over_or g.ids]
    intro x r b hx hb
    cases ha : anc ms x i with
    | false => simp [keepAt, ha]
    | true =>
      have h1 := anc_lt g.reg ha
      have h2 := s.closed.ready g.reg.waits hr ha
      have h3 : Nat.blt x i = true := by simp [Nat.blt_eq, h1]
      simp [keepAt, kp, ha, h2, h3]
  · intro x b hx
    obtain ⟨y, r, h1, h2, h3, h4⟩ := (EX_some g.ids).1 hx
    simp only [Bool.and_eq_true, Bool.not_eq_true'] at h4
    rw [lay_EX g.ids, over_none ((EX_none g.ids).2 fun y' r' b' g1 g2 g3 => ?_)]
    · rw [← h3]
      have := h4.1
      simp only [kp, Bool.and_eq_true] at this
      exact s.dead y r b h1 h2 this.1 this.2
    · have := g.ids.inj y y' r r' b b' h1 g1 h2 g2 (h3.trans g3.symm)
      subst this
      simp [keepAt, h4.2]

theorem Inv.opd {S : Start} {L : Array Bool} {j : Nat} {H : Heap} {n : Nat} {a : Act} {w : World} {θ : Theta} (g : Good P ops ms env0 H0 n0 n1 R V hv) (s : Inv P ops ms env0 n0 n1 R V hv S L j H n a w θ) {i : Nat} (hr : i ∈ Region.ready .any ops L) {o : Oper} {r : Row} (ho : ops[i]? = some o) (hR : R[i]? = some r) : Opd P θ r.env o a :=
  fun x hx => ev_ok s.core.glob x fun t ht => s.tmps.at g.reg s.size g.rows s.closed ho hr (g.env i r hR) (looks_op (by rw [← ht]; exact hx))

/-- One who is not heavy is listed. -/
theorem Inv.light {S : Start} {L : Array Bool} {j : Nat} {H : Heap} {n : Nat} {a : Act} {w w' : World} {θ θ' : Theta} (g : Good P ops ms env0 H0 n0 n1 R V hv) (s : Inv P ops ms env0 n0 n1 R V hv S L j H n a w θ) {i : Nat} (hr : i ∈ Region.ready .any ops L) {o : Oper} {r : Row} (ho : ops[i]? = some o) (hR : R[i]? = some r) (hc : cls P o < 3)
    {v : Value} (hv' : VR θ' r.v v) (le : θ.le θ') (core : Core P S (over (hfn H) (EX R (kp ms hv (L.setIfInBounds i true) j))) n a.defers w' θ')
    (hno : ∀ (x : Nat) (r' : Row) (b : Blk), R[x]? = some r' → r'.blk = some b → x ≠ i → θ.blk r'.id = none → θ'.blk r'.id = none) :
    Inv P ops ms env0 n0 n1 R V hv S (L.setIfInBounds i true) j H n (a.put o.dst v) w' θ' := by
  obtain ⟨hi, hn⟩ := ready_not s.size hr
  have hnot : ∀ k, hv[k]? ≠ some i := fun k hk => by
    obtain ⟨o', ho', h3⟩ := g.hvc k i hk
    rw [ho] at ho'; injection ho' with ho'; subst ho'; omega
  refine ⟨by simp [s.size], s.closed.set hr, fun k q hq => ?_, s.at_, s.cnt, s.lo, by rw [put_defers]; exact core, fun x r' b hx hb hx' => ?_, fun x r' b hx hb hx' hf => ?_, s.tmps.put g.reg s.size le ho hR hn hv'⟩
  · rw [← s.ver k q hq]
    constructor
    · intro h
      rcases getD_set_of h with rfl | h
      · exact absurd hq (hnot k)
      · exact h
    · exact getD_set_in
  · have hxi : x ≠ i := by
      rintro rfl
      rw [getD_set_same (by rw [s.size]; exact hi)] at hx'; cases hx'
    have : L.getD x false = false := by
      cases h : L.getD x false with
      | false => rfl
      | true => rw [getD_set_in h] at hx'; cases hx'
    exact hno x r' b hx hb hxi (s.none_ x r' b hx hb this)
  · rcases getD_set_of hx' with rfl | h
    · have h0 := s.none_ x r' b hx hb hn
      have h1 := s.core.went.rel.dead_of_none h0
      cases e : EX R (kp ms hv L j) r'.id with
      | none => rwa [over_none e] at h1
      | some c =>
        obtain ⟨y, ry, g1, g2, g3, g4⟩ := (EX_some g.ids).1 e
        have := g.ids.inj y x ry r' c b g1 hx g2 hb g3
        subst this
        simp [kp, hn] at g4
    · exact s.dead x r' b hx hb h hf

/-- A heavy one is listed. -/
theorem Inv.next {S : Start} {L : Array Bool} {j : Nat} {H H' : Heap} {n n' : Nat} {a : Act} {w w' : World} {θ θ' : Theta} (g : Good P ops ms env0 H0 n0 n1 R V hv) (s : Inv P ops ms env0 n0 n1 R V hv S L j H n a w θ) {i : Nat} (hr : i ∈ Region.ready .any ops L) {o : Oper} {r : Row} (ho : ops[i]? = some o) (hR : R[i]? = some r)
    (hk : hv[j]? = some i) (hV' : V[j + 1]? = some (H', n')) (hb : r.blk = none) {v : Value} (hv' : VR θ' r.v v) (went : Went P θ (hfn (layP (exs (keepAt ms hv i j) 0 R) H)) n S.B w θ' (hfn H') n' w') :
    Inv P ops ms env0 n0 n1 R V hv S (L.setIfInBounds i true) (j + 1) H' n' (a.put o.dst v) w' θ' := by
  obtain ⟨hi, hn⟩ := ready_not s.size hr
  obtain ⟨e1, e2⟩ := s.sees g hr
  have hrel := s.core.went.rel
  rw [e1] at hrel
  have went := Went.over hrel e2 went
  have hne : ∀ (x : Nat) (r' : Row) (b : Blk), R[x]? = some r' → r'.blk = some b → x ≠ i := fun x r' b hx hxb e => by
    subst e; rw [hR] at hx; injection hx with hx; subst hx; rw [hb] at hxb; cases hxb
  have mono : ∀ (x : Nat), x ≠ i → (L.setIfInBounds i true).getD x false = L.getD x false := fun x hx => by
    cases h : L.getD x false with
    | true => exact getD_set_in h
    | false =>
      cases h' : (L.setIfInBounds i true).getD x false with
      | false => rfl
      | true => rcases getD_set_of h' with e | h'; exact absurd e hx; rw [h] at h'; cases h'
  have e3 : (EX R fun x => kp ms hv L j x && !anc ms x i) = EX R (kp ms hv (L.setIfInBounds i true) (j + 1)) := EX_congr g.ids fun x r' b hx hxb => by
    simp only [kp, free_succ hk, mono x (hne x r' b hx hxb), Bool.and_assoc]
  rw [← e1, e3] at went
  refine ⟨by simp [s.size], s.closed.set hr, fun k q hq => ?_, hV', Nat.le_trans s.cnt went.num, s.lo, by rw [put_defers]; exact s.core.step went, fun x r' b hx hxb hx' => ?_, fun x r' b hx hxb hx' hf => ?_, s.tmps.put g.reg s.size went.le ho hR hn hv'⟩
  · by_cases hkj : k = j
    · subst hkj
      rw [hk] at hq; injection hq with hq; subst hq
      simp [getD_set_same (show i < L.size by rw [s.size]; exact hi)]
    · have hqi : q ≠ i := by
        rintro rfl
        rcases Nat.lt_or_ge k j with h' | h'
        · have := g.hvo k j q q h' hq hk; omega
        · have := g.hvo j k q q (by omega) hk hq; omega
      rw [mono q hqi, s.ver k q hq]
      omega
  · have hxi := hne x r' b hx hxb
    rw [mono x hxi] at hx'
    rw [went.old _ (Nat.lt_of_lt_of_le (g.ids.lo x r' b hx hxb).2.1 s.cnt)]
    exact s.none_ x r' b hx hxb hx'
  · have hxi := hne x r' b hx hxb
    rw [mono x hxi] at hx'
    refine g.dead x r' b j i H' n' hx hxb hk hV' hf ?_
    cases h : anc ms i x with
    | false => rfl
    | true =>
      have := s.closed.anc g.reg.waits h hx'
      rw [hn] at this; cases this

/-- An operation that is ready is carried out. -/
theorem Inv.op {S : Start} {L : Array Bool} {j : Nat} {H : Heap} {n : Nat} {a : Act} {w : World} {θ : Theta} (g : Good P ops ms env0 H0 n0 n1 R V hv) (s : Inv P ops ms env0 n0 n1 R V hv S L j H n a w θ) {i : Nat} (hr : i ∈ Region.ready .any ops L)
    {Fe : Fence} {m : Nat} {K : Act → World → Prop} {Q : Exit → Act → World → Prop} (hL : LooseR Fe) (hK : ∀ j' H' n' a' w' θ', Inv P ops ms env0 n0 n1 R V hv S (L.setIfInBounds i true) j' H' n' a' w' θ' → K a' w') : wpOpIn Fe m P ops Q i K a w := by
  obtain ⟨hi, hn⟩ := ready_not s.size hr
  have ho : ops[i]? = some ops[i] := by simp [hi]
  have hR : R[i]? = some (R[i]'(by rw [g.rows]; exact hi)) := List.getElem?_eq_getElem (by rw [g.rows]; exact hi)
  generalize ops[i] = o at ho
  generalize R[i]'(by rw [g.rows]; exact hi) = r at hR
  have hopd := s.opd g hr ho hR
  have hwant : ∀ t, GW ops r.env o t → Region.wanted o (yielded ops a.tmps) = t := fun t ht => wanted_of ht (g.env i r hR).len s.tmps.len fun x hx => s.tmps.at g.reg s.size g.rows s.closed ho hr (g.env i r hR) hx
  have noblk : r.blk = none → EX R (kp ms hv (L.setIfInBounds i true) j) = EX R (kp ms hv L j) := fun hb => EX_congr g.ids fun x r' b hx hxb => by
    have hxi : x ≠ i := fun e => by subst e; rw [hR] at hx; injection hx with hx; subst hx; rw [hb] at hxb; cases hxb
    have : (L.setIfInBounds i true).getD x false = L.getD x false := by
      cases h : L.getD x false with
      | true => exact getD_set_in h
      | false =>
        cases h' : (L.setIfInBounds i true).getD x false with
        | false => rfl
        | true => rcases getD_set_of h' with e | h'; exact absurd e hxi; rw [h] at h'; cases h'
    simp only [kp, this]
  have isj : ∀ k, hv[k]? = some i → k = j := fun k hk => by
    have h1 : ¬ k < j := fun h => by have := (s.ver k i hk).2 h; rw [hn] at this; cases this
    rcases Nat.lt_or_ge j k with h' | h'
    · have hj : j < hv.length := by
        rcases Nat.lt_or_ge k hv.length with h'' | h''
        · omega
        · rw [List.getElem?_eq_none h''] at hk; cases hk
      have hq : hv[j]? = some hv[j] := List.getElem?_eq_getElem hj
      obtain ⟨o1, ho1, h3⟩ := g.hvc j _ hq
      obtain ⟨o2, ho2, h4⟩ := g.hvc k i hk
      have := g.reg.heavies _ i o1 o2 ho1 ho2 (g.hvo j k _ i h' hq hk) h3 h4
      have := (s.ver j _ hq).1 (s.closed.ready g.reg.waits hr this)
      omega
    · omega
  unfold wpOpIn
  simp only [ho]
  have skipped : GW ops r.env o false → K (a.put o.dst undef) w → if Region.wanted o (yielded ops a.tmps) then o.wpIn Fe m P a w K Q else (∀ f, o.about P w a.eval = some f → Fe.fn f) ∧ K (a.put o.dst undef) w := fun hg hk => by
    rw [hwant _ hg]
    exact ⟨fun f _ => hL.fn f, hk⟩
  have same : r.blk = none → Core P S (over (hfn H) (EX R (kp ms hv (L.setIfInBounds i true) j))) n a.defers w θ := fun hb => by rw [noblk hb]; exact s.core
  cases g.step i o r ho hR with
  | pure hc hb hg hs =>
    rw [hwant _ hg, if_pos rfl]
    obtain ⟨v', h1, h2⟩ := hs θ a w hopd
    exact goes_of_yields (.inl h1) hL (hK _ _ _ _ _ _ (s.light g hr ho hR hc h2 (Theta.le_refl _) (same hb) (fun _ _ _ _ _ _ h => h)))
  | read hc hb hg hs =>
    rw [hwant _ hg, if_pos rfl]
    obtain ⟨e1, e2⟩ := s.sees g hr
    have hrel := s.core.went.rel
    rw [e1] at hrel
    obtain ⟨v', h1, h2⟩ := hs j H n s.at_ (s.allowed g hr) θ a w S.B (hrel.under e2) hopd
    exact goes_of_yields (.inl h1) hL (hK _ _ _ _ _ _ (s.light g hr ho hR hc h2 (Theta.le_refl _) (same hb) (fun _ _ _ _ _ _ h => h)))
  | alloc hc b hb hg hs =>
    rw [hwant _ hg, if_pos rfl]
    have hno := s.none_ i r b hR hb hn
    obtain ⟨l1, l2, l3⟩ := g.ids.lo i r b hR hb
    obtain ⟨v', ob, sz, w', h1, h2, h3, h4, h5, h6, h7⟩ := hs θ a w S.B _ s.core.went.rel hno s.core.room hopd
    have hid : r.id < n := Nat.lt_of_lt_of_le l2 s.cnt
    have hwent := went_new s.core.went.rel s.core.went.fresh hno hid h2 h3 h4 h5 h6 s.core.went (Nat.le_trans s.lo l1)
    have hone : Went P θ (over (hfn H) (EX R (kp ms hv L j))) n S.B w (θ.add r.id ⟨w.heap.size, 0, sz⟩) (setB (over (hfn H) (EX R (kp ms hv L j))) r.id b) (n + 1) w' ∨ True := .inr trivial
    have heq : setB (over (hfn H) (EX R (kp ms hv L j))) r.id b = over (hfn H) (EX R (kp ms hv (L.setIfInBounds i true) j)) := by
      have e1 : setB (over (hfn H) (EX R (kp ms hv L j))) r.id b = over (over (hfn H) (EX R (kp ms hv L j))) (EX R fun x => Nat.beq x i) := by
        funext x
        by_cases e : r.id = x
        · subst e
          rw [over_some ((EX_some g.ids).2 ⟨i, r, hR, hb, rfl, by simp⟩)]
          simp [setB]
        · rw [over_none ((EX_none g.ids).2 fun y r' b' g1 g2 g3 => ?_)]
          · simp [setB, e]
          · cases hy : Nat.beq y i with
            | false => rfl
            | true =>
              have := Nat.eq_of_beq_eq_true hy
              subst this
              rw [hR] at g1; injection g1 with g1; subst g1
              exact absurd g3 e
      rw [e1]
      refine over_or g.ids _ fun x r' b' hx hxb => ?_
      by_cases e : x = i
      · subst e
        simp [kp, getD_set_same (show x < L.size by rw [s.size]; exact hi), s.free g hn]
      · have hb0 : Nat.beq x i = false := by
          cases hb0 : Nat.beq x i with
          | false => rfl
          | true => exact absurd (Nat.eq_of_beq_eq_true hb0) e
        have : (L.setIfInBounds i true).getD x false = L.getD x false := by
          cases h : L.getD x false with
          | true => exact getD_set_in h
          | false =>
            cases h' : (L.setIfInBounds i true).getD x false with
            | false => rfl
            | true => rcases getD_set_of h' with e' | h'; exact absurd e' e; rw [h] at h'; cases h'
        simp only [kp, this, hb0, Bool.or_false]
    rw [heq] at hwent
    have hdefs : MarksOK S.lo (θ.add r.id ⟨w.heap.size, 0, sz⟩) (over (hfn H) (EX R (kp ms hv (L.setIfInBounds i true) j))) w' a.defers := by
      obtain ⟨rs, e, hnd, hrs⟩ := s.core.defs
      refine ⟨rs, e, hnd, fun q hq => ?_⟩
      obtain ⟨g1, g2, g3⟩ := hrs q hq
      have hlt := lt_of_heap g2
      refine ⟨g1, ?_, fun x l hx hl el => ?_⟩
      · rw [h2, Array.getElem?_push_lt hlt, ← Array.getElem?_eq_getElem hlt]; exact g2
      · rw [← heq] at hx
        by_cases ex : r.id = x
        · subst ex
          rw [Theta.add_self] at hl
          injection hl with hl
          subst hl
          simp only at el
          omega
        · simp only [setB, if_neg ex] at hx
          have hl' : θ.blk x = some l := by
            have : (θ.add r.id ⟨w.heap.size, 0, sz⟩).blk x = θ.blk x := by
              show (if r.id = x then _ else θ.blk x) = _
              rw [if_neg ex]
            rw [← this]; exact hl
          exact g3 x l hx hl' el
    exact goes_of_yields (.inl h1) hL (hK _ _ _ _ _ _ (s.light g hr ho hR hc h7 (Theta.le_add hno _) ⟨s.core.low, hwent, s.core.glob.le (Theta.le_add hno _), hdefs⟩ (fun x r' b' hx hxb hxi h => by
      have hne : r.id ≠ r'.id := fun e => hxi (g.ids.inj x i r' r b' b hx hR hxb hb e.symm)
      show (if r.id = r'.id then _ else θ.blk r'.id) = none
      rw [if_neg hne]; exact h)))
  | skip hc hb hg hv0 =>
    refine skipped hg (hK _ _ _ _ _ _ (s.light g hr ho hR hc (.inr (by rw [hv0]; simp [Ev.conc, concs, undef])) (Theta.le_refl _) ?_ (fun _ _ _ _ _ _ h => h)))
    have heq : over (hfn H) (EX R (kp ms hv (L.setIfInBounds i true) j)) = over (hfn H) (EX R (kp ms hv L j)) := by
      cases hrb : r.blk with
      | none => rw [noblk hrb]
      | some b =>
        have hbd := hb b hrb
        subst hbd
        have hno := s.none_ i r _ hR hrb hn
        have hd := s.core.went.rel.dead_of_none hno
        have e1 : over (hfn H) (EX R (kp ms hv (L.setIfInBounds i true) j)) = over (over (hfn H) (EX R (kp ms hv L j))) (EX R fun x => Nat.beq x i) := by
          symm
          refine over_or g.ids _ fun x r' b' hx hxb => ?_
          by_cases e : x = i
          · subst e
            simp [kp, getD_set_same (show x < L.size by rw [s.size]; exact hi), s.free g hn]
          · have hb0 : Nat.beq x i = false := by
              cases hb0 : Nat.beq x i with
              | false => rfl
              | true => exact absurd (Nat.eq_of_beq_eq_true hb0) e
            have : (L.setIfInBounds i true).getD x false = L.getD x false := by
              cases h : L.getD x false with
              | true => exact getD_set_in h
              | false =>
                cases h' : (L.setIfInBounds i true).getD x false with
                | false => rfl
                | true => rcases getD_set_of h' with e' | h'; exact absurd e' e; rw [h] at h'; cases h'
            simp only [kp, this, hb0, Bool.or_false]
        rw [e1]
        funext x
        cases e2 : EX R (fun x => Nat.beq x i) x with
        | none => rw [over_none e2]
        | some c =>
          obtain ⟨y, ry, g1, g2, g3, g4⟩ := (EX_some g.ids).1 e2
          have := Nat.eq_of_beq_eq_true g4
          subst this
          rw [hR] at g1; injection g1 with g1; subst g1
          rw [hrb] at g2; injection g2 with g2; subst g2
          subst g3
          rw [over_some e2, hd]
    rw [heq]; exact s.core
  | heavy k Hk nk H' n' hk hV hV' hb hg hs =>
    rw [hwant _ hg, if_pos rfl]
    have := isj k hk
    subst this
    rw [s.at_] at hV; injection hV with hV; injection hV with e1 e2; subst e1; subst e2
    obtain ⟨e1, e2⟩ := s.sees g hr
    have hrel := s.core.went.rel
    rw [e1] at hrel
    refine hs Fe m θ a w S.B K Q hL (hrel.under e2) s.core.went.fresh s.core.room s.core.glob hopd fun v' w' θ' hwent hv' => ?_
    exact hK _ _ _ _ _ _ (s.next g hr ho hR hk hV' hb hv' hwent)
  | skipH k Hk nk hk hV hV' hb hg hv0 =>
    have := isj k hk
    subst this
    rw [s.at_] at hV; injection hV with hV; injection hV with e1 e2; subst e1; subst e2
    obtain ⟨e1, e2⟩ := s.sees g hr
    have hrel := s.core.went.rel
    rw [e1] at hrel
    exact skipped hg (hK _ _ _ _ _ _ (s.next g hr ho hR hk hV' hb (.inr (by rw [hv0]; simp [Ev.conc, concs, undef])) (Went.refl (hrel.under e2) s.core.went.fresh)))

end
end
end Ev
