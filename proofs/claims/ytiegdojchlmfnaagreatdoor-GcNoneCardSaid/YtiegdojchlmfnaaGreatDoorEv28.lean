/- A part of the proof that GcNone returns true: text Ev28. -/
import Derived.Test.YtiegdojchlmfnaaGreatDoorEv27
namespace Ev
open Go
open Go.RowKit
noncomputable section

/-! ### A region that draws its order: what must be known of it -/

def GW (ops : Array Oper) (env : List AV) (o : Oper) (t : Bool) : Prop :=
  match o.guard with
  | none => t = true
  | some (j, want) => (∃ b, gdOf ops env j = .bool b ∧ (b == want) = t) ∨ (t = false ∧ ∃ l, gdOf ops env j = .tup l)

def allowed (ms hv : List Nat) (i j : Nat) : Bool := (hv.take j).all (fun q => !anc ms i q) && (hv.drop j).all (fun q => !anc ms q i)

inductive StepOK (P : Program) (ops : Array Oper) (ms : List Nat) (R : List Row) (V : List (Heap × Nat)) (hv : List Nat) (i : Nat) (o : Oper) (r : Row) : Prop where
  | pure (hc : cls P o < 3) (hb : r.blk = none) (hg : GW ops r.env o true) (hs : PureSpec P r.env o r.v)
  | read (hc : cls P o < 3) (hb : r.blk = none) (hg : GW ops r.env o true)
      (hs : ∀ j H n, V[j]? = some (H, n) → allowed ms hv i j = true → ReadSpec P r.env o (layP (exs (keepAt ms hv i j) 0 R) H) r.v)
  | alloc (hc : cls P o < 3) (b : Blk) (hb : r.blk = some b) (hg : GW ops r.env o true) (hs : AllocSpec P r.env o r.id r.v b)
  | skip (hc : cls P o < 3) (hb : ∀ b, r.blk = some b → b = .dead) (hg : GW ops r.env o false) (hv : r.v = .tup [])
  | heavy (k : Nat) (H : Heap) (n : Nat) (H' : Heap) (n' : Nat) (hk : hv[k]? = some i) (hV : V[k]? = some (H, n)) (hV' : V[k + 1]? = some (H', n')) (hb : r.blk = none) (hg : GW ops r.env o true)
      (hs : OpGoes P r.env o (layP (exs (keepAt ms hv i k) 0 R) H) n r.v H' n')
  | skipH (k : Nat) (H : Heap) (n : Nat) (hk : hv[k]? = some i) (hV : V[k]? = some (H, n)) (hV' : V[k + 1]? = some (layP (exs (keepAt ms hv i k) 0 R) H, n)) (hb : r.blk = none) (hg : GW ops r.env o false) (hv : r.v = .tup [])

structure EnvAt (ops : Array Oper) (env0 : List AV) (R : List Row) (i : Nat) (env : List AV) : Prop where
  len : env.length = env0.length
  wrote : ∀ (j : Nat) (o : Oper) (r : Row) (t : Nat), j < i → ops[j]? = some o → R[j]? = some r → o.dst = some t → t < env0.length → env.getD t .bad = r.v
  old : ∀ (t : Nat), (∀ (j : Nat) (o : Oper), j < i → ops[j]? = some o → o.dst ≠ some t) → env.getD t .bad = env0.getD t .bad

structure Good (P : Program) (ops : Array Oper) (ms : List Nat) (env0 : List AV) (H0 : Heap) (n0 n1 : Nat) (R : List Row) (V : List (Heap × Nat)) (hv : List Nat) : Prop where
  reg : RegOK P ops ms
  num : n0 ≤ n1
  ids : Ids n0 n1 R
  rows : R.length = ops.size
  env : ∀ (i : Nat) (r : Row), R[i]? = some r → EnvAt ops env0 R i r.env
  step : ∀ (i : Nat) (o : Oper) (r : Row), ops[i]? = some o → R[i]? = some r → StepOK P ops ms R V hv i o r
  hvc : ∀ (k q : Nat), hv[k]? = some q → ∃ o, ops[q]? = some o ∧ 3 ≤ cls P o
  hvo : ∀ (k l q q' : Nat), k < l → hv[k]? = some q → hv[l]? = some q' → q < q'
  v0 : V[0]? = some (H0, n1)
  vl : V.length = hv.length + 1
  dead : ∀ (a : Nat) (r : Row) (b : Blk) (j q : Nat) (H : Heap) (n : Nat), R[a]? = some r → r.blk = some b → hv[j]? = some q → V[j + 1]? = some (H, n) → free ms a (hv.take (j + 1)) = true → anc ms q a = false → hfn H r.id = .dead

/-- Where a call stands, memory being what you like. -/
structure Core (P : Program) (S : Start) (h : Nat → Blk) (n : Nat) (ds : List Deferred) (w : World) (θ : Theta) : Prop where
  low : S.B ≤ S.w.heap.size
  went : Went P S.θ S.h S.n S.B S.w θ h n w
  glob : GlobOK P θ
  defs : MarksOK S.lo θ h w ds

theorem Core.step {P : Program} {S : Start} {h h' : Nat → Blk} {n n' : Nat} {ds : List Deferred} {w w' : World} {θ θ' : Theta} (c : Core P S h n ds w θ) (k : Went P θ h n S.B w θ' h' n' w') : Core P S h' n' ds w' θ' :=
  ⟨c.low, c.went.trans k, c.glob.le k.le, c.defs.went k⟩

theorem Core.room {P : Program} {S : Start} {h : Nat → Blk} {n : Nat} {ds : List Deferred} {w : World} {θ : Theta} (c : Core P S h n ds w θ) : S.B ≤ w.heap.size := Nat.le_trans c.low c.went.frm.size

theorem put_defers (a : Act) (d : Option Tmp) (v : Value) : (a.put d v).defers = a.defers := by cases d <;> rfl

theorem Went.upto {P : Program} {θ θ' : Theta} {h h' : Nat → Blk} {n n' m B : Nat} {w w' : World} (k : Went P θ h n B w θ' h' n' w') (hm : n' ≤ m) : Went P θ h n B w θ' h' m w' :=
  ⟨k.le, Nat.le_trans k.num hm, k.old, k.rel, fun b hb => k.fresh b (Nat.le_trans hm hb), k.frm, k.grows⟩

theorem Went.drawn {P : Program} {θ θ' : Theta} {h h' : Nat → Blk} {n n' B : Nat} {w w' : World} (k : Went P θ h n B w θ' h' n' w') (d : Nat) : Went P θ h n B w θ' h' n' { w' with drawn := d } :=
  ⟨k.le, k.num, k.old, k.rel.keep (Theta.le_refl _) (Nat.le_refl _) (fun _ _ _ _ => rfl), k.fresh, ⟨k.frm.os, k.frm.tape, k.frm.output, k.frm.size, k.frm.block⟩, k.grows⟩

theorem MarksOK.drawn {lo : Nat} {θ : Theta} {h : Nat → Blk} {w : World} {ds : List Deferred} (m : MarksOK lo θ h w ds) (d : Nat) : MarksOK lo θ h { w with drawn := d } ds := m

/-- One new block, under a number of its own. -/
theorem went_new {P : Program} {θ : Theta} {h : Nat → Blk} {n id B : Nat} {w w' : World} (r : HRel P θ h B w) (f : Fresh θ n) (hi : θ.blk id = none) (hid : id < n) {ob : Obj} {b : Blk} {sz : Nat}
    (hh : w'.heap = w.heap.push ob) (ho : w'.os = w.os) (ht : w'.tape = w.tape) (hu : w'.output = w.output)
    (hb : BRel P (θ.add id ⟨w.heap.size, 0, sz⟩) B (w.alloc ob) ⟨w.heap.size, 0, sz⟩ b) {θ0 : Theta} {h0 : Nat → Blk} {n0 : Nat} {w0 : World} (k : Went P θ0 h0 n0 B w0 θ h n w) (hlo : n0 ≤ id) :
    Went P θ0 h0 n0 B w0 (θ.add id ⟨w.heap.size, 0, sz⟩) (setB h id b) n w' := by
  have hh' : w'.heap = (w.alloc ob).heap := hh
  have fr : Frm θ h w w' := by
    have := Frm.alloc θ h w ob
    exact ⟨ho, ht, hu, by rw [hh']; exact this.size, fun k hk hn => by rw [hh']; exact this.block k hk hn⟩
  refine ⟨Theta.le_trans k.le (Theta.le_add hi _), k.num, fun x hx => ?_, ?_, f.add (Nat.le_refl _) hid, k.frm.trans fr k.grows, k.grows.trans k.frm.size (Grows.add r id b sz)⟩
  · show (if id = x then _ else θ.blk x) = _
    rw [if_neg (by omega)]
    exact k.old x hx
  · exact (r.alloc hi ob b sz hb).keep (Theta.le_refl _) (by rw [hh']; exact Nat.le_refl _) (fun x l _ _ => by rw [hh'])

/-! ### Temporaries -/

structure Temps (ops : Array Oper) (env0 : List AV) (R : List Row) (L : Array Bool) (tmps : Array Value) (θ : Theta) : Prop where
  wrote : ∀ (i : Nat) (o : Oper) (r : Row) (t : Nat), L.getD i false = true → ops[i]? = some o → R[i]? = some r → o.dst = some t → t < env0.length → VR θ r.v (tmps.getD t undef)
  old : ∀ (t : Nat), (∀ (i : Nat) (o : Oper), L.getD i false = true → ops[i]? = some o → o.dst ≠ some t) → VR θ (env0.getD t .bad) (tmps.getD t undef)
  len : env0.length ≤ tmps.size

theorem Temps.put {P : Program} {ops : Array Oper} {ms : List Nat} {env0 : List AV} {R : List Row} {L : Array Bool} {a : Act} {θ θ' : Theta} (g : RegOK P ops ms) (hL : L.size = ops.size) (t : Temps ops env0 R L a.tmps θ) (k : θ.le θ') {i : Nat} {o : Oper} {r : Row} (ho : ops[i]? = some o) (hr : R[i]? = some r)
    (hn : L.getD i false = false) {v : Value} (hv : VR θ' r.v v) : Temps ops env0 R (L.setIfInBounds i true) (a.put o.dst v).tmps θ' := by
  have hi : i < ops.size := by
    rcases Nat.lt_or_ge i ops.size with h' | h'
    · exact h'
    · rw [Array.getElem?_eq_none h'] at ho; cases ho
  have same : ∀ s, o.dst ≠ some s → (a.put o.dst v).tmps.getD s undef = a.tmps.getD s undef := by
    intro s hs
    cases hd : o.dst with
    | none => rfl
    | some d =>
      have : d ≠ s := fun e => hs (by rw [hd, e])
      simp [Act.put, Array.getD_eq_getD_getElem?, Array.getElem?_setIfInBounds, this]
  have self : ∀ s, o.dst = some s → s < a.tmps.size → (a.put o.dst v).tmps.getD s undef = v := by
    intro s hs hlt
    simp [hs, Act.put, Array.getD_eq_getD_getElem?, hlt]
  refine ⟨fun j oj rj s hj hoj hrj hs hlt => ?_, fun s hs => ?_, ?_⟩
  · by_cases hd : o.dst = some s
    · have := g.once i j o oj s ho hoj hd hs
      subst this
      rw [hr] at hrj; injection hrj with hrj; subst hrj
      rw [self s hd (Nat.lt_of_lt_of_le hlt t.len)]
      exact hv
    · rw [same s hd]
      rcases getD_set_of hj with rfl | hj
      · rw [ho] at hoj; injection hoj with hoj; subst hoj; exact absurd hs hd
      · exact (t.wrote j oj rj s hj hoj hrj hs hlt).le k
  · have hd : o.dst ≠ some s := hs i o (getD_set_same (by omega)) ho
    rw [same s hd]
    exact (t.old s fun j oj hj hoj => hs j oj (getD_set_in hj) hoj).le k
  · cases o.dst <;> simpa [Act.put] using t.len

theorem Temps.at {P : Program} {ops : Array Oper} {ms : List Nat} {env0 : List AV} {R : List Row} {L : Array Bool} {tmps : Array Value} {θ : Theta} (g : RegOK P ops ms) (hL : L.size = ops.size) (hR : R.length = ops.size) (hc : Closed ops L) (t : Temps ops env0 R L tmps θ) {i : Nat} {o : Oper} {env : List AV}
    (ho : ops[i]? = some o) (hr : i ∈ Region.ready .any ops L) (e : EnvAt ops env0 R i env) {s : Nat} (hs : s ∈ o.looksAt ops) : VR θ (env.getD s .bad) (tmps.getD s undef) := by
  obtain ⟨hi, hn⟩ := ready_not hL hr
  by_cases hlt : s < env0.length
  · by_cases hw : ∃ (j : Nat) (oj : Oper), ops[j]? = some oj ∧ oj.dst = some s
    · obtain ⟨j, oj, hoj, hd⟩ := hw
      have hj : j < ops.size := by
        rcases Nat.lt_or_ge j ops.size with h' | h'
        · exact h'
        · rw [Array.getElem?_eq_none h'] at hoj; cases hoj
      by_cases hji : j < i
      · have ha := g.before i j o oj s ho hoj hji hd hs
        have hLj := hc.ready g.waits hr ha
        have hrj : R[j]? = some R[j] := List.getElem?_eq_getElem (by omega)
        rw [e.wrote j oj _ s hji hoj hrj hd hlt]
        exact t.wrote j oj _ s hLj hoj hrj hd hlt
      · have hLj : L.getD j false = false := by
          rcases Nat.lt_or_ge i j with h' | h'
          · cases hl : L.getD j false with
            | false => rfl
            | true =>
              have := hc.anc g.waits (g.behind i j o oj s ho hoj h' hd hs) hl
              rw [hn] at this; cases this
          · have : j = i := by omega
            subst this; exact hn
        rw [e.old s fun k ok hk hok hkd => by have := g.once k j ok oj s hok hoj hkd hd; omega]
        exact t.old s fun k ok hk hok hkd => by
          have := g.once k j ok oj s hok hoj hkd hd
          subst this
          rw [hLj] at hk; cases hk
    · rw [e.old s fun j oj _ hoj hd => hw ⟨j, oj, hoj, hd⟩]
      exact t.old s fun j oj _ hoj hd => hw ⟨j, oj, hoj, hd⟩
  · left
    rw [List.getD_eq_getElem?_getD, List.getElem?_eq_none (by rw [e.len]; omega)]
    rfl

theorem looks_op {ops : Array Oper} {o : Oper} {t : Nat} (h : Operand.tmp t ∈ o.op.operands) : t ∈ o.looksAt ops := by
  unfold Oper.looksAt
  exact List.mem_append_left _ (List.mem_filterMap.2 ⟨.tmp t, by simpa using h, rfl⟩)

theorem looks_guard {ops : Array Oper} {o : Oper} {j t : Nat} {want : Bool} (h : o.guard = some (j, want)) (ht : (ops[j]?).bind (·.dst) = some t) : t ∈ o.looksAt ops := by
  unfold Oper.looksAt
  rw [h]
  refine List.mem_append_right _ ?_
  simp only [ht]
  simp

theorem wanted_of {ops : Array Oper} {env env0 : List AV} {o : Oper} {t : Bool} {tmps : Array Value} {θ : Theta} (hg : GW ops env o t) (hl : env.length = env0.length) (hle : env0.length ≤ tmps.size) (h : ∀ s ∈ o.looksAt ops, VR θ (env.getD s .bad) (tmps.getD s undef)) :
    Region.wanted o (yielded ops tmps) = t := by
  unfold GW at hg
  cases hgd : o.guard with
  | none => rw [hgd] at hg; simp only at hg; subst hg; simp [Region.wanted, hgd]
  | some p =>
    obtain ⟨j, want⟩ := p
    rw [hgd] at hg
    simp only at hg
    rcases hg with ⟨b, hb, hbt⟩ | ⟨rfl, l, hl2⟩
    rotate_left
    · have hy : yielded ops tmps j = none := by
        unfold gdOf at hl2
        unfold yielded
        cases hd : (ops[j]?).bind (·.dst) with
        | none => rfl
        | some d =>
          simp only [hd] at hl2
          have hv := h d (looks_guard hgd hd)
          rw [hl2] at hv
          obtain ⟨vs, _, hv⟩ := hv.tup
          simp only [Option.bind_some]
          rcases Nat.lt_or_ge d tmps.size with hlt | hge
          · rw [Array.getD_eq_getD_getElem?, Array.getElem?_eq_getElem hlt] at hv
            rw [Array.getElem?_eq_getElem hlt]
            have hv : tmps[d] = .tuple vs.toArray := by simpa using hv
            rw [hv]
          · rw [Array.getElem?_eq_none hge]
      simp only [Region.wanted, hgd, hy]
      cases want <;> rfl
    have hy : yielded ops tmps j = some b := by
      unfold gdOf at hb
      unfold yielded
      cases hd : (ops[j]?).bind (·.dst) with
      | none => simp [hd] at hb
      | some d =>
        simp only [hd] at hb
        have hv := h d (looks_guard hgd hd)
        rw [hb] at hv
        have hv := hv.bool
        have hlt : d < env.length := by
          rcases Nat.lt_or_ge d env.length with h' | h'
          · exact h'
          · rw [List.getD_eq_getElem?_getD, List.getElem?_eq_none h'] at hb; cases hb
        have hlt2 : d < tmps.size := Nat.lt_of_lt_of_le hlt (by rw [hl]; exact hle)
        have : tmps[d]? = some (.bool b) := by
          rw [Array.getD_eq_getD_getElem?, Array.getElem?_eq_getElem hlt2] at hv
          rw [Array.getElem?_eq_getElem hlt2]
          simpa using hv
        simp [this]
    simp only [Region.wanted, hgd, hy]
    rw [← hbt]
    cases b <;> cases want <;> rfl

end
end Ev
