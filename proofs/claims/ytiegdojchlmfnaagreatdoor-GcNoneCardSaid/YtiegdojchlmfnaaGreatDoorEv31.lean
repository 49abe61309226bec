/- A part of the proof that GcNone returns true: text Ev31. -/
import Derived.Test.YtiegdojchlmfnaaGreatDoorEv30
namespace Ev
open Go
open Go.RowKit
noncomputable section

/-! ### Two values are the same -/

def sameL (f : AV → AV → Bool) : List AV → List AV → Bool
  | [], [] => true
  | a :: l, b :: m => cond (f a b) (sameL f l m) false
  | _, _ => false

def capEq : Cap → Cap → Bool
  | .known a, .known b => Nat.beq a b
  | .opn a, .opn b => Nat.beq a b
  | _, _ => false

def fnEq : Fn → Fn → Bool
  | .func a, .func b => Nat.beq a b
  | .yield a, .yield b => Nat.beq a b
  | _, _ => false

def boolEq : Bool → Bool → Bool
  | true, b => b
  | false, true => false
  | false, false => true

def and3 (a b : Bool) : Bool := cond a b false

def same1 (f : AV → AV → Bool) : AV → AV → Bool
  | .bool a, .bool b => boolEq a b
  | .int k n, .int k' n' => and3 (kdEq k k') (eqZ n n')
  | .str n c, .str n' c' => and3 (Nat.beq n n') (Nat.beq c c')
  | .nilp, .nilp => true
  | .ptr b o, .ptr b' o' => and3 (Nat.beq b b') (Nat.beq o o')
  | .nils, .nils => true
  | .sl b o l c, .sl b' o' l' c' => and3 (Nat.beq b b') (and3 (Nat.beq o o') (and3 (Nat.beq l l') (capEq c c')))
  | .sle b o l c, .sle b' o' l' c' => and3 (Nat.beq b b') (and3 (Nat.beq o o') (and3 (Nat.beq l l') (Nat.beq c c')))
  | .nilm, .nilm => true
  | .map b, .map b' => Nat.beq b b'
  | .fn g x y, .fn g' x' y' => and3 (fnEq g g') (and3 (sameL f x x') (sameL f y y'))
  | .nilf, .nilf => true
  | .iface t v, .iface t' v' => and3 (Nat.beq t t') (f v v')
  | .nili, .nili => true
  | .agg l, .agg m => sameL f l m
  | .tup l, .tup m => sameL f l m
  | .opq i, .opq j => Nat.beq i j
  | _, _ => false

def sameF : Nat → AV → AV → Bool
  | 0 => fun _ _ => false
  | n + 1 => same1 (sameF n)

theorem and3_iff {a b : Bool} : and3 a b = true ↔ a = true ∧ b = true := by cases a <;> simp [and3]

theorem sameL_ok {f : AV → AV → Bool} (h : ∀ a b, f a b = true → a = b) : ∀ {l m : List AV}, sameL f l m = true → l = m
  | [], [], _ => rfl
  | a :: l, b :: m, e => by
    simp only [sameL] at e
    cases hf : f a b with
    | false => rw [hf] at e; cases e
    | true => rw [hf] at e; rw [h a b hf, sameL_ok h (l := l) (m := m) e]
  | [], _ :: _, e => by simp [sameL] at e
  | _ :: _, [], e => by simp [sameL] at e

theorem boolEq_ok {a b : Bool} (h : boolEq a b = true) : a = b := by cases a <;> cases b <;> simp [boolEq] at h ⊢
theorem capEq_ok {a b : Cap} (h : capEq a b = true) : a = b := by cases a <;> cases b <;> simp [capEq] at h ⊢ <;> exact h
theorem fnEq_ok {a b : Fn} (h : fnEq a b = true) : a = b := by cases a <;> cases b <;> simp [fnEq] at h ⊢ <;> exact h

theorem same1_ok {f : AV → AV → Bool} (hf : ∀ a b, f a b = true → a = b) {a b : AV} (h : same1 f a b = true) : a = b := by
  unfold same1 at h
  split at h
  · rw [boolEq_ok h]
  · obtain ⟨h1, h2⟩ := and3_iff.1 h
    rw [eqZ_eq] at h2
    rw [kdEq_iff h1, eq_of_beq h2]
  · obtain ⟨h1, h2⟩ := and3_iff.1 h
    rw [Nat.eq_of_beq_eq_true h1, Nat.eq_of_beq_eq_true h2]
  · rfl
  · obtain ⟨h1, h2⟩ := and3_iff.1 h
    rw [Nat.eq_of_beq_eq_true h1, Nat.eq_of_beq_eq_true h2]
  · rfl
  · obtain ⟨h1, h⟩ := and3_iff.1 h
    obtain ⟨h2, h⟩ := and3_iff.1 h
    obtain ⟨h3, h⟩ := and3_iff.1 h
    rw [Nat.eq_of_beq_eq_true h1, Nat.eq_of_beq_eq_true h2, Nat.eq_of_beq_eq_true h3, capEq_ok h]
  · obtain ⟨h1, h⟩ := and3_iff.1 h
    obtain ⟨h2, h⟩ := and3_iff.1 h
    obtain ⟨h3, h⟩ := and3_iff.1 h
    rw [Nat.eq_of_beq_eq_true h1, Nat.eq_of_beq_eq_true h2, Nat.eq_of_beq_eq_true h3, Nat.eq_of_beq_eq_true h]
  · rfl
  · rw [Nat.eq_of_beq_eq_true h]
  · obtain ⟨h1, h⟩ := and3_iff.1 h
    obtain ⟨h2, h3⟩ := and3_iff.1 h
    rw [fnEq_ok h1, sameL_ok hf h2, sameL_ok hf h3]
  · rfl
  · obtain ⟨h1, h2⟩ := and3_iff.1 h
    rw [Nat.eq_of_beq_eq_true h1, hf _ _ h2]
  · rfl
  · rw [sameL_ok hf h]
  · rw [sameL_ok hf h]
  · rw [Nat.eq_of_beq_eq_true h]
  · cases h

theorem sameF_ok : ∀ {n : Nat} {a b : AV}, sameF n a b = true → a = b
  | 0, _, _, h => by cases h
  | _ + 1, _, _, h => same1_ok (fun _ _ h => sameF_ok h) h

/-! ### A region that draws its order is carried out -/

/-- What the program's text decides. -/
def ifS (c : Bool) (a : Bool) : Bool := (fun (_ : Nat) => Bool.rec false a c) tall40
theorem ifS_eq (c a : Bool) : ifS c a = ifB c a := rfl
def forceS {β : Type} (n : Nat) (k : Nat → β) : β := (fun (_ : Nat) => Nat.rec (motive := fun _ => β) (k 0) (fun m _ => k (Nat.succ m)) n) tall40
theorem forceS_eq {β : Type} (n : Nat) (k : Nat → β) : forceS n k = k n := forceN_eq n k

/-- The guard, whatever an operation hands on. -/
def gdK {α : Type} (ops : Array Oper) (env : List AV) (o : Oper) (run skip : α → Bool) (k : α) : Bool :=
  match o.guard with
  | none => run k
  | some (j, want) => joinP k fun (jj : α) => (gdOf ops env j).ckGd (fun b => Bool.rec (Bool.rec (run jj) (skip jj) want) (Bool.rec (skip jj) (run jj) want) b) (skip jj)

theorem gdK_ok {α : Type} {ops : Array Oper} {env : List AV} {o : Oper} {run skip : α → Bool} {k : α} (h : gdK ops env o run skip k = true) : (GW ops env o true ∧ run k = true) ∨ (GW ops env o false ∧ skip k = true) := by
  unfold gdK at h
  unfold GW
  split at h
  · rename_i hg; simp only [hg]; exact .inl ⟨trivial, h⟩
  · rename_i j want hg
    simp only [hg]
    rcases ckGd_iff.1 h with ⟨b, hb, h⟩ | ⟨l, hb, h⟩
    · cases b <;> cases want
      · exact .inl ⟨.inl ⟨_, hb, rfl⟩, h⟩
      · exact .inr ⟨.inl ⟨_, hb, rfl⟩, h⟩
      · exact .inr ⟨.inl ⟨_, hb, rfl⟩, h⟩
      · exact .inl ⟨.inl ⟨_, hb, rfl⟩, h⟩
    · exact .inr ⟨.inr ⟨by trivial, l, hb⟩, h⟩

def cntA (P : Program) : List Oper → Nat
  | [] => 0
  | o :: l => cond (Nat.beq (cls P o) 2) (Nat.succ (cntA P l)) (cntA P l)

def snocK {α : Type} : List α → α → (List α → Bool) → Bool
  | [], x, k => hi (k [x])
  | a :: l, x, k => snocK l x fun l => k (a :: l)

theorem snocK_eq {α : Type} : ∀ (l : List α) (x : α) (k : List α → Bool), snocK l x k = k (l ++ [x])
  | [], _, _ => rfl
  | a :: l, x, k => by rw [snocK, snocK_eq l]; rfl

def evD (P : Program) (F G : Orac) (ops : Array Oper) (ms : List Nat) (n0 : Nat) (fin : List AV → List Row → List (Heap × Nat) → List Nat → Bool) :
    List Oper → Nat → Nat → List AV → List Row → List (Heap × Nat) → Heap → Nat → List Nat → Bool
  | [], _, _, env, R, V, H, n, hv => snocK V (H, n) fun V => fin env R V hv
  | o :: rest, i, k, env, R, V, H, n, hv =>
    sel3 (cls P o)
      (gdK ops env o (pureOp P env o) (fun j => j (.tup [])) fun (v : AV) =>
        setTK env o.dst v fun env' => snocK R ⟨v, env, 0, none, 0⟩ fun R => evD P F G ops ms n0 fin rest (i + 1) k env' R V H n hv)
      (layH (exs (keepAt ms hv i hv.length) 0 R) H fun H1 => gdK ops env o (readOp P env o H1) (fun j => j (.tup [])) fun (v : AV) =>
        setTK env o.dst v fun env' => snocK R ⟨v, env, 0, none, hv.length⟩ fun R => evD P F G ops ms n0 fin rest (i + 1) k env' R V H n hv)
      (forceN (Nat.add n0 k) fun id => gdK ops env o (fun j => allocOp P env o H id fun v H1 => at_ H1 id fun b => j v b) (fun j => ifB (Nat.blt id 32768) (j (.tup []) .dead)) fun (v : AV) (b : Blk) =>
        setTK env o.dst v fun env' => snocK R ⟨v, env, id, some b, 0⟩ fun R => evD P F G ops ms n0 fin rest (i + 1) (k + 1) env' R V H n hv)
      (layH (exs (keepAt ms hv i hv.length) 0 R) H fun H1 => gdK ops env o (fun j => evOp P F G env o H1 n j) (fun j => j (.tup []) H1 n) fun (v : AV) (H2 : Heap) (n2 : Nat) =>
        setTK env o.dst v fun env' => snocK R ⟨v, env, 0, none, 0⟩ fun R => snocK V (H, n) fun V => snocK hv i fun hv => evD P F G ops ms n0 fin rest (i + 1) k env' R V H2 n2 hv)

/-- The same, of a reader but for the version of memory that it was carried out on. -/
inductive Step0 (P : Program) (ops : Array Oper) (ms : List Nat) (R : List Row) (V : List (Heap × Nat)) (hv : List Nat) (i : Nat) (o : Oper) (r : Row) : Prop where
  | pure (hc : cls P o = 0) (hb : r.blk = none) (hg : GW ops r.env o true) (hs : PureSpec P r.env o r.v)
  | read (hc : cls P o = 1) (hb : r.blk = none) (hg : GW ops r.env o true) (H : Heap) (n : Nat) (hV : V[r.ver]? = some (H, n))
      (hs : ReadSpec P r.env o (layP (exs (keepAt ms hv i r.ver) 0 R) H) r.v)
  | alloc (hc : cls P o = 2) (b : Blk) (hb : r.blk = some b) (hg : GW ops r.env o true) (hs : AllocSpec P r.env o r.id r.v b)
  | skip (hc : cls P o < 3) (hb : ∀ b, r.blk = some b → b = .dead ∧ cls P o = 2) (hg : GW ops r.env o false) (hv : r.v = .tup [])
  | heavy (k : Nat) (H : Heap) (n : Nat) (H' : Heap) (n' : Nat) (hk : hv[k]? = some i) (hV : V[k]? = some (H, n)) (hV' : V[k + 1]? = some (H', n')) (hb : r.blk = none) (hg : GW ops r.env o true)
      (hs : OpGoes P r.env o (layP (exs (keepAt ms hv i k) 0 R) H) n r.v H' n')
  | skipH (k : Nat) (H : Heap) (n : Nat) (hk : hv[k]? = some i) (hV : V[k]? = some (H, n)) (hV' : V[k + 1]? = some (layP (exs (keepAt ms hv i k) 0 R) H, n)) (hb : r.blk = none) (hg : GW ops r.env o false) (hv : r.v = .tup [])

theorem EnvAt.more {ops : Array Oper} {env0 : List AV} {R R2 : List Row} {i : Nat} {env : List AV} (h : EnvAt ops env0 R i env) (hi : i ≤ R.length) : EnvAt ops env0 (R ++ R2) i env :=
  ⟨h.len, fun j o r t hj ho hr => h.wrote j o r t hj ho (by rwa [List.getElem?_append_left (by omega)] at hr), h.old⟩

theorem EnvAt.set {P : Program} {ops : Array Oper} {ms : List Nat} (g : RegOK P ops ms) {env0 : List AV} {R : List Row} {env : List AV} (h : EnvAt ops env0 R R.length env) {o : Oper} (ho : ops[R.length]? = some o) (r : Row) : EnvAt ops env0 (R ++ [r]) (R.length + 1) (setT env o.dst r.v) := by
  refine ⟨by rw [setT_length, h.len], fun j oj rj t hj hoj hrj hd ht => ?_, fun t hn => ?_⟩
  · by_cases e : j = R.length
    · subst e
      rw [ho] at hoj; injection hoj with hoj; subst hoj
      rw [List.getElem?_append_right (Nat.le_refl _)] at hrj
      simp at hrj
      subst hrj
      have hlt : t < env.length := by rw [h.len]; exact ht
      simp [hd, setT, List.getD_eq_getElem?_getD, List.getElem?_set, hlt]
    · have hjl : j < R.length := by omega
      rw [List.getElem?_append_left hjl] at hrj
      have hne : o.dst ≠ some t := fun hd' => by have := g.once j R.length oj o t hoj ho hd hd'; omega
      have := h.wrote j oj rj t hjl hoj hrj hd ht
      rw [← this]
      cases hd' : o.dst with
      | none => rfl
      | some d =>
        have : d ≠ t := fun e => hne (by rw [hd', e])
        simp [setT, List.getD_eq_getElem?_getD, List.getElem?_set, this]
  · have h1 := h.old t fun j oj hj hoj => hn j oj (by omega) hoj
    have hne : o.dst ≠ some t := hn _ o (by omega) ho
    rw [← h1]
    cases hd' : o.dst with
    | none => rfl
    | some d =>
      have : d ≠ t := fun e => hne (by rw [hd', e])
      simp [setT, List.getD_eq_getElem?_getD, List.getElem?_set, this]

/-- What carrying it out tells of the rows from number i on. -/
structure Tail (P : Program) (ops : Array Oper) (ms : List Nat) (env0 : List AV) (n0 : Nat) (i k c : Nat) (R' : List Row) (V' : List (Heap × Nat)) (m : Nat) (hv' : List Nat) : Prop where
  env : ∀ (a : Nat) (r : Row), i ≤ a → R'[a]? = some r → EnvAt ops env0 R' a r.env
  step : ∀ (a : Nat) (o : Oper) (r : Row), i ≤ a → ops[a]? = some o → R'[a]? = some r → Step0 P ops ms R' V' hv' a o r
  ids : ∀ (a : Nat) (r : Row) (b : Blk), i ≤ a → R'[a]? = some r → r.blk = some b → n0 + k ≤ r.id ∧ r.id < n0 + k + c ∧ r.id < 32768
  inc : ∀ (a a' : Nat) (r r' : Row) (b b' : Blk), i ≤ a → a < a' → R'[a]? = some r → R'[a']? = some r' → r.blk = some b → r'.blk = some b' → r.id < r'.id
  hvc : ∀ (l q : Nat), m ≤ l → hv'[l]? = some q → i ≤ q ∧ ∃ o, ops[q]? = some o ∧ 3 ≤ cls P o
  hvo : ∀ (l l' q q' : Nat), m ≤ l → l < l' → hv'[l]? = some q → hv'[l']? = some q' → q < q'

theorem Tail.light {P : Program} {ops : Array Oper} {ms : List Nat} {env0 : List AV} {n0 i k k' c c' m : Nat} {R' : List Row} {V' : List (Heap × Nat)} {hv' : List Nat} (t : Tail P ops ms env0 n0 (i + 1) k' c' R' V' m hv') {o : Oper} {r : Row} (ho : ops[i]? = some o) (hr : R'[i]? = some r)
    (he : EnvAt ops env0 R' i r.env) (hs : Step0 P ops ms R' V' hv' i o r) (hk : (r.blk = none ∧ k' = k ∧ c' = c) ∨ (r.id = n0 + k ∧ r.id < 32768 ∧ k' = k + 1 ∧ c = c' + 1)) : Tail P ops ms env0 n0 i k c R' V' m hv' := by
  have cases' : ∀ {a : Nat}, i ≤ a → a = i ∨ i + 1 ≤ a := fun h => by omega
  refine ⟨fun a ra ha hra => ?_, fun a oa ra ha hoa hra => ?_, fun a ra b ha hra hb => ?_, fun a a' ra ra' b b' ha haa hra hra' hb hb' => ?_, fun l q hl hq => ?_, t.hvo⟩
  · rcases cases' ha with rfl | ha
    · rw [hr] at hra; injection hra with hra; subst hra; exact he
    · exact t.env a ra ha hra
  · rcases cases' ha with rfl | ha
    · rw [hr] at hra; injection hra with hra; subst hra
      rw [ho] at hoa; injection hoa with hoa; subst hoa; exact hs
    · exact t.step a oa ra ha hoa hra
  · rcases cases' ha with rfl | ha
    · rw [hr] at hra; injection hra with hra; subst hra
      rcases hk with ⟨h1, _⟩ | ⟨h1, h2, h3, h4⟩
      · rw [h1] at hb; cases hb
      · omega
    · have := t.ids a ra b ha hra hb
      rcases hk with ⟨_, h1, h2⟩ | ⟨_, _, h3, h4⟩ <;> omega
  · rcases cases' ha with rfl | ha
    · rw [hr] at hra; injection hra with hra; subst hra
      have := t.ids a' ra' b' (by omega) hra' hb'
      rcases hk with ⟨h1, _⟩ | ⟨h1, h2, h3, h4⟩
      · rw [h1] at hb; cases hb
      · omega
    · exact t.inc a a' ra ra' b b' ha haa hra hra' hb hb'
  · obtain ⟨h1, h2⟩ := t.hvc l q hl hq
    exact ⟨by omega, h2⟩

theorem keep_more {ms hv h2 : List Nat} {R R2 : List Row} : exs (keepAt ms hv R.length hv.length) 0 R = exs (keepAt ms (hv ++ h2) R.length hv.length) 0 (R ++ R2) := by
  rw [exs_append (fun j hj => ?_)]
  · refine exs_congr fun j _ => ?_
    simp [keepAt]
  · have : Nat.blt j R.length = false := by rw [blt_eq]; simp; omega
    simp [keepAt, this]

theorem evD_ok {P : Program} {F G : Orac} (hF : CallSound P F) (hG : RoundSound P G) {ops : Array Oper} {ms : List Nat} (g : RegOK P ops ms) {env0 : List AV} {n0 : Nat} {fin : List AV → List Row → List (Heap × Nat) → List Nat → Bool} :
    ∀ {l : List Oper} {k : Nat} {env : List AV} {R : List Row} {V : List (Heap × Nat)} {H : Heap} {n : Nat} {hv : List Nat}, (∀ j, l[j]? = ops[R.length + j]?) → V.length = hv.length → EnvAt ops env0 R R.length env →
      evD P F G ops ms n0 fin l R.length k env R V H n hv = true →
      ∃ env' R2 V2 h2, fin env' (R ++ R2) (V ++ (H, n) :: V2) (hv ++ h2) = true ∧ R2.length = l.length ∧ V2.length = h2.length ∧ EnvAt ops env0 (R ++ R2) (R.length + l.length) env' ∧
        Tail P ops ms env0 n0 R.length k (cntA P l) (R ++ R2) (V ++ (H, n) :: V2) hv.length (hv ++ h2)
  | [], k, env, R, V, H, n, hv, _, hV, he, h => by
    refine ⟨env, [], [], [], by simpa [evD, snocK_eq] using h, rfl, rfl, by simpa using he, ⟨fun a r ha hr => ?_, fun a o r ha _ hr => ?_, fun a r b ha hr => ?_, fun a a' r r' b b' ha _ hr => ?_, fun l q hl hq => ?_, fun l l' q q' hl _ hq => ?_⟩⟩
    all_goals first
      | (rw [List.append_nil, List.getElem?_eq_none ha] at hr; cases hr)
      | (rw [List.append_nil, List.getElem?_eq_none hl] at hq; cases hq)
  | o :: rest, k, env, R, V, H, n, hv, hl, hV, he, h => by
    have ho : ops[R.length]? = some o := by have := hl 0; simpa using this.symm
    -- one row that is not heavy
    have light : ∀ (r : Row) (k' : Nat), r.env = env → evD P F G ops ms n0 fin rest (R.length + 1) k' (setT env o.dst r.v) (R ++ [r]) V H n hv = true →
        (∀ R2 V2 h2, V2.length = h2.length → Step0 P ops ms (R ++ r :: R2) (V ++ (H, n) :: V2) (hv ++ h2) R.length o r) →
        ((r.blk = none ∧ k' = k ∧ cntA P rest = cntA P (o :: rest)) ∨ (r.id = n0 + k ∧ r.id < 32768 ∧ k' = k + 1 ∧ cntA P (o :: rest) = cntA P rest + 1)) →
        ∃ env' R2 V2 h2, fin env' (R ++ R2) (V ++ (H, n) :: V2) (hv ++ h2) = true ∧ R2.length = (o :: rest).length ∧ V2.length = h2.length ∧ EnvAt ops env0 (R ++ R2) (R.length + (o :: rest).length) env' ∧
          Tail P ops ms env0 n0 R.length k (cntA P (o :: rest)) (R ++ R2) (V ++ (H, n) :: V2) hv.length (hv ++ h2) := by
      intro r k' hre h hs hk
      have hlen : (R ++ [r]).length = R.length + 1 := by simp
      have h' : evD P F G ops ms n0 fin rest (R ++ [r]).length k' (setT env o.dst r.v) (R ++ [r]) V H n hv = true := by rw [hlen]; exact h
      obtain ⟨env', R2, V2, h2, h1, h3, h4, h5, h6⟩ := evD_ok hF hG g (l := rest) (fun j => by rw [hlen, show R.length + 1 + j = R.length + (j + 1) from by omega, ← hl (j + 1)]; rfl) hV (by rw [hlen]; exact he.set g ho r) h'
      rw [hlen] at h5 h6
      simp only [List.append_assoc, List.singleton_append] at h1 h5 h6
      refine ⟨env', r :: R2, V2, h2, h1, by simp [h3], h4, by simpa [Nat.add_assoc, Nat.add_comm 1] using h5, ?_⟩
      refine h6.light ho (by simp) ?_ (hs R2 V2 h2 h4) hk
      rw [hre]
      exact he.more (Nat.le_refl _)
    have heavy : ∀ (r : Row) (H2 : Heap) (n2 : Nat), r.env = env → r.blk = none → evD P F G ops ms n0 fin rest (R.length + 1) k (setT env o.dst r.v) (R ++ [r]) (V ++ [(H, n)]) H2 n2 (hv ++ [R.length]) = true → 3 ≤ cls P o →
        (∀ R2 V2 h2, V2.length = h2.length → Step0 P ops ms (R ++ r :: R2) (V ++ (H, n) :: (H2, n2) :: V2) (hv ++ R.length :: h2) R.length o r) → cntA P rest = cntA P (o :: rest) →
        ∃ env' R2 V2 h2, fin env' (R ++ R2) (V ++ (H, n) :: V2) (hv ++ h2) = true ∧ R2.length = (o :: rest).length ∧ V2.length = h2.length ∧ EnvAt ops env0 (R ++ R2) (R.length + (o :: rest).length) env' ∧
          Tail P ops ms env0 n0 R.length k (cntA P (o :: rest)) (R ++ R2) (V ++ (H, n) :: V2) hv.length (hv ++ h2) := by
      intro r H2 n2 hre hrb h hc hs hk
      have hlen : (R ++ [r]).length = R.length + 1 := by simp
      have h' : evD P F G ops ms n0 fin rest (R ++ [r]).length k (setT env o.dst r.v) (R ++ [r]) (V ++ [(H, n)]) H2 n2 (hv ++ [R.length]) = true := by rw [hlen]; exact h
      obtain ⟨env', R2, V2, h2, h1, h3, h4, h5, h6⟩ := evD_ok hF hG g (l := rest) (fun j => by rw [hlen, show R.length + 1 + j = R.length + (j + 1) from by omega, ← hl (j + 1)]; rfl) (by simp [hV]) (by rw [hlen]; exact he.set g ho r) h'
      rw [hlen] at h5 h6
      simp only [List.append_assoc, List.singleton_append] at h1 h5 h6
      refine ⟨env', r :: R2, (H2, n2) :: V2, R.length :: h2, h1, by simp [h3], by simp [h4], by simpa [Nat.add_assoc, Nat.add_comm 1] using h5, ?_⟩
      have t : Tail P ops ms env0 n0 (R.length + 1) k (cntA P rest) (R ++ r :: R2) (V ++ (H, n) :: (H2, n2) :: V2) (hv.length + 1) (hv ++ R.length :: h2) := by simpa using h6
      have hself : (hv ++ R.length :: h2)[hv.length]? = some R.length := by simp
      have up : Tail P ops ms env0 n0 (R.length + 1) k (cntA P rest) (R ++ r :: R2) (V ++ (H, n) :: (H2, n2) :: V2) (hv ++ R.length :: h2).length (hv ++ R.length :: h2) :=
        ⟨t.env, t.step, t.ids, t.inc, fun l q hl hq => (by rw [List.getElem?_eq_none hl] at hq; cases hq), fun l l' q q' hl _ hq => (by rw [List.getElem?_eq_none hl] at hq; cases hq)⟩
      have low := up.light ho (k := k) (c := cntA P (o :: rest)) (r := r) (by simp) (by rw [hre]; exact he.more (Nat.le_refl _)) (hs R2 V2 h2 h4) (.inl ⟨hrb, rfl, hk⟩)
      refine ⟨low.env, low.step, low.ids, low.inc, fun l q hl hq => ?_, fun l l' q q' hl hll hq hq' => ?_⟩
      · by_cases e : l = hv.length
        · subst e
          rw [hself] at hq; injection hq with hq; subst hq
          exact ⟨Nat.le_refl _, o, ho, hc⟩
        · obtain ⟨h1, h2⟩ := t.hvc l q (by omega) hq
          exact ⟨by omega, h2⟩
      · by_cases e : l = hv.length
        · subst e
          rw [hself] at hq; injection hq with hq; subst hq
          have := (t.hvc l' q' (by omega) hq').1
          omega
        · exact t.hvo l l' q q' (by omega) hll hq hq'
    have hat : ∀ V2, (V ++ (H, n) :: V2)[hv.length]? = some (H, n) := fun V2 => by rw [← hV]; simp
    have hat1 : ∀ (H2 : Heap) (n2 : Nat) V2, (V ++ (H, n) :: (H2, n2) :: V2)[hv.length + 1]? = some (H2, n2) := fun H2 n2 V2 => by
      rw [← hV, List.getElem?_append_right (by omega), show V.length + 1 - V.length = 1 from by omega]; rfl
    have hself : ∀ h2 : List Nat, (hv ++ R.length :: h2)[hv.length]? = some R.length := fun h2 => by simp
    rw [evD] at h
    simp only [snocK_eq, setTK_eq] at h
    rw [sel3_eq] at h
    split at h
    · rename_i hc
      have hcn : cntA P rest = cntA P (o :: rest) := by rw [cntA, hc]; rfl
      rcases gdK_ok h with ⟨hg, h⟩ | ⟨hg, h⟩
      · obtain ⟨v, h, hs⟩ := pureOp_ok h
        exact light ⟨v, env, 0, none, 0⟩ k rfl h (fun R2 V2 h2 _ => .pure hc rfl hg hs) (.inl ⟨rfl, rfl, hcn⟩)
      · simp only [setTK_eq] at h
        exact light ⟨.tup [], env, 0, none, 0⟩ k rfl h (fun R2 V2 h2 _ => .skip (by omega) (by simp) hg rfl) (.inl ⟨rfl, rfl, hcn⟩)
    · rename_i hc
      have hcn : cntA P rest = cntA P (o :: rest) := by rw [cntA, hc]; rfl
      rw [layH_eq] at h
      rcases gdK_ok h with ⟨hg, h⟩ | ⟨hg, h⟩
      · obtain ⟨v, h, hs⟩ := readOp_ok h
        refine light ⟨v, env, 0, none, hv.length⟩ k rfl h (fun R2 V2 h2 _ => .read hc rfl hg H n (hat V2) ?_) (.inl ⟨rfl, rfl, hcn⟩)
        rw [keep_more (h2 := h2) (R2 := ⟨v, env, 0, none, hv.length⟩ :: R2)] at hs
        exact hs
      · simp only [setTK_eq] at h
        exact light ⟨.tup [], env, 0, none, hv.length⟩ k rfl h (fun R2 V2 h2 _ => .skip (by omega) (by simp) hg rfl) (.inl ⟨rfl, rfl, hcn⟩)
    · rename_i hc
      have hcn : cntA P (o :: rest) = cntA P rest + 1 := by rw [cntA, hc]; rfl
      rw [forceN_eq] at h
      rcases gdK_ok h with ⟨hg, h⟩ | ⟨hg, h⟩
      · obtain ⟨v, b, hb, h, hs⟩ := allocOp_ok h
        obtain ⟨_, h⟩ := at_iff.1 h
        rw [hfn_put _ _ hb] at h
        have hbb : setB (hfn H) (Nat.add n0 k) b (Nat.add n0 k) = b := by simp [setB]
        rw [hbb] at h
        exact light ⟨v, env, n0 + k, some b, 0⟩ (k + 1) rfl h (fun R2 V2 h2 _ => .alloc hc b rfl hg hs) (.inr ⟨rfl, hb, rfl, hcn⟩)
      · obtain ⟨hb, h⟩ := ifB_iff.1 h
        rw [Nat.blt_eq] at hb
        exact light ⟨.tup [], env, n0 + k, some .dead, 0⟩ (k + 1) rfl h (fun R2 V2 h2 _ => .skip (by omega) (by simp [hc]) hg rfl) (.inr ⟨rfl, hb, rfl, hcn⟩)
    · rename_i h0 h1 h2
      have hc : 3 ≤ cls P o := by
        have : cls P o ≠ 0 := h0
        have : cls P o ≠ 1 := h1
        have : cls P o ≠ 2 := h2
        omega
      have hcn : cntA P rest = cntA P (o :: rest) := by
        have : Nat.beq (cls P o) 2 = false := by
          cases hb : Nat.beq (cls P o) 2 with
          | false => rfl
          | true => exact absurd (Nat.eq_of_beq_eq_true hb) h2
        simp [cntA, this]
      rw [layH_eq] at h
      rcases gdK_ok h with ⟨hg, h⟩ | ⟨hg, h⟩
      · obtain ⟨v, H2, n2, h, hs⟩ := evOp_ok hF hG h
        refine heavy ⟨v, env, 0, none, 0⟩ H2 n2 rfl rfl h hc (fun R2 V2 h2 _ => .heavy hv.length H n H2 n2 (hself h2) (hat _) (hat1 H2 n2 V2) rfl hg ?_) hcn
        rw [keep_more (h2 := R.length :: h2) (R2 := ⟨v, env, 0, none, 0⟩ :: R2)] at hs
        exact hs
      · simp only [setTK_eq] at h
        refine heavy ⟨.tup [], env, 0, none, 0⟩ _ n rfl rfl h hc (fun R2 V2 h2 _ => .skipH hv.length H n (hself h2) (hat _) ?_ rfl hg rfl) hcn
        rw [hat1, keep_more (h2 := R.length :: h2) (R2 := ⟨.tup [], env, 0, none, 0⟩ :: R2)]

end
end Ev
