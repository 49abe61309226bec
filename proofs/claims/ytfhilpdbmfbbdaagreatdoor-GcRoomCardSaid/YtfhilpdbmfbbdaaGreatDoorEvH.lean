/- A part of the proof that GcRoom returns true: text EvH. -/
import Derived.Test.YtfhilpdbmfbbdaaGreatDoorEvG
import Derived.RangeFuncRecord
namespace Ev
open Go
open Go.RowKit
noncomputable section
def sameL (f : AV → AV → Bool) : List AV → List AV → Bool
  | [], [] => true
  | a :: l, b :: m => cond (f a b) (sameL f l m) false
  | _, _ => false
def capEq : Cap → Cap → Bool
  | .known a, .known b => Nat.beq a b
  | .opn a, .opn b => Nat.beq a b
  | _, _ => false
def fnEq : Fn → Fn → Bool
  | .func a, .func b => Nat.beq a b
  | .yield a, .yield b => Nat.beq a b
  | _, _ => false
def boolEq : Bool → Bool → Bool
  | true, b => b
  | false, true => false
  | false, false => true
def and3 (a b : Bool) : Bool := cond a b false
def symEq : SymT → SymT → Bool
  | .int s lo hi c, .int s' lo' hi' c' => and3 (Nat.beq s s') (and3 (Nat.beq lo lo') (and3 (Nat.beq hi hi') (eqZ c c')))
  | .spl b s lo hi k es, .spl b' s' lo' hi' k' es' => and3 (Nat.beq b b') (and3 (Nat.beq s s') (and3 (Nat.beq lo lo') (and3 (Nat.beq hi hi') (and3 (Nat.beq k k') (Nat.beq es es')))))
  | .ptr b s lo hi es o, .ptr b' s' lo' hi' es' o' => and3 (Nat.beq b b') (and3 (Nat.beq s s') (and3 (Nat.beq lo lo') (and3 (Nat.beq hi hi') (and3 (Nat.beq es es') (Nat.beq o o')))))
  | _, _ => false
def same1 (f : AV → AV → Bool) : AV → AV → Bool
  | .bool a, .bool b => boolEq a b
  | .int k n, .int k' n' => and3 (kdEq k k') (eqZ n n')
  | .str n c, .str n' c' => and3 (Nat.beq n n') (Nat.beq c c')
  | .nilp, .nilp => true
  | .ptr b o, .ptr b' o' => and3 (Nat.beq b b') (Nat.beq o o')
  | .nils, .nils => true
  | .sl b o l c, .sl b' o' l' c' => and3 (Nat.beq b b') (and3 (Nat.beq o o') (and3 (Nat.beq l l') (capEq c c')))
  | .sle b o l c, .sle b' o' l' c' => and3 (Nat.beq b b') (and3 (Nat.beq o o') (and3 (Nat.beq l l') (Nat.beq c c')))
  | .nilm, .nilm => true
  | .map b, .map b' => Nat.beq b b'
  | .fn g x y, .fn g' x' y' => and3 (fnEq g g') (and3 (sameL f x x') (sameL f y y'))
  | .nilf, .nilf => true
  | .iface t v, .iface t' v' => and3 (Nat.beq t t') (f v v')
  | .nili, .nili => true
  | .agg l, .agg m => sameL f l m
  | .tup l, .tup m => sameL f l m
  | .opq i, .opq j => Nat.beq i j
  | .sym t, .sym t' => symEq t t'
  | _, _ => false
def sameF : Nat → AV → AV → Bool
  | 0 => fun _ _ => false
  | n + 1 => same1 (sameF n)
theorem and3_iff {a b : Bool} : and3 a b = true ↔ a = true ∧ b = true := by cases a <;> simp [and3]
theorem sameL_ok {f : AV → AV → Bool} (h : ∀ a b, f a b = true → a = b) : ∀ {l m : List AV}, sameL f l m = true → l = m
  | [], [], _ => rfl
  | a :: l, b :: m, e => by
    simp only [sameL] at e
    cases hf : f a b with
    | false => rw [hf] at e; cases e
    | true => rw [hf] at e; rw [h a b hf, sameL_ok h (l := l) (m := m) e]
  | [], _ :: _, e => by simp [sameL] at e
  | _ :: _, [], e => by simp [sameL] at e
theorem boolEq_ok {a b : Bool} (h : boolEq a b = true) : a = b := by cases a <;> cases b <;> simp [boolEq] at h ⊢
theorem capEq_ok {a b : Cap} (h : capEq a b = true) : a = b := by cases a <;> cases b <;> simp [capEq] at h ⊢ <;> exact h
theorem fnEq_ok {a b : Fn} (h : fnEq a b = true) : a = b := by cases a <;> cases b <;> simp [fnEq] at h ⊢ <;> exact h
theorem symEq_ok {a b : SymT} (h : symEq a b = true) : a = b := by
  cases a <;> cases b <;> simp only [symEq, Bool.false_eq_true] at h
  · obtain ⟨h1, h⟩ := and3_iff.1 h
    obtain ⟨h2, h⟩ := and3_iff.1 h
    obtain ⟨h3, h4⟩ := and3_iff.1 h
    rw [eqZ_eq] at h4
    rw [Nat.eq_of_beq_eq_true h1, Nat.eq_of_beq_eq_true h2, Nat.eq_of_beq_eq_true h3, eq_of_beq h4]
  · obtain ⟨h1, h⟩ := and3_iff.1 h
    obtain ⟨h2, h⟩ := and3_iff.1 h
    obtain ⟨h3, h⟩ := and3_iff.1 h
    obtain ⟨h4, h⟩ := and3_iff.1 h
    obtain ⟨h5, h6⟩ := and3_iff.1 h
    rw [Nat.eq_of_beq_eq_true h1, Nat.eq_of_beq_eq_true h2, Nat.eq_of_beq_eq_true h3, Nat.eq_of_beq_eq_true h4, Nat.eq_of_beq_eq_true h5, Nat.eq_of_beq_eq_true h6]
  · obtain ⟨h1, h⟩ := and3_iff.1 h
    obtain ⟨h2, h⟩ := and3_iff.1 h
    obtain ⟨h3, h⟩ := and3_iff.1 h
    obtain ⟨h4, h⟩ := and3_iff.1 h
    obtain ⟨h5, h6⟩ := and3_iff.1 h
    rw [Nat.eq_of_beq_eq_true h1, Nat.eq_of_beq_eq_true h2, Nat.eq_of_beq_eq_true h3, Nat.eq_of_beq_eq_true h4, Nat.eq_of_beq_eq_true h5, Nat.eq_of_beq_eq_true h6]
theorem same1_ok {f : AV → AV → Bool} (hf : ∀ a b, f a b = true → a = b) {a b : AV} (h : same1 f a b = true) : a = b := by
  unfold same1 at h
  split at h
  · rw [boolEq_ok h]
  · obtain ⟨h1, h2⟩ := and3_iff.1 h
    rw [eqZ_eq] at h2
    rw [kdEq_iff h1, eq_of_beq h2]
  · obtain ⟨h1, h2⟩ := and3_iff.1 h
    rw [Nat.eq_of_beq_eq_true h1, Nat.eq_of_beq_eq_true h2]
  · rfl
  · obtain ⟨h1, h2⟩ := and3_iff.1 h
    rw [Nat.eq_of_beq_eq_true h1, Nat.eq_of_beq_eq_true h2]
  · rfl
  · obtain ⟨h1, h⟩ := and3_iff.1 h
    obtain ⟨h2, h⟩ := and3_iff.1 h
    obtain ⟨h3, h⟩ := and3_iff.1 h
    rw [Nat.eq_of_beq_eq_true h1, Nat.eq_of_beq_eq_true h2, Nat.eq_of_beq_eq_true h3, capEq_ok h]
  · obtain ⟨h1, h⟩ := and3_iff.1 h
    obtain ⟨h2, h⟩ := and3_iff.1 h
    obtain ⟨h3, h⟩ := and3_iff.1 h
    rw [Nat.eq_of_beq_eq_true h1, Nat.eq_of_beq_eq_true h2, Nat.eq_of_beq_eq_true h3, Nat.eq_of_beq_eq_true h]
  · rfl
  · rw [Nat.eq_of_beq_eq_true h]
  · obtain ⟨h1, h⟩ := and3_iff.1 h
    obtain ⟨h2, h3⟩ := and3_iff.1 h
    rw [fnEq_ok h1, sameL_ok hf h2, sameL_ok hf h3]
  · rfl
  · obtain ⟨h1, h2⟩ := and3_iff.1 h
    rw [Nat.eq_of_beq_eq_true h1, hf _ _ h2]
  · rfl
  · rw [sameL_ok hf h]
  · rw [sameL_ok hf h]
  · rw [Nat.eq_of_beq_eq_true h]
  · rw [symEq_ok h]
  · cases h
theorem sameF_ok : ∀ {n : Nat} {a b : AV}, sameF n a b = true → a = b
  | 0, _, _, h => by cases h
  | _ + 1, _, _, h => same1_ok (fun _ _ h => sameF_ok h) h
def ifS (c : Bool) (a : Bool) : Bool := (fun (_ : Nat) => Bool.rec false a c) tall40
theorem ifS_eq (c a : Bool) : ifS c a = ifB c a := rfl
def forceS {β : Type} (n : Nat) (k : Nat → β) : β := (fun (_ : Nat) => Nat.rec (motive := fun _ => β) (k 0) (fun m _ => k (Nat.succ m)) n) tall40
theorem forceS_eq {β : Type} (n : Nat) (k : Nat → β) : forceS n k = k n := forceN_eq n k
def gdK {α : Type} (ops : Array Oper) (env : List AV) (o : Oper) (run skip : α → Bool) (k : α) : Bool :=
  match o.guard with
  | none => hi (run k)
  | some (j, want) => joinP k fun (jj : α) => (gdOf ops env j).ckGd (fun b => Bool.rec (Bool.rec (run jj) (skip jj) want) (Bool.rec (skip jj) (run jj) want) b) (skip jj)
theorem gdK_ok {α : Type} {ops : Array Oper} {env : List AV} {o : Oper} {run skip : α → Bool} {k : α} (h : gdK ops env o run skip k = true) : (GW ops env o true ∧ run k = true) ∨ (GW ops env o false ∧ skip k = true) := by
  unfold gdK at h
  unfold GW
  split at h
  · rename_i hg; simp only [hg]; exact .inl ⟨trivial, h⟩
  · rename_i j want hg
    simp only [hg]
    rcases ckGd_iff.1 h with ⟨b, hb, h⟩ | ⟨l, hb, h⟩
    · cases b <;> cases want
      · exact .inl ⟨.inl ⟨_, hb, rfl⟩, h⟩
      · exact .inr ⟨.inl ⟨_, hb, rfl⟩, h⟩
      · exact .inr ⟨.inl ⟨_, hb, rfl⟩, h⟩
      · exact .inl ⟨.inl ⟨_, hb, rfl⟩, h⟩
    · exact .inr ⟨.inr ⟨by trivial, l, hb⟩, h⟩
def cntA (P : Program) : List Oper → Nat
  | [] => 0
  | o :: l => cond (Nat.beq (cls P o) 2) (Nat.succ (cntA P l)) (cntA P l)
def snocK {α : Type} : List α → α → (List α → Bool) → Bool
  | [], x, k => hi (k [x])
  | a :: l, x, k => snocK l x fun l => k (a :: l)
theorem snocK_eq {α : Type} : ∀ (l : List α) (x : α) (k : List α → Bool), snocK l x k = k (l ++ [x])
  | [], _, _ => rfl
  | a :: l, x, k => by rw [snocK, snocK_eq l]; rfl
def evD (P : Program) (F G : Orac) (ops : Array Oper) (ms : List Nat) (n0 : Nat) (fin : List AV → List Row → List (Heap × Nat) → List Nat → Bool) :
    List Oper → Nat → Nat → List AV → List Row → List (Heap × Nat) → Heap → Nat → List Nat → Bool
  | [], _, _, env, R, V, H, n, hv => snocK V (H, n) fun V => fin env R V hv
  | o :: rest, i, k, env, R, V, H, n, hv =>
    sel3 (cls P o)
      (gdK ops env o (pureOp P env o) (fun j => j (.tup [])) fun (v : AV) =>
        setTK env o.dst v fun env' => snocK R ⟨v, env, 0, none, 0⟩ fun R => evD P F G ops ms n0 fin rest (i + 1) k env' R V H n hv)
      (layH (exs (keepAt ms hv i hv.length) 0 R) H fun H1 => gdK ops env o (readOp P env o H1) (fun j => j (.tup [])) fun (v : AV) =>
        setTK env o.dst v fun env' => snocK R ⟨v, env, 0, none, hv.length⟩ fun R => evD P F G ops ms n0 fin rest (i + 1) k env' R V H n hv)
      (forceN (Nat.add n0 k) fun id => gdK ops env o (fun j => allocOp P env o H id fun v H1 => at_ H1 id fun b => j v b) (fun j => ifB (Nat.blt id 32768) (j (.tup []) .dead)) fun (v : AV) (b : Blk) =>
        setTK env o.dst v fun env' => snocK R ⟨v, env, id, some b, 0⟩ fun R => evD P F G ops ms n0 fin rest (i + 1) (k + 1) env' R V H n hv)
      (layH (exs (keepAt ms hv i hv.length) 0 R) H fun H1 => gdK ops env o (fun j => evOp P F G env o H1 n j) (fun j => j (.tup []) H1 n) fun (v : AV) (H2 : Heap) (n2 : Nat) =>
        setTK env o.dst v fun env' => snocK R ⟨v, env, 0, none, 0⟩ fun R => snocK V (H, n) fun V => snocK hv i fun hv => evD P F G ops ms n0 fin rest (i + 1) k env' R V H2 n2 hv)
inductive Step0 (P : Program) (ops : Array Oper) (ms : List Nat) (R : List Row) (V : List (Heap × Nat)) (hv : List Nat) (i : Nat) (o : Oper) (r : Row) : Prop where
  | pure (hc : cls P o = 0) (hb : r.blk = none) (hg : GW ops r.env o true) (hs : PureSpec P r.env o r.v)
  | read (hc : cls P o = 1) (hb : r.blk = none) (hg : GW ops r.env o true) (H : Heap) (n : Nat) (hV : V[r.ver]? = some (H, n))
      (hs : ReadSpec P r.env o (layP (exs (keepAt ms hv i r.ver) 0 R) H) r.v)
  | alloc (hc : cls P o = 2) (b : Blk) (hb : r.blk = some b) (hg : GW ops r.env o true) (hs : AllocSpec P r.env o r.id r.v b)
  | skip (hc : cls P o < 3) (hb : ∀ b, r.blk = some b → b = .dead ∧ cls P o = 2) (hg : GW ops r.env o false) (hv : r.v = .tup [])
  | heavy (k : Nat) (H : Heap) (n : Nat) (H' : Heap) (n' : Nat) (hk : hv[k]? = some i) (hV : V[k]? = some (H, n)) (hV' : V[k + 1]? = some (H', n')) (hb : r.blk = none) (hg : GW ops r.env o true)
      (hs : OpGoes P r.env o (layP (exs (keepAt ms hv i k) 0 R) H) n r.v H' n')
  | skipH (k : Nat) (H : Heap) (n : Nat) (hk : hv[k]? = some i) (hV : V[k]? = some (H, n)) (hV' : V[k + 1]? = some (layP (exs (keepAt ms hv i k) 0 R) H, n)) (hb : r.blk = none) (hg : GW ops r.env o false) (hv : r.v = .tup [])
theorem EnvAt.more {ops : Array Oper} {env0 : List AV} {R R2 : List Row} {i : Nat} {env : List AV} (h : EnvAt ops env0 R i env) (hi : i ≤ R.length) : EnvAt ops env0 (R ++ R2) i env :=
  ⟨h.len, fun j o r t hj ho hr => h.wrote j o r t hj ho (by rwa [List.getElem?_append_left (by omega)] at hr), h.old⟩
theorem EnvAt.set {P : Program} {ops : Array Oper} {ms : List Nat} (g : RegOK P ops ms) {env0 : List AV} {R : List Row} {env : List AV} (h : EnvAt ops env0 R R.length env) {o : Oper} (ho : ops[R.length]? = some o) (r : Row) : EnvAt ops env0 (R ++ [r]) (R.length + 1) (setT env o.dst r.v) := by
  refine ⟨by rw [setT_length, h.len], fun j oj rj t hj hoj hrj hd ht => ?_, fun t hn => ?_⟩
  · by_cases e : j = R.length
    · subst e
      rw [ho] at hoj; injection hoj with hoj; subst hoj
      rw [List.getElem?_append_right (Nat.le_refl _)] at hrj
      simp at hrj
      subst hrj
      have hlt : t < env.length := by rw [h.len]; exact ht
      simp [hd, setT, List.getD_eq_getElem?_getD, hlt]
    · have hjl : j < R.length := by omega
      rw [List.getElem?_append_left hjl] at hrj
      have hne : o.dst ≠ some t := fun hd' => by have := g.once j R.length oj o t hoj ho hd hd'; omega
      have := h.wrote j oj rj t hjl hoj hrj hd ht
      rw [← this]
      cases hd' : o.dst with
      | none => rfl
      | some d =>
        have : d ≠ t := fun e => hne (by rw [hd', e])
        simp [setT, List.getD_eq_getElem?_getD, this]
  · have h1 := h.old t fun j oj hj hoj => hn j oj (by omega) hoj
    have hne : o.dst ≠ some t := hn _ o (by omega) ho
    rw [← h1]
    cases hd' : o.dst with
    | none => rfl
    | some d =>
      have : d ≠ t := fun e => hne (by rw [hd', e])
      simp [setT, List.getD_eq_getElem?_getD, this]
structure Tail (P : Program) (ops : Array Oper) (ms : List Nat) (env0 : List AV) (n0 : Nat) (i k c : Nat) (R' : List Row) (V' : List (Heap × Nat)) (m : Nat) (hv' : List Nat) : Prop where
  env : ∀ (a : Nat) (r : Row), i ≤ a → R'[a]? = some r → EnvAt ops env0 R' a r.env
  step : ∀ (a : Nat) (o : Oper) (r : Row), i ≤ a → ops[a]? = some o → R'[a]? = some r → Step0 P ops ms R' V' hv' a o r
  ids : ∀ (a : Nat) (r : Row) (b : Blk), i ≤ a → R'[a]? = some r → r.blk = some b → n0 + k ≤ r.id ∧ r.id < n0 + k + c ∧ r.id < 32768
  inc : ∀ (a a' : Nat) (r r' : Row) (b b' : Blk), i ≤ a → a < a' → R'[a]? = some r → R'[a']? = some r' → r.blk = some b → r'.blk = some b' → r.id < r'.id
  hvc : ∀ (l q : Nat), m ≤ l → hv'[l]? = some q → i ≤ q ∧ ∃ o, ops[q]? = some o ∧ 3 ≤ cls P o
  hvo : ∀ (l l' q q' : Nat), m ≤ l → l < l' → hv'[l]? = some q → hv'[l']? = some q' → q < q'
theorem Tail.light {P : Program} {ops : Array Oper} {ms : List Nat} {env0 : List AV} {n0 i k k' c c' m : Nat} {R' : List Row} {V' : List (Heap × Nat)} {hv' : List Nat} (t : Tail P ops ms env0 n0 (i + 1) k' c' R' V' m hv') {o : Oper} {r : Row} (ho : ops[i]? = some o) (hr : R'[i]? = some r)
    (he : EnvAt ops env0 R' i r.env) (hs : Step0 P ops ms R' V' hv' i o r) (hk : (r.blk = none ∧ k' = k ∧ c' = c) ∨ (r.id = n0 + k ∧ r.id < 32768 ∧ k' = k + 1 ∧ c = c' + 1)) : Tail P ops ms env0 n0 i k c R' V' m hv' := by
  have cases' : ∀ {a : Nat}, i ≤ a → a = i ∨ i + 1 ≤ a := fun h => by omega
  refine ⟨fun a ra ha hra => ?_, fun a oa ra ha hoa hra => ?_, fun a ra b ha hra hb => ?_, fun a a' ra ra' b b' ha haa hra hra' hb hb' => ?_, fun l q hl hq => ?_, t.hvo⟩
  · rcases cases' ha with rfl | ha
    · rw [hr] at hra; injection hra with hra; subst hra; exact he
    · exact t.env a ra ha hra
  · rcases cases' ha with rfl | ha
    · rw [hr] at hra; injection hra with hra; subst hra
      rw [ho] at hoa; injection hoa with hoa; subst hoa; exact hs
    · exact t.step a oa ra ha hoa hra
  · rcases cases' ha with rfl | ha
    · rw [hr] at hra; injection hra with hra; subst hra
      rcases hk with ⟨h1, _⟩ | ⟨h1, h2, h3, h4⟩
      · rw [h1] at hb; cases hb
      · omega
    · have := t.ids a ra b ha hra hb
      rcases hk with ⟨_, h1, h2⟩ | ⟨_, _, h3, h4⟩ <;> omega
  · rcases cases' ha with rfl | ha
    · rw [hr] at hra; injection hra with hra; subst hra
      have := t.ids a' ra' b' (by omega) hra' hb'
      rcases hk with ⟨h1, _⟩ | ⟨h1, h2, h3, h4⟩
      · rw [h1] at hb; cases hb
      · omega
    · exact t.inc a a' ra ra' b b' ha haa hra hra' hb hb'
  · obtain ⟨h1, h2⟩ := t.hvc l q hl hq
    exact ⟨by omega, h2⟩
theorem keep_more {ms hv h2 : List Nat} {R R2 : List Row} : exs (keepAt ms hv R.length hv.length) 0 R = exs (keepAt ms (hv ++ h2) R.length hv.length) 0 (R ++ R2) := by
  rw [exs_append (fun j hj => ?_)]
  · refine exs_congr fun j _ => ?_
    simp [keepAt]
  · have : Nat.blt j R.length = false := by rw [blt_eq]; simp; omega
    simp [keepAt, this]
theorem evD_ok {P : Program} {F G : Orac} (hF : CallSound P F) (hG : RoundSound P G) {ops : Array Oper} {ms : List Nat} (g : RegOK P ops ms) {env0 : List AV} {n0 : Nat} {fin : List AV → List Row → List (Heap × Nat) → List Nat → Bool} :
    ∀ {l : List Oper} {k : Nat} {env : List AV} {R : List Row} {V : List (Heap × Nat)} {H : Heap} {n : Nat} {hv : List Nat}, (∀ j, l[j]? = ops[R.length + j]?) → V.length = hv.length → EnvAt ops env0 R R.length env →
      evD P F G ops ms n0 fin l R.length k env R V H n hv = true →
      ∃ env' R2 V2 h2, fin env' (R ++ R2) (V ++ (H, n) :: V2) (hv ++ h2) = true ∧ R2.length = l.length ∧ V2.length = h2.length ∧ EnvAt ops env0 (R ++ R2) (R.length + l.length) env' ∧
        Tail P ops ms env0 n0 R.length k (cntA P l) (R ++ R2) (V ++ (H, n) :: V2) hv.length (hv ++ h2)
  | [], k, env, R, V, H, n, hv, _, hV, he, h => by
    refine ⟨env, [], [], [], by simpa [evD, snocK_eq] using h, rfl, rfl, by simpa using he, ⟨fun a r ha hr => ?_, fun a o r ha _ hr => ?_, fun a r b ha hr => ?_, fun a a' r r' b b' ha _ hr => ?_, fun l q hl hq => ?_, fun l l' q q' hl _ hq => ?_⟩⟩
    all_goals first
      | (rw [List.append_nil, List.getElem?_eq_none ha] at hr; cases hr)
      | (rw [List.append_nil, List.getElem?_eq_none hl] at hq; cases hq)
  | o :: rest, k, env, R, V, H, n, hv, hl, hV, he, h => by
    have ho : ops[R.length]? = some o := by have := hl 0; simpa using this.symm
    have light : ∀ (r : Row) (k' : Nat), r.env = env → evD P F G ops ms n0 fin rest (R.length + 1) k' (setT env o.dst r.v) (R ++ [r]) V H n hv = true →
        (∀ R2 V2 h2, V2.length = h2.length → Step0 P ops ms (R ++ r :: R2) (V ++ (H, n) :: V2) (hv ++ h2) R.length o r) →
        ((r.blk = none ∧ k' = k ∧ cntA P rest = cntA P (o :: rest)) ∨ (r.id = n0 + k ∧ r.id < 32768 ∧ k' = k + 1 ∧ cntA P (o :: rest) = cntA P rest + 1)) →
        ∃ env' R2 V2 h2, fin env' (R ++ R2) (V ++ (H, n) :: V2) (hv ++ h2) = true ∧ R2.length = (o :: rest).length ∧ V2.length = h2.length ∧ EnvAt ops env0 (R ++ R2) (R.length + (o :: rest).length) env' ∧
          Tail P ops ms env0 n0 R.length k (cntA P (o :: rest)) (R ++ R2) (V ++ (H, n) :: V2) hv.length (hv ++ h2) := by
      intro r k' hre h hs hk
      have hlen : (R ++ [r]).length = R.length + 1 := by simp
      have h' : evD P F G ops ms n0 fin rest (R ++ [r]).length k' (setT env o.dst r.v) (R ++ [r]) V H n hv = true := by rw [hlen]; exact h
      obtain ⟨env', R2, V2, h2, h1, h3, h4, h5, h6⟩ := evD_ok hF hG g (l := rest) (fun j => by rw [hlen, show R.length + 1 + j = R.length + (j + 1) from by omega, ← hl (j + 1)]; rfl) hV (by rw [hlen]; exact he.set g ho r) h'
      rw [hlen] at h5 h6
      simp only [List.append_assoc, List.singleton_append] at h1 h5 h6
      refine ⟨env', r :: R2, V2, h2, h1, by simp [h3], h4, by simpa [Nat.add_assoc, Nat.add_comm 1] using h5, ?_⟩
      refine h6.light ho (by simp) ?_ (hs R2 V2 h2 h4) hk
      rw [hre]
      exact he.more (Nat.le_refl _)
    have heavy : ∀ (r : Row) (H2 : Heap) (n2 : Nat), r.env = env → r.blk = none → evD P F G ops ms n0 fin rest (R.length + 1) k (setT env o.dst r.v) (R ++ [r]) (V ++ [(H, n)]) H2 n2 (hv ++ [R.length]) = true → 3 ≤ cls P o →
        (∀ R2 V2 h2, V2.length = h2.length → Step0 P ops ms (R ++ r :: R2) (V ++ (H, n) :: (H2, n2) :: V2) (hv ++ R.length :: h2) R.length o r) → cntA P rest = cntA P (o :: rest) →
        ∃ env' R2 V2 h2, fin env' (R ++ R2) (V ++ (H, n) :: V2) (hv ++ h2) = true ∧ R2.length = (o :: rest).length ∧ V2.length = h2.length ∧ EnvAt ops env0 (R ++ R2) (R.length + (o :: rest).length) env' ∧
          Tail P ops ms env0 n0 R.length k (cntA P (o :: rest)) (R ++ R2) (V ++ (H, n) :: V2) hv.length (hv ++ h2) := by
      intro r H2 n2 hre hrb h hc hs hk
      have hlen : (R ++ [r]).length = R.length + 1 := by simp
      have h' : evD P F G ops ms n0 fin rest (R ++ [r]).length k (setT env o.dst r.v) (R ++ [r]) (V ++ [(H, n)]) H2 n2 (hv ++ [R.length]) = true := by rw [hlen]; exact h
      obtain ⟨env', R2, V2, h2, h1, h3, h4, h5, h6⟩ := evD_ok hF hG g (l := rest) (fun j => by rw [hlen, show R.length + 1 + j = R.length + (j + 1) from by omega, ← hl (j + 1)]; rfl) (by simp [hV]) (by rw [hlen]; exact he.set g ho r) h'
      rw [hlen] at h5 h6
      simp only [List.append_assoc, List.singleton_append] at h1 h5 h6
      refine ⟨env', r :: R2, (H2, n2) :: V2, R.length :: h2, h1, by simp [h3], by simp [h4], by simpa [Nat.add_assoc, Nat.add_comm 1] using h5, ?_⟩
      have t : Tail P ops ms env0 n0 (R.length + 1) k (cntA P rest) (R ++ r :: R2) (V ++ (H, n) :: (H2, n2) :: V2) (hv.length + 1) (hv ++ R.length :: h2) := by simpa using h6
      have hself : (hv ++ R.length :: h2)[hv.length]? = some R.length := by simp
      have up : Tail P ops ms env0 n0 (R.length + 1) k (cntA P rest) (R ++ r :: R2) (V ++ (H, n) :: (H2, n2) :: V2) (hv ++ R.length :: h2).length (hv ++ R.length :: h2) :=
        ⟨t.env, t.step, t.ids, t.inc, fun l q hl hq => (by rw [List.getElem?_eq_none hl] at hq; cases hq), fun l l' q q' hl _ hq => (by rw [List.getElem?_eq_none hl] at hq; cases hq)⟩
      have low := up.light ho (k := k) (c := cntA P (o :: rest)) (r := r) (by simp) (by rw [hre]; exact he.more (Nat.le_refl _)) (hs R2 V2 h2 h4) (.inl ⟨hrb, rfl, hk⟩)
      refine ⟨low.env, low.step, low.ids, low.inc, fun l q hl hq => ?_, fun l l' q q' hl hll hq hq' => ?_⟩
      · by_cases e : l = hv.length
        · subst e
          rw [hself] at hq; injection hq with hq; subst hq
          exact ⟨Nat.le_refl _, o, ho, hc⟩
        · obtain ⟨h1, h2⟩ := t.hvc l q (by omega) hq
          exact ⟨by omega, h2⟩
      · by_cases e : l = hv.length
        · subst e
          rw [hself] at hq; injection hq with hq; subst hq
          have := (t.hvc l' q' (by omega) hq').1
          omega
        · exact t.hvo l l' q q' (by omega) hll hq hq'
    have hat : ∀ V2, (V ++ (H, n) :: V2)[hv.length]? = some (H, n) := fun V2 => by rw [← hV]; simp
    have hat1 : ∀ (H2 : Heap) (n2 : Nat) V2, (V ++ (H, n) :: (H2, n2) :: V2)[hv.length + 1]? = some (H2, n2) := fun H2 n2 V2 => by
      rw [← hV, List.getElem?_append_right (by omega), show V.length + 1 - V.length = 1 from by omega]; rfl
    have hself : ∀ h2 : List Nat, (hv ++ R.length :: h2)[hv.length]? = some R.length := fun h2 => by simp
    rw [evD] at h
    simp only [snocK_eq, setTK_eq] at h
    rw [sel3_eq] at h
    split at h
    · rename_i hc
      have hcn : cntA P rest = cntA P (o :: rest) := by rw [cntA, hc]; rfl
      rcases gdK_ok h with ⟨hg, h⟩ | ⟨hg, h⟩
      · obtain ⟨v, h, hs⟩ := pureOp_ok h
        exact light ⟨v, env, 0, none, 0⟩ k rfl h (fun R2 V2 h2 _ => .pure hc rfl hg hs) (.inl ⟨rfl, rfl, hcn⟩)
      · simp only at h
        exact light ⟨.tup [], env, 0, none, 0⟩ k rfl h (fun R2 V2 h2 _ => .skip (by omega) (by simp) hg rfl) (.inl ⟨rfl, rfl, hcn⟩)
    · rename_i hc
      have hcn : cntA P rest = cntA P (o :: rest) := by rw [cntA, hc]; rfl
      rw [layH_eq] at h
      rcases gdK_ok h with ⟨hg, h⟩ | ⟨hg, h⟩
      · obtain ⟨v, h, hs⟩ := readOp_ok h
        refine light ⟨v, env, 0, none, hv.length⟩ k rfl h (fun R2 V2 h2 _ => .read hc rfl hg H n (hat V2) ?_) (.inl ⟨rfl, rfl, hcn⟩)
        rw [keep_more (h2 := h2) (R2 := ⟨v, env, 0, none, hv.length⟩ :: R2)] at hs
        exact hs
      · simp only at h
        exact light ⟨.tup [], env, 0, none, hv.length⟩ k rfl h (fun R2 V2 h2 _ => .skip (by omega) (by simp) hg rfl) (.inl ⟨rfl, rfl, hcn⟩)
    · rename_i hc
      have hcn : cntA P (o :: rest) = cntA P rest + 1 := by rw [cntA, hc]; rfl
      rw [forceN_eq] at h
      rcases gdK_ok h with ⟨hg, h⟩ | ⟨hg, h⟩
      · obtain ⟨v, b, hb, h, hs⟩ := allocOp_ok h
        obtain ⟨_, h⟩ := at_iff.1 h
        rw [hfn_put _ _ hb] at h
        have hbb : setB (hfn H) (Nat.add n0 k) b (Nat.add n0 k) = b := by simp [setB]
        rw [hbb] at h
        exact light ⟨v, env, n0 + k, some b, 0⟩ (k + 1) rfl h (fun R2 V2 h2 _ => .alloc hc b rfl hg hs) (.inr ⟨rfl, hb, rfl, hcn⟩)
      · obtain ⟨hb, h⟩ := ifB_iff.1 h
        rw [Nat.blt_eq] at hb
        exact light ⟨.tup [], env, n0 + k, some .dead, 0⟩ (k + 1) rfl h (fun R2 V2 h2 _ => .skip (by omega) (by simp [hc]) hg rfl) (.inr ⟨rfl, hb, rfl, hcn⟩)
    · rename_i h0 h1 h2
      have hc : 3 ≤ cls P o := by
        have : cls P o ≠ 0 := h0
        have : cls P o ≠ 1 := h1
        have : cls P o ≠ 2 := h2
        omega
      have hcn : cntA P rest = cntA P (o :: rest) := by
        have : Nat.beq (cls P o) 2 = false := by
          cases hb : Nat.beq (cls P o) 2 with
          | false => rfl
          | true => exact absurd (Nat.eq_of_beq_eq_true hb) h2
        simp [cntA, this]
      rw [layH_eq] at h
      rcases gdK_ok h with ⟨hg, h⟩ | ⟨hg, h⟩
      · obtain ⟨v, H2, n2, h, hs⟩ := evOp_ok hF hG h
        refine heavy ⟨v, env, 0, none, 0⟩ H2 n2 rfl rfl h hc (fun R2 V2 h2 _ => .heavy hv.length H n H2 n2 (hself h2) (hat _) (hat1 H2 n2 V2) rfl hg ?_) hcn
        rw [keep_more (h2 := R.length :: h2) (R2 := ⟨v, env, 0, none, 0⟩ :: R2)] at hs
        exact hs
      · simp only at h
        refine heavy ⟨.tup [], env, 0, none, 0⟩ _ n rfl rfl h hc (fun R2 V2 h2 _ => .skipH hv.length H n (hself h2) (hat _) ?_ rfl hg rfl) hcn
        rw [hat1, keep_more (h2 := R.length :: h2) (R2 := ⟨.tup [], env, 0, none, 0⟩ :: R2)]
end
end Ev
namespace Ev
open Go
open Go.RowKit
noncomputable section
def Blk.ckDead (b : Blk) (y : Bool) : Bool := Blk.rec (motive := fun _ => Bool) y (fun _ _ _ _ => false) (fun _ _ => false) (fun _ _ _ _ => false) (fun _ _ _ => false) false (fun _ _ _ _ _ _ _ _ => false) b
theorem ckDead_iff {b : Blk} {y : Bool} : b.ckDead y = true ↔ b = .dead ∧ y = true := by cases b <;> simp [Blk.ckDead]
def jsOf (ms hv : List Nat) (i ver : Nat) : List Nat := (List.range (hv.length + 1)).filter fun j => cond (Nat.beq j ver) false (allowed ms hv i j)
def dsOf (ms hv : List Nat) (a : Nat) : List Nat := (List.range hv.length).filter fun j => cond (free ms a (hv.take (j + 1))) (!anc ms (hv.getD j 0) a) false
def rechk (P : Program) (ms hv : List Nat) (R : List Row) (V : List (Heap × Nat)) (i : Nat) (o : Oper) (r : Row) : List Nat → Bool → Bool
  | [], y => y
  | j :: js, y => match V[j]? with
    | some (H, _) => layH (exs (keepAt ms hv i j) 0 R) H fun H1 => readOp P r.env o H1 fun v => ifB (sameF 8 v r.v) (rechk P ms hv R V i o r js y)
    | none => false
def deadK (V : List (Heap × Nat)) (id : Nat) : List Nat → Bool → Bool
  | [], y => hi y
  | j :: js, y => match V[j + 1]? with
    | some (H, _) => at_ H id fun b => b.ckDead (deadK V id js y)
    | none => false
def chkRow (P : Program) (ops : Array Oper) (ms hv : List Nat) (R : List Row) (V : List (Heap × Nat)) (i : Nat) (o : Oper) (r : Row) (y : Bool) : Bool :=
  sel3 (cls P o) y
    (match jsOf ms hv i r.ver with
    | [] => y
    | j :: js => gdK ops r.env o (fun (k : Nat → Bool) => rechk P ms hv R V i o r (j :: js) (k 0)) (fun k => k 0) (fun _ => y))
    (deadK V r.id (dsOf ms hv i) y) y
def chkAll (P : Program) (ops : Array Oper) (ms hv : List Nat) (R : List Row) (V : List (Heap × Nat)) : List Oper → List Row → Nat → Bool → Bool
  | o :: l, r :: rs, i, y => chkRow P ops ms hv R V i o r (chkAll P ops ms hv R V l rs (i + 1) y)
  | _, _, _, y => y
def finD (P : Program) (ops : Array Oper) (ms : List Nat) (kn : Kont) (env : List AV) (R : List Row) (V : List (Heap × Nat)) (hv : List Nat) : Bool :=
  chkAll P ops ms hv R V ops.toList R 0 (match V[hv.length]? with
    | some (H, n) => layH (exs (fun x => free ms x hv) 0 R) H fun H => kn env H n
    | none => false)
def msK : List Oper → List Nat → (List Nat → Bool) → Bool
  | [], ms, k => k ms
  | o :: l, ms, k => forceS (ancM ms o.after.toList) fun x => snocK ms x fun ms => msK l ms k
theorem msK_eq : ∀ {l : List Oper} {ms : List Nat} {k : List Nat → Bool}, msK l ms k = k (mkMs l ms)
  | [], _, _ => rfl
  | o :: l, ms, k => by rw [msK, forceS_eq, snocK_eq, msK_eq (l := l), mkMs]
def addK (n c : Nat) (k : Nat → Bool) : Bool := match c with | 0 => hi (k n) | c + 1 => forceN (Nat.add n (c + 1)) k
theorem addK_eq {n c : Nat} {k : Nat → Bool} : addK n c k = k (n + c) := by cases c <;> simp [addK, forceN_eq, hi_eq]
def evDraw (P : Program) (F G : Orac) (ops : Array Oper) (kn : Kont) (env : List AV) (H : Heap) (n : Nat) : Bool :=
  ifS (P.follows .mixedOrders) (msK ops.toList [] fun ms => ifS (regOK P ops ms) (addK n (cntA P ops.toList) fun n1 => evD P F G ops ms n (finD P ops ms kn) ops.toList 0 0 env [] [] H n1 []))
section
variable {P : Program} {ops : Array Oper} {ms hv : List Nat} {R : List Row} {V : List (Heap × Nat)}
theorem rechk_ok {i : Nat} {o : Oper} {r : Row} : ∀ {js : List Nat} {y : Bool}, rechk P ms hv R V i o r js y = true → y = true ∧ ∀ j ∈ js, ∃ H n, V[j]? = some (H, n) ∧ ReadSpec P r.env o (layP (exs (keepAt ms hv i j) 0 R) H) r.v
  | [], y, h => ⟨h, fun j hj => by simp at hj⟩
  | j :: js, y, h => by
    rw [rechk] at h
    split at h
    · rename_i H n hV
      rw [layH_eq] at h
      obtain ⟨v, h, hs⟩ := readOp_ok h
      obtain ⟨h1, h2⟩ := ifB_iff.1 h
      rw [sameF_ok h1] at hs
      obtain ⟨hy, hall⟩ := rechk_ok h2
      refine ⟨hy, fun j' hj' => ?_⟩
      rcases List.mem_cons.1 hj' with rfl | hj'
      · exact ⟨H, n, hV, hs⟩
      · exact hall j' hj'
    · cases h
theorem deadK_ok {id : Nat} : ∀ {js : List Nat} {y : Bool}, deadK V id js y = true → y = true ∧ ∀ j ∈ js, ∃ H n, V[j + 1]? = some (H, n) ∧ hfn H id = .dead
  | [], y, h => ⟨h, fun j hj => by simp at hj⟩
  | j :: js, y, h => by
    rw [deadK] at h
    split at h
    · rename_i H n hV
      obtain ⟨_, h⟩ := at_iff.1 h
      obtain ⟨hd, h⟩ := ckDead_iff.1 h
      obtain ⟨hy, hall⟩ := deadK_ok h
      refine ⟨hy, fun j' hj' => ?_⟩
      rcases List.mem_cons.1 hj' with rfl | hj'
      · exact ⟨H, n, hV, hd⟩
      · exact hall j' hj'
    · cases h
def Again (P : Program) (ops : Array Oper) (ms hv : List Nat) (R : List Row) (V : List (Heap × Nat)) (i : Nat) (o : Oper) (r : Row) : Prop :=
  (cls P o = 1 → GW ops r.env o false ∨ ∀ j, j < hv.length + 1 → j ≠ r.ver → allowed ms hv i j = true → ∃ H n, V[j]? = some (H, n) ∧ ReadSpec P r.env o (layP (exs (keepAt ms hv i j) 0 R) H) r.v) ∧
  (cls P o = 2 → ∀ j, j < hv.length → free ms i (hv.take (j + 1)) = true → anc ms (hv.getD j 0) i = false → ∃ H n, V[j + 1]? = some (H, n) ∧ hfn H r.id = .dead)
theorem chkRow_ok {i : Nat} {o : Oper} {r : Row} {y : Bool} (h : chkRow P ops ms hv R V i o r y = true) : y = true ∧ Again P ops ms hv R V i o r := by
  have mem : ∀ {j}, j < hv.length + 1 → j ≠ r.ver → allowed ms hv i j = true → j ∈ jsOf ms hv i r.ver := fun {j} h1 h2 h3 => by
    unfold jsOf
    refine List.mem_filter.2 ⟨List.mem_range.2 h1, ?_⟩
    have : Nat.beq j r.ver = false := by
      cases hb : Nat.beq j r.ver with
      | false => rfl
      | true => exact absurd (Nat.eq_of_beq_eq_true hb) h2
    rw [this]; exact h3
  unfold chkRow at h
  rw [sel3_eq'] at h
  unfold Again
  split at h
  · rename_i hc
    rw [hc]
    split at h
    · rename_i hj
      refine ⟨h, fun _ => .inr fun j h1 h2 h3 => ?_, fun e => by cases e⟩
      have := mem h1 h2 h3
      rw [hj] at this; simp at this
    · rename_i j0 js hj
      rcases gdK_ok h with ⟨hg, h⟩ | ⟨hg, h⟩
      · obtain ⟨hy, hall⟩ := rechk_ok h
        exact ⟨hy, fun _ => .inr fun j h1 h2 h3 => hall j (hj ▸ mem h1 h2 h3), fun e => by cases e⟩
      · exact ⟨h, fun _ => .inl hg, fun e => by cases e⟩
  · rename_i hc
    rw [hc]
    obtain ⟨hy, hall⟩ := deadK_ok h
    refine ⟨hy, fun e => (by cases e), fun _ j h1 h2 h3 => hall j ?_⟩
    unfold dsOf
    refine List.mem_filter.2 ⟨List.mem_range.2 h1, ?_⟩
    rw [h2, h3]; rfl
  · rename_i h1 h2
    exact ⟨h, fun e => absurd e h1, fun e => absurd e h2⟩
theorem chkAll_ok : ∀ {l : List Oper} {rs : List Row} {i : Nat} {y : Bool}, chkAll P ops ms hv R V l rs i y = true → y = true ∧ ∀ j o r, l[j]? = some o → rs[j]? = some r → Again P ops ms hv R V (i + j) o r
  | [], rs, i, y, h => ⟨by simpa [chkAll] using h, fun j o r hj => by simp at hj⟩
  | o :: l, [], i, y, h => ⟨by simpa [chkAll] using h, fun j o r _ hj => by simp at hj⟩
  | o :: l, r :: rs, i, y, h => by
    rw [chkAll] at h
    obtain ⟨h1, h2⟩ := chkRow_ok h
    obtain ⟨hy, hall⟩ := chkAll_ok h1
    refine ⟨hy, fun j o' r' hj hj' => ?_⟩
    cases j with
    | zero => simp at hj hj'; subst hj; subst hj'; exact h2
    | succ j =>
      have := hall j o' r' (by simpa using hj) (by simpa using hj')
      rwa [show i + 1 + j = i + (j + 1) from by omega] at this
end
theorem EnvAt.agree {ops : Array Oper} {env0 env' : List AV} {R : List Row} (h : EnvAt ops env0 R ops.size env') : Agree (asgOps ops.toList) env0 env' := by
  refine ⟨h.len, fun t ht => ?_⟩
  have := h.old t fun j o _ ho hd => ht (List.mem_filterMap.2 ⟨o, List.mem_of_getElem? (i := j) (by simpa using ho), hd⟩)
  rcases Nat.lt_or_ge t env0.length with hlt | hge
  · have hlt' : t < env'.length := by rw [h.len]; exact hlt
    rw [List.getD_eq_getElem?_getD, List.getD_eq_getElem?_getD, List.getElem?_eq_getElem hlt, List.getElem?_eq_getElem hlt'] at this
    rw [List.getElem?_eq_getElem hlt, List.getElem?_eq_getElem hlt']
    simpa using this
  · rw [List.getElem?_eq_none hge, List.getElem?_eq_none (by rw [h.len]; exact hge)]
theorem evDraw_ok {t : Bool} {P : Program} {F G : Orac} (hF : CallSound P F) (hG : RoundSound P G) {id : Nat} {ops : Array Oper} {kn : Kont} {env : List AV} {H : Heap} {n : Nat} (h : evDraw P F G ops kn env H n = true) :
    ∃ env' H' n', kn env' H' n' = true ∧ Agree (asgOps ops.toList) env env' ∧ CodeGoes t P (.region id ops true) env H n env' H' n' := by
  unfold evDraw at h
  simp only [ifS_eq] at h
  obtain ⟨hm, h⟩ := ifB_iff.1 h
  rw [msK_eq] at h
  obtain ⟨hreg, h⟩ := ifB_iff.1 h
  have g := regOK_iff hreg
  rw [addK_eq] at h
  have h0 : EnvAt ops env [] 0 env := ⟨rfl, fun j o r t hj => by omega, fun t _ => rfl⟩
  obtain ⟨env', R, V2, hv, h, hR, hV, he, tl⟩ := evD_ok hF hG g (l := ops.toList) (R := []) (V := []) (hv := []) (fun j => by simp) rfl h0 h
  simp only [List.nil_append, List.length_nil, Nat.zero_add] at h he tl
  have hsz : ops.toList.length = ops.size := by simp
  rw [hsz] at he hR
  unfold finD at h
  obtain ⟨h, hagain⟩ := chkAll_ok h
  split at h
  · rename_i Hm nm hVm
    rw [layH_eq] at h
    have again : ∀ i o r, ops[i]? = some o → R[i]? = some r → Again P ops (mkMs ops.toList []) hv R ((H, n + cntA P ops.toList) :: V2) i o r := fun i o r ho hr => by
      have := hagain i o r (by simpa using ho) hr
      rwa [Nat.zero_add] at this
    have hhv : ∀ k q, hv[k]? = some q → ∃ o, ops[q]? = some o ∧ 3 ≤ cls P o := fun k q hq => (tl.hvc k q (Nat.zero_le _) hq).2
    have good : Good P ops (mkMs ops.toList []) env H n (n + cntA P ops.toList) R ((H, n + cntA P ops.toList) :: V2) hv := by
      refine ⟨g, Nat.le_add_right _ _, ⟨fun a r b hr hb => ?_, fun a a' r r' b b' hr hr' hb hb' e => ?_⟩, hR, fun i r hr => tl.env i r (Nat.zero_le _) hr, fun i o r ho hr => ?_, hhv, fun k l q q' hkl hq hq' => tl.hvo k l q q' (Nat.zero_le _) hkl hq hq', rfl, by simp [hV], ?_⟩
      · exact tl.ids a r b (Nat.zero_le _) hr hb
      · rcases Nat.lt_or_ge a a' with hlt | hge
        · have := tl.inc a a' r r' b b' (Nat.zero_le _) hlt hr hr' hb hb'; omega
        · rcases Nat.lt_or_ge a' a with hlt | hge'
          · have := tl.inc a' a r' r b' b (Nat.zero_le _) hlt hr' hr hb' hb; omega
          · omega
      · cases tl.step i o r (Nat.zero_le _) ho hr with
        | pure hc hb hg hs => exact .pure (by omega) hb hg hs
        | read hc hb hg H1 n1 hV1 hs =>
          rcases (again i o r ho hr).1 hc with hf | hall
          · exfalso
            unfold GW at hg hf
            split at hg
            · simp only [*] at hf; cases hf
            · rename_i j want hgd
              simp only [hgd] at hf
              rcases hg with ⟨b, hb1, hb2⟩ | ⟨hc0, _⟩
              · rcases hf with ⟨b', hb1', hb2'⟩ | ⟨_, l, hb1'⟩
                · rw [hb1] at hb1'; injection hb1' with hb1'; subst hb1'
                  rw [hb2] at hb2'; cases hb2'
                · rw [hb1] at hb1'; cases hb1'
              · cases hc0
          · refine .read (by omega) hb hg fun j H2 n2 hV2 ha => ?_
            by_cases e : j = r.ver
            · subst e
              rw [hV1] at hV2; injection hV2 with hV2; injection hV2 with e1 _; subst e1
              exact hs
            · have hj : j < hv.length + 1 := by
                rcases Nat.lt_or_ge j (hv.length + 1) with h' | h'
                · exact h'
                · rw [List.getElem?_eq_none (by simp [hV]; omega)] at hV2; cases hV2
              obtain ⟨H3, n3, hV3, hs3⟩ := hall j hj e ha
              rw [hV2] at hV3; injection hV3 with hV3; injection hV3 with e1 _; subst e1
              exact hs3
        | alloc hc b hb hg hs => exact .alloc (by omega) b hb hg hs
        | skip hc hb hg hv => exact .skip hc (fun b h => (hb b h).1) hg hv
        | heavy k H1 n1 H2 n2 hk hV1 hV2 hb hg hs => exact .heavy k H1 n1 H2 n2 hk hV1 hV2 hb hg hs
        | skipH k H1 n1 hk hV1 hV2 hb hg hv => exact .skipH k H1 n1 hk hV1 hV2 hb hg hv
      · intro a r b j q H1 n1 hr hb hq hV1 hfree hanc
        have ha : a < ops.size := by
          rcases Nat.lt_or_ge a ops.size with h' | h'
          · exact h'
          · rw [List.getElem?_eq_none (by rw [hR]; exact h')] at hr; cases hr
        have ho : ops[a]? = some ops[a] := by simp [ha]
        have hj : j < hv.length := by
          rcases Nat.lt_or_ge j hv.length with h' | h'
          · exact h'
          · rw [List.getElem?_eq_none h'] at hq; cases hq
        have two : cls P ops[a] = 2 := by
          cases tl.step a _ r (Nat.zero_le _) ho hr with
          | pure hc hb' => rw [hb'] at hb; cases hb
          | read hc hb' => rw [hb'] at hb; cases hb
          | alloc hc b' hb' => exact hc
          | skip hc hb' hg hv => exact (hb' b hb).2
          | heavy k H1 n1 H2 n2 hk hV1 hV2 hb' => rw [hb'] at hb; cases hb
          | skipH k H1 n1 hk hV1 hV2 hb' => rw [hb'] at hb; cases hb
        obtain ⟨H2, n2, hV2, hd⟩ := (again a _ r ho hr).2 two j hj hfree (by rw [List.getD_eq_getElem?_getD, hq]; exact hanc)
        rw [hV1] at hV2; injection hV2 with hV2; injection hV2 with e1 _; subst e1
        exact hd
    exact ⟨env', _, nm, h, he.agree, good.goes hm he hVm id⟩
  · cases h
end
end Ev
namespace Ev
open Go
open Go.RowKit
noncomputable section
theorem putObj_other {w : World} {r k : Nat} {o : Obj} (h : k ≠ r) : (w.putObj r o).heap[k]? = w.heap[k]? := World.putObj_heap_other h
theorem went_hide {P : Program} {θ : Theta} {h : Nat → Blk} {n B : Nat} {w : World} (r : HRel P θ h B w) (f : Fresh θ n) (o : Obj) : Went P θ h n B w θ h n (w.alloc o) := by
  refine ⟨Theta.le_refl _, Nat.le_refl _, fun _ _ => rfl, r.keep (Theta.le_refl _) (by simp) (fun b l hb hl => heap_alloc_ne _ _ ?_), f, Frm.alloc θ h w o, ?_⟩
  · have := r.lt hb hl; omega
  · exact ⟨fun b l hb hl => .inl ⟨b, l, hb, hl, rfl⟩, fun b l hb hl => .inl ⟨b, l, hb, hl, rfl⟩⟩
theorem went_drop {P : Program} {θ : Theta} {h : Nat → Blk} {n B : Nat} {w : World} (r : HRel P θ h B w) (f : Fresh θ n) {b : Nat} {loc : Loc} (hl : θ.blk b = some loc) (hb : (h b).own = true) (o : Obj) :
    Went P θ h n B w θ (setB h b .dead) n (w.putObj loc.blk o) := by
  have k := went_kill r f b
  refine ⟨Theta.le_refl _, Nat.le_refl _, fun _ _ => rfl, k.rel.keep (Theta.le_refl _) (by simp) (fun x l hx hlx => putObj_other fun e => ?_), f, ?_, k.grows⟩
  · have hxb : b ≠ x := fun e' => hx (by subst e'; simp [setB])
    have hxd : h x ≠ .dead := by simpa [setB, hxb] using hx
    exact hxb (r.inj b x loc l (own_ne hb) hxd hl hlx e.symm)
  · refine ⟨rfl, rfl, rfl, by simp, fun q _ hn => putObj_other fun e => hn b loc hb hl e.symm⟩
theorem went_beside {P : Program} {θ θ' : Theta} {h h' : Nat → Blk} {n n' B : Nat} {w w' : World} {b : Nat} {x : Blk} {loc : Loc} {o o' : Obj} (r : HRel P θ (setB h b x) B w) (hx : x.own = true) (hl : θ.blk b = some loc)
    (hd : h b = .dead) (k : Went P θ h n B (w.putObj loc.blk o) θ' h' n' w') (hb : BRel P θ' B (w'.putObj loc.blk o') loc x) : Went P θ (setB h b x) n B w θ' (setB h' b x) n' (w'.putObj loc.blk o') := by
  have hbx : setB h b x b = x := by simp [setB]
  have hlt : loc.blk < w.heap.size := r.lt (b := b) (by rw [hbx]; exact own_ne hx) hl
  have far0 : ∀ y l, h y ≠ .dead → θ.blk y = some l → l.blk ≠ loc.blk := fun y l hy hly e => by
    have hyb : b ≠ y := fun e' => hy (e' ▸ hd)
    exact hyb (r.inj b y loc l (by rw [hbx]; exact own_ne hx) (by simpa [setB, hyb] using hy) hl hly e.symm)
  have far : ∀ y l, h' y ≠ .dead → θ'.blk y = some l → l.blk ≠ loc.blk := fun y l hy hly e => by
    rcases k.grows.any y l hy hly with ⟨b0, l0, h0, t0, e0⟩ | hge
    · exact far0 b0 l0 h0 t0 (e0.trans e)
    · simp at hge; omega
  have hl' := k.le.1 _ _ hl
  have self : w'.heap[loc.blk]? = (w.putObj loc.blk o).heap[loc.blk]? := k.frm.block _ (by simpa using hlt) fun y l hy hly => far0 y l (own_ne hy) hly
  have hsz : w.heap.size ≤ w'.heap.size := by have := k.frm.size; simpa using this
  refine ⟨k.le, k.num, k.old, ⟨fun y hy => ?_, fun y z l m hy hz hly hmz e => ?_⟩, k.fresh, ?_, ?_⟩
  · by_cases e : b = y
    · subst e
      refine ⟨loc, hl', by simp; omega, ?_⟩
      simpa [setB] using hb
    · have hy' : h' y ≠ .dead := by simpa [setB, e] using hy
      obtain ⟨l, hly, hlt', hr⟩ := k.rel.blk y hy'
      refine ⟨l, hly, by simpa using hlt', ?_⟩
      rw [show setB h' b x y = h' y from by simp [setB, e]]
      exact hr.keep (Theta.le_refl _) (putObj_other (far y l hy' hly))
  · by_cases ey : b = y
    · subst ey
      by_cases ez : b = z
      · exact ez
      · rw [hl'] at hly; injection hly with hly; subst hly
        exact absurd e.symm (far z m (by simpa [setB, ez] using hz) hmz)
    · by_cases ez : b = z
      · subst ez
        rw [hl'] at hmz; injection hmz with hmz; subst hmz
        exact absurd e (far y l (by simpa [setB, ey] using hy) hly)
      · exact k.rel.inj y z l m (by simpa [setB, ey] using hy) (by simpa [setB, ez] using hz) hly hmz e
  · refine ⟨k.frm.os, k.frm.tape, k.frm.output, by simpa using hsz, fun q hq hn => ?_⟩
    have hqb : q ≠ loc.blk := fun e => hn b loc (by rw [hbx]; exact hx) hl e.symm
    rw [putObj_other hqb, k.frm.block q (by simpa using hq) fun y l hy hly => ?_, putObj_other hqb]
    have hyb : b ≠ y := fun e' => own_ne hy (e' ▸ hd)
    exact hn y l (by simpa [setB, hyb] using hy) hly
  · have back : ∀ y, h y ≠ .dead → setB h b x y = h y := fun y hy => by
      have hyb : b ≠ y := fun e' => hy (e' ▸ hd)
      simp [setB, hyb]
    refine ⟨fun y l hy hly => ?_, fun y l hy hly => ?_⟩
    · by_cases e : b = y
      · subst e
        rw [hl'] at hly; injection hly with hly; subst hly
        exact .inl ⟨b, loc, by rw [hbx]; exact hx, hl, rfl⟩
      · rcases k.grows.own y l (by simpa [setB, e] using hy) hly with ⟨b0, l0, h0, t0, e0⟩ | hge
        · exact .inl ⟨b0, l0, by rw [back b0 (own_ne h0)]; exact h0, t0, e0⟩
        · exact .inr (by simpa using hge)
    · by_cases e : b = y
      · subst e
        rw [hl'] at hly; injection hly with hly; subst hly
        exact .inl ⟨b, loc, by rw [hbx]; exact own_ne hx, hl, rfl⟩
      · rcases k.grows.any y l (by simpa [setB, e] using hy) hly with ⟨b0, l0, h0, t0, e0⟩ | hge
        · exact .inl ⟨b0, l0, by rw [back b0 h0]; exact h0, t0, e0⟩
        · exact .inr (by simpa using hge)
def layA : List Nat → List AV → List AV → (List AV → Bool) → Bool
  | [], [], e, k => k e
  | p :: ps, a :: as, e, k => setLK e p a fun e => layA ps as e k
  | _, _, _, _ => false
structure Known (θ : Theta) (env : List AV) (tms : Array Value) : Prop where
  tmps : ∀ t, VR θ (env.getD t .bad) (tms.getD t undef)
  len : env.length ≤ tms.size
theorem Known.set {θ : Theta} {env : List AV} {tmps : Array Value} (s : Known θ env tmps) (p : Nat) {a : AV} {v : Value} (h : VR θ a v) : Known θ (env.set p a) (tmps.setIfInBounds p v) := by
  have hlen := s.len
  refine ⟨fun t => ?_, by simpa using s.len⟩
  simp only [List.getD_eq_getElem?_getD, Array.getD_eq_getD_getElem?, List.getElem?_set, Array.getElem?_setIfInBounds]
  by_cases e : p = t
  · subst e
    simp only [if_true]
    by_cases h1 : p < env.length
    · rw [if_pos h1, if_pos (by omega)]
      exact h
    · rw [if_neg h1]
      exact .inl rfl
  · simp only [if_neg e]
    have := s.tmps t
    simpa only [List.getD_eq_getElem?_getD, Array.getD_eq_getD_getElem?] using this
theorem layA_ok : ∀ {ps : List Nat} {as e : List AV} {k : List AV → Bool}, layA ps as e k = true → ∃ e', k e' = true ∧ ps.length = as.length ∧
    ∀ (θ : Theta) (tmps : Array Value) (vs : List Value), VRs θ as vs → Known θ e tmps → Known θ e' ((ps.zip vs).foldl (fun tmps (t, a) => tmps.setIfInBounds t a) tmps)
  | [], [], e, k, h => ⟨e, h, rfl, fun θ tmps vs hv hk => by simpa using hk⟩
  | p :: ps, a :: as, e, k, h => by
    rw [layA, setLK_eq] at h
    obtain ⟨e', h1, h2, h3⟩ := layA_ok h
    refine ⟨e', h1, by simp [h2], fun θ tmps vs hv hk => ?_⟩
    cases hv with
    | cons hv hvs => exact h3 θ _ _ hvs (hk.set p hv)
  | [], _ :: _, _, _, h => by simp [layA] at h
  | _ :: _, [], _, _, h => by simp [layA] at h
def noRange (X : Side) : Side := { X with range := fun _ _ _ _ _ _ _ _ _ => false, later := fun _ _ _ _ _ => false }
def evRound (P : Program) (F G : Orac) (X : Side) (ps : List Nat) (as bd : Code) (xa xb : An) (fi ne : Nat) (p : List Nat) (l : Nat) (env args : List AV) (H : Heap) (n : Nat) (k : AV → Heap → Nat → Bool) : Bool :=
  ifB (Nat.blt l 32768) (hput H l .dead fun H => takeK 0 ne env fun env0 => takeK 0 ps.length args fun args => layA ps args env0 fun env' => joinP (fun H n => hput H l (.loop fi p env) fun H => k (.bool true) H n) fun (j : Heap → Nat → Bool) =>
    goK xa (evCode P F G (noRange X) as xa (p ++ [0]) env' H n [] (fun _ _ _ => false) fun env1 H n => goK xb (evCode P F G (noRange X) bd xb (p ++ [1]) env1 H n [] (fun _ _ _ => false) fun _ H n => j H n)))
theorem evRound_ok {P : Program} {F G : Orac} (hF : CallSound P F) (hG : RoundSound P G) {root : Code} {X : Side} (hX : SideOK false P root (noRange X)) {ps : Array Tmp} {as bd : Code} {xa xb : An} {fi ne : Nat} {p : List Nat} {l : Nat} {env args : List AV} {H : Heap} {n : Nat} {k : AV → Heap → Nat → Bool} {g : Operand}
    (hroot : (P.funcs[fi]?).bind (·.body) = some root) (hp : codeAt root p = some (.rangeFunc g ps as bd)) (hl : hfn H l = .loop fi p env) (h : evRound P F G X ps.toList as bd xa xb fi ne p l env args H n k = true) :
    ∃ v H' n', k v H' n' = true ∧ AnswersR P l args H n v H' n' := by
  unfold evRound joinP at h
  obtain ⟨hlt, h⟩ := ifB_iff.1 h
  rw [Nat.blt_eq] at hlt
  rw [hput_eq] at h
  obtain ⟨h, _⟩ := takeK_ok h
  obtain ⟨h, _⟩ := takeK_ok h
  simp only [List.replicate_zero, List.append_nil] at h
  obtain ⟨env', h, hlen, hlay⟩ := layA_ok h
  obtain ⟨x, env1, H1, n1, he1, _, hto1⟩ := evCode_ok hF hG hX _ _ _ _ _ _ _ _ _ (goK_ok h) (codeAt_step hp rfl)
  have hx : x = .normal := by
    cases x with
    | normal => rfl
    | ret => exact (Bool.false_ne_true he1).elim
    | exit i => exact (Bool.false_ne_true he1).elim
    | _ => exact (Bool.false_ne_true he1).elim
  subst hx
  have he1 : goK xb (evCode P F G (noRange X) bd xb (p ++ [1]) env1 H1 n1 [] (fun _ _ _ => false) fun _ H n => hput H l (.loop fi p env) fun H => k (.bool true) H n) = true := he1
  obtain ⟨y, env2, H2, n2, he2, _, hto2⟩ := evCode_ok hF hG hX _ _ _ _ _ _ _ _ _ (goK_ok he1) (codeAt_step hp rfl)
  have hy : y = .normal := by
    cases y with
    | normal => rfl
    | ret => exact (Bool.false_ne_true he2).elim
    | exit i => exact (Bool.false_ne_true he2).elim
    | _ => exact (Bool.false_ne_true he2).elim
  subst hy
  have he2 : (hput H2 l (.loop fi p env) fun H => k (.bool true) H n2) = true := he2
  rw [hput_eq] at he2
  refine ⟨_, _, _, he2, fun θ w B vs loc r f hB hg hvs hloc m => ?_⟩
  have hr := r.at hloc
  rw [hl] at hr
  obtain ⟨hBl, tmps, ps', as', bd', dd, fn, hsite, hrec, htr, hsz⟩ := hr
  have hsite' : siteAt P fi p = some (ps, as, bd) := by
    unfold siteAt
    rw [hroot, Option.bind_some, hp]
  rw [hsite] at hsite'
  injection hsite' with hsite'
  injection hsite' with e1 e2
  injection e2 with e2 e3
  subst e1; subst e2; subst e3
  have hdead : hfn (Tr.put 5 H l .dead) l = .dead := by rw [hfn_put _ _ hlt]; simp [setB]
  have hback : setB (hfn (Tr.put 5 H l .dead)) l (.loop fi p env) = hfn H := by
    rw [hfn_put _ _ hlt]
    funext q
    by_cases e : l = q
    · subst e; simp [setB, hl]
    · simp [setB, e]
  have hback2 : hfn (Tr.put 5 H2 l (.loop fi p env)) = setB (hfn H2) l (.loop fi p env) := hfn_put _ _ hlt
  have hown : (Blk.loop fi p env).own = true := rfl
  have hwl : loc.blk < w.heap.size := lt_of_heap hrec
  have hk0 := went_kill r f l
  rw [← hfn_put _ _ hlt] at hk0
  have hargs : vs.length = ps'.size := by
    have h1 := hvs.length
    have h2 : ps'.toList.length = args.length := hlen
    simp at h2
    omega
  have hyield := run_yield (P := P) (args := vs.toArray) hrec (by simpa using hargs)
  have hfold : ((ps'.zip vs.toArray).foldl (fun tmps (t, a) => tmps.setIfInBounds t a) tmps) = ((ps'.toList.zip vs).foldl (fun tmps (t, a) => tmps.setIfInBounds t a) tmps) := by
    rw [← Array.foldl_toList, Array.toList_zip]
  refine ⟨fn, _, as', bd', hyield, roundIn_of_wpIn trivial ?_⟩
  simp only
  rw [hfold]
  have hkn := hlay θ tmps vs hvs ⟨fun t => htr.val t, hsz⟩
  let S1 : Start := ⟨θ, hfn (Tr.put 5 H l .dead), n, B, w, 0, Nat.zero_le _⟩
  have s1 : Now P S1 env' (Tr.put 5 H l .dead) n { tmps := (ps'.toList.zip vs).foldl (fun tmps (t, a) => tmps.setIfInBounds t a) tmps, defers := [] } w θ :=
    ⟨hB, Went.refl hk0.rel f, hg, hkn.tmps, hkn.len, MarksOK.nil _ _ _ _⟩
  refine hto1 _ m S1 _ w θ _ ⟨looseR_round loc.blk, fun e => by cases e⟩ s1 fun a1 w1 θ1 t1 => ?_
  have far0 : ∀ (b : Nat) (l' : Loc), hfn (Tr.put 5 H l .dead) b ≠ .dead → θ.blk b = some l' → l'.blk ≠ loc.blk := fun b l' hb hb' e => by
    have hbl : l ≠ b := fun e' => hb (e' ▸ hdead)
    rw [hfn_put _ _ hlt] at hb
    exact hbl (r.inj l b loc l' (by rw [hl]; exact own_ne hown) (by simpa [setB, hbl] using hb) hloc hb' e.symm)
  have hw1 : w1.heap[loc.blk]? = some (.loop { state := .ready, pending := none, fn, tmps, params := ps', assign := as', body := bd', defers := dd }) := by
    rw [t1.went.frm.block _ hwl fun b l' hb hb' => far0 b l' (own_ne hb) hb']; exact hrec
  refine ⟨_, run_beginRound hw1 rfl, ?_⟩
  have go1 : Went P θ (hfn H) n B w θ1 (setB (hfn H1) l (.loop fi p env)) n1 w1 := by
    have hex : ∀ (h : Nat → Blk), over h (fun b => if l = b then some (.loop fi p env) else none) = setB h l (.loop fi p env) := fun h => by
      funext b
      by_cases e : l = b <;> simp [over, setB, e]
    have := Went.over (ex := fun b => if l = b then some (.loop fi p env) else none) (by rw [hex, hback]; exact r) (fun b x hb => by
      by_cases e : l = b
      · subst e; exact hdead
      · simp [e] at hb) t1.went
    rw [hex, hex, hback] at this
    exact this
  have hd1 : hfn H1 l = .dead := by
    by_cases hd : hfn H1 l = .dead
    · exact hd
    · exfalso
      have hl1 := t1.went.le.1 _ _ hloc
      rcases t1.went.grows.any l loc hd hl1 with ⟨b0, l0, h0, t0, e0⟩ | hge
      · exact far0 b0 l0 h0 t0 e0
      · have : w.heap.size ≤ loc.blk := hge
        omega
  have hl1 := t1.went.le.1 _ _ hloc
  have hsz1 : w.heap.size ≤ w1.heap.size := t1.went.frm.size
  have far1 : ∀ (b : Nat) (l' : Loc), hfn H1 b ≠ .dead → θ1.blk b = some l' → l'.blk ≠ loc.blk := fun b l' hb hb' e => by
    rcases t1.went.grows.any b l' hb hb' with ⟨b0, l0, h0, t0, e0⟩ | hge
    · exact far0 b0 l0 h0 t0 (e0.trans e)
    · have : w.heap.size ≤ l'.blk := hge
      omega
  generalize hob : Obj.loop { state := .busy, pending := none, fn, tmps, params := ps', assign := as', body := bd', defers := dd } = ob
  have rel2 : HRel P θ1 (hfn H1) B (w1.putObj loc.blk ob) := t1.went.rel.keep (Theta.le_refl _) (by simp) (fun b l' hb hb' => putObj_other (far1 b l' hb hb'))
  let S2 : Start := ⟨θ1, hfn H1, n1, B, w1.putObj loc.blk ob, 0, Nat.zero_le _⟩
  have s2 : Now P S2 env1 H1 n1 a1 (w1.putObj loc.blk ob) θ1 := by
    refine ⟨?_, Went.refl rel2 t1.went.fresh, t1.glob, t1.tmps, t1.len, ?_⟩
    · show B ≤ (w1.putObj loc.blk ob).heap.size
      simp; omega
    · obtain ⟨rs, e, hnd, hrs⟩ := t1.defs
      refine ⟨rs, e, hnd, fun r hr => ?_⟩
      obtain ⟨g1, g2, g3⟩ := hrs r hr
      refine ⟨g1, ?_, g3⟩
      rw [putObj_other (fun e => by rw [e, hw1] at g2; cases g2)]
      exact g2
  refine hto2 _ m S2 _ _ θ1 _ ⟨looseR_round loc.blk, fun e => by cases e⟩ s2 fun a3 w3 θ3 t3 => ?_
  have hsz3 : w1.heap.size ≤ w3.heap.size := by have := t3.went.frm.size; simpa [S2] using this
  have hw3 : w3.heap[loc.blk]? = some ob := by
    rw [t3.went.frm.block _ (by show loc.blk < (w1.putObj loc.blk ob).heap.size; simp; omega) fun b l' hb hb' => far1 b l' (own_ne hb) hb']
    exact World.putObj_heap_same (by omega)
  have hend := run_endRound (P := P) none (hob ▸ hw3)
  refine ⟨_, _, hend, .bool true, θ3, rfl, ?_, .inr (by simp [Ev.conc])⟩
  rw [hback2]
  refine go1.trans ?_
  refine went_beside (o := ob) go1.rel hown hl1 hd1 t3.went ⟨hBl, tmps, ps', as', bd', dd, fn, hsite, World.putObj_heap_same (by omega), ?_, hsz⟩
  exact ⟨fun t => (htr.val t).le (Theta.le_trans t1.went.le t3.went.le)⟩
end
end Ev
namespace Ev
open Go
open Go.RowKit
noncomputable section
def evRange (P : Program) (F : Orac) (fi : Nat) (f : Operand) (p : List Nat) (kn : Kont) (env : List AV) (H : Heap) (n : Nat) : Bool :=
  (ev P env f).ckFn fun g first cap => Fn.rec (motive := fun _ => Bool) (fun fx => ifB (Nat.blt n 32768) (forceN (Nat.succ n) fun n1 => hput H n (.loop fi p env) fun H1 =>
    F fx (first ++ .fn (.yield n) [] [] :: cap) H1 n1 fun _ H2 n2 => at_ H2 n fun b => b.ckLoop fun _ _ _ => hput H2 n .dead fun H3 => kn env H3 n2)) (fun _ => false) (fun _ _ => false) (fun _ _ _ _ => false) (fun _ => false) g
theorem evRange_ok {P : Program} {F : Orac} (hF : CallSound P F) {root : Code} {fi : Nat} {f : Operand} {ps : Array Tmp} {as bd : Code} {p : List Nat} {kn : Kont} {env : List AV} {H : Heap} {n : Nat}
    (hroot : (P.funcs[fi]?).bind (·.body) = some root) (hp : codeAt root p = some (.rangeFunc f ps as bd)) (h : evRange P F fi f p kn env H n = true) :
    ∃ H' n', kn env H' n' = true ∧ CodeGoes true P (.rangeFunc f ps as bd) env H n env H' n' := by
  unfold evRange at h
  obtain ⟨g, first, cap, hx, h⟩ := ckFn_iff.1 h
  cases g with
  | func fx =>
    obtain ⟨hn32, h⟩ := ifB_iff.1 h
    rw [Nat.blt_eq] at hn32
    rw [forceN_eq, hput_eq] at h
    obtain ⟨v, H2, n2, h, hcall, hans⟩ := hF _ _ _ _ _ h
    obtain ⟨_, h⟩ := at_iff.1 h
    obtain ⟨g2, p2, e2, hb2, h⟩ := ckLoop_iff.1 h
    rw [hput_eq] at h
    refine ⟨_, _, h, fun Fe m S a w θ Q hL s hQ => wpIn_rangeFunc fun fn _ => ?_⟩
    have vf : VR θ (ev P env f) (a.eval f) := ev_ok s.glob f fun t _ => s.tmps t
    rw [hx] at vf
    obtain ⟨fs, cs, gv, hgv, hfs, hcs, hv⟩ := vf.fn
    simp only [fnC, Option.some.injEq] at hgv
    subst hgv
    generalize hob : Obj.loop { state := .ready, pending := none, fn, tmps := a.tmps, params := ps, assign := as, body := bd, defers := w.heap.size } = ob
    have hsite : siteAt P fi p = some (ps, as, bd) := by
      unfold siteAt
      rw [hroot, Option.bind_some, hp]
    have hB := s.room
    have k1 := went_hide s.went.rel s.went.fresh (.deferred (some []))
    have ha1 : (w.alloc (.deferred (some []))).heap.size = w.heap.size + 1 := by simp
    have hb : BRel P (θ.add n ⟨(w.alloc (.deferred (some []))).heap.size, 0, 0⟩) S.B ((w.alloc (.deferred (some []))).alloc ob) ⟨(w.alloc (.deferred (some []))).heap.size, 0, 0⟩ (.loop fi p env) := by
      refine ⟨by show S.B ≤ (w.alloc (.deferred (some []))).heap.size; omega, a.tmps, ps, as, bd, w.heap.size, fn, hsite, ?_, ⟨fun t => (s.tmps t).le (Theta.le_add (s.went.fresh n (Nat.le_refl _)) _)⟩, s.len⟩
      rw [hob]
      exact World.alloc_heap_new _ _
    have k2 := went_alloc (w' := (w.alloc (.deferred (some []))).alloc ob) k1.rel k1.fresh (ob := ob) (b := .loop fi p env) (sz := 0) rfl rfl rfl rfl hb
    have k := k1.trans k2
    rw [← hfn_put _ _ hn32] at k
    have hθn : (θ.add n ⟨(w.alloc (.deferred (some []))).heap.size, 0, 0⟩).blk n = some ⟨(w.alloc (.deferred (some []))).heap.size, 0, 0⟩ := Theta.add_self _ _ _
    have hround : Fe.round = none := hL.2 rfl
    refine ⟨w.heap.size + 1, [{ target := .collected w.heap.size, args := #[] }], (w.alloc (.deferred (some []))).alloc ob, { target := .fn (.func fx) cs.toArray, args := (fs ++ [Value.func (.yield (w.heap.size + 1)) #[] #[]]).toArray },
      (w.alloc (.deferred (some []))).alloc ob, fx, (fs ++ [Value.func (.yield (w.heap.size + 1)) #[] #[]] ++ cs).toArray, (w.alloc (.deferred (some []))).alloc ob, ?_, ?_, ?_, ?_, ?_, ?_⟩
    · rw [hround, ← hob]
      exact run_enterLoop_outer _ _ _ _ _
    · simp only [resolve, hv]
      simp [go_sem, Deferred.ofValue, Act.eval]
    · exact fun f' _ => hL.1.fn f'
    · have := hcall (fs ++ [Value.func (.yield (w.heap.size + 1)) #[] #[]] ++ cs).toArray ((w.alloc (.deferred (some []))).alloc ob)
      simpa [invoke] using this
    · intro hd; simp [hL.1.depth] at hd
    · have hargs : VRs (θ.add n ⟨(w.alloc (.deferred (some []))).heap.size, 0, 0⟩) (first ++ .fn (.yield n) [] [] :: cap) (fs ++ [Value.func (.yield (w.heap.size + 1)) #[] #[]] ++ cs) := by
        rw [List.append_assoc]
        refine VRs.append ((VRs.of_concs hfs).le k.le) (.cons (.inr ?_) ((VRs.of_concs hcs).le k.le))
        simp only [Ev.conc, concs, fnC, hθn]
        simp
      have hc := hans _ ((w.alloc (.deferred (some []))).alloc ob) S.B _ k.rel k.fresh (by simp; omega) (s.glob.le k.le) hargs (m - 1)
      refine CallsIn.mono (hL.1.calls _ _ _ _ _ _ hc) ?_
      rintro e w3 ⟨v', θ', rfl, hw, _⟩
      have hn' := hw.le.1 _ _ hθn
      have hr := hw.rel.at hn'
      rw [hb2] at hr
      obtain ⟨_, tmps', ps', as', bd', dd', fn', _, hrec, _, _⟩ := hr
      have hrec : w3.heap[w.heap.size + 1]? = some (.loop { state := .ready, pending := none, fn := fn', tmps := tmps', params := ps', assign := as', body := bd', defers := dd' }) := by rw [← ha1]; exact hrec
      refine ⟨none, _, run_endLoop hrec (by simp), ?_⟩
      generalize Obj.loop { state := .exhausted, pending := none, fn := fn', tmps := tmps', params := ps', assign := as', body := bd', defers := dd' } = o2
      have hown : (hfn H2 n).own = true := by rw [hb2]; rfl
      have k4 := went_drop hw.rel hw.fresh hn' hown o2
      rw [← hfn_put _ _ hn32] at k4
      have k4 : Went P θ' (hfn H2) n2 S.B w3 θ' (hfn (Tr.put 5 H2 n .dead)) n2 (w3.putObj (w.heap.size + 1) o2) := by
        have : (⟨(w.alloc (.deferred (some []))).heap.size, 0, 0⟩ : Loc).blk = w.heap.size + 1 := ha1
        rw [this] at k4
        exact k4
      have all := (k.trans hw).trans k4
      have hm0 : MarksOK P S.lo (θ.add n ⟨(w.alloc (.deferred (some []))).heap.size, 0, 0⟩) (hfn (Tr.put 5 H n (.loop fi p env))) ((w.alloc (.deferred (some []))).alloc ob) ({ target := .collected w.heap.size, args := #[] } :: a.defers) := by
        obtain ⟨rs, ⟨e, hok⟩, hnd, hrs⟩ := s.defs.went k
        refine ⟨w.heap.size :: rs, ⟨by rw [← e]; rfl, fun d hd => (List.mem_cons.1 hd).elim (fun h => .inl ⟨_, h⟩) (hok d)⟩, List.nodup_cons.2 ⟨fun hmem => ?_, hnd⟩, fun r hr => ?_⟩
        · obtain ⟨rs0, ⟨e0, _⟩, _, hrs0⟩ := s.defs
          have : rs0 = rs := e0.symm.trans e
          subst this
          have := lt_of_heap (hrs0 _ hmem).2.1
          omega
        · rcases List.mem_cons.1 hr with rfl | hr
          · refine ⟨Nat.le_trans S.hlo s.went.frm.size, ?_, fun b l hb hl e => ?_⟩
            · rw [heap_alloc_ne _ _ (by omega)]
              exact World.alloc_heap_new _ _
            · rw [hfn_put _ _ hn32] at hb
              by_cases eb : n = b
              · subst eb
                rw [hθn] at hl; injection hl with hl; subst hl
                simp only at e; omega
              · have hl' : θ.blk b = some l := by
                  have : (θ.add n ⟨(w.alloc (.deferred (some []))).heap.size, 0, 0⟩).blk b = θ.blk b := by
                    show (if n = b then _ else θ.blk b) = _
                    rw [if_neg eb]
                  rw [← this]; exact hl
                have := s.went.rel.lt (by simpa [setB, eb] using hb) hl'
                omega
          · exact hrs r hr
      refine hQ _ _ θ' ⟨s.low, s.went.trans all, s.glob.le all.le, fun t => (s.tmps t).le all.le, s.len, ?_⟩
      exact hm0.went (hw.trans k4)
  | _ => exact (Bool.false_ne_true h).elim
end
end Ev
namespace Ev
open Go
open Go.RowKit
noncomputable section
abbrev KR := AV → Heap → Nat → Bool
abbrev KJ := List AV → Heap → Nat → Bool
abbrev KQ := AV → Bool
abbrev KN := Nat → Bool
abbrev KH := Heap → Nat → Bool
abbrev LA := List AV
def ifte (b : Bool) (x y : Bool) : Bool := Bool.rec y x b
def arg1 (l : List AV) (f : AV → List AV → Bool) : Bool := List.casesOn (motive := fun _ => Bool) l false f
def arg0 (l : List AV) (y : Bool) : Bool := List.casesOn (motive := fun _ => Bool) l y fun _ _ => false
def addI (x y : AV) (k : AV → Bool) : Bool := intsE .add x y k
def subI (x y : AV) (k : AV → Bool) : Bool := intsE .sub x y k
def mulI (x y : AV) (k : AV → Bool) : Bool := intsE .mul x y k
def quoI (x y : AV) (k : AV → Bool) : Bool := intsE .quo x y k
def remI (x y : AV) (k : AV → Bool) : Bool := intsE .rem x y k
def bitI (op : BinOp) (x y : AV) (k : AV → Bool) : Bool := intsE op x y k
def eqlI (x y : AV) (k : AV → Bool) : Bool := intsE .eql x y k
def neqI (x y : AV) (k : AV → Bool) : Bool := intsE .neq x y k
def lssI (x y : AV) (k : AV → Bool) : Bool := intsE .lss x y k
def leqI (x y : AV) (k : AV → Bool) : Bool := intsE .leq x y k
def gtrI (x y : AV) (k : AV → Bool) : Bool := intsE .gtr x y k
def geqI (x y : AV) (k : AV → Bool) : Bool := intsE .geq x y k
def strB (op : BinOp) (x y : AV) (k : AV → Bool) : Bool := x.ckStr fun n c => y.ckStr fun m d => binStr op n c m d k
def eqB (op : BinOp) (x y : AV) (k : AV → Bool) : Bool := x.ckBool fun a => y.ckBool fun b => eqRes op (Bool.rec (Bool.not b) b a) k
def eqA (is : List Nat) (op : BinOp) (x y : AV) (k : AV → Bool) : Bool := x.ckAgg fun l => y.ckAgg fun m => eqOffs is l m fun r => eqRes op r k
def nilPE (op : BinOp) (x : AV) (k : AV → Bool) : Bool := nilP x fun r => eqRes op r k
def nilSE (op : BinOp) (x : AV) (k : AV → Bool) : Bool := nilS x fun r => eqRes op r k
def cplI (x : AV) (k : AV → Bool) : Bool := x.ckInt fun kd a => binInt .xor kd (Bool.rec kd.max (-1) kd.signed) a k
def notB (x : AV) (k : AV → Bool) : Bool := x.ckBool fun b => boolK (Bool.not b) k
def convI (kd : IntKind) (x : AV) (k : AV → Bool) : Bool := x.ckInt fun _ a => intK kd a k
def fldK (off : Nat) (x : AV) (k : AV → Bool) : Bool := x.ckAgg fun l => nthK off l k
def extK (i : Nat) (x : AV) (k : AV → Bool) : Bool := x.ckTup fun l => nthK i l k
def lenStr (x : AV) (k : AV → Bool) : Bool := x.ckStr fun n _ => k (.int .i64 (.ofNat n))
def lenSl (x : AV) (k : AV → Bool) : Bool := lenSlK x k
def lookM (is : List Nat) (z : AV) (ok : Bool) (x key : AV) (H : Heap) (k : AV → Bool) : Bool :=
  x.ckMap (z.ckOk (okK ok z false k)) fun b => at_ H b fun bl => bl.ckMap fun es _ => es.find is H key (z.ckOk (okK ok z false k)) fun v => okK ok v true k
def b2sK (H : Heap) (x : AV) (k : AV → Bool) : Bool :=
  x.ckSl (k (.str 0 0)) (fun b o len _ => at_ H b fun bl => bl.ckCells fun _ _ n c => ifB (Nat.ble (Nat.add o len) n) (bytesK (c.row o len) fun c => k (.str len c))) (fun _ _ _ _ => false)
def mkslK (z : List AV) (l c : AV) (H : Heap) (id : Nat) (k : AV → Heap → Bool) : Bool :=
  l.ckInt fun _ l => natOf l fun l => c.ckInt fun _ c => natOf c fun c => ifB (Bool.and (Nat.ble l c) (Nat.ble c 4096)) (newK (repL z c) H id fun H => k (.sl id 0 l (.known c)) H)
def storeK (sz : Nat) (H : Heap) (a x : AV) (k : AV → Heap → Bool) : Bool := cellsOfK x fun l => ifB (Nat.beq l.length sz) (storeAt H a l fun H => k .bad H)
def mapK (is : List Nat) (H : Heap) (m key val : AV) (k : AV → Heap → Bool) : Bool :=
  val.ckOk (m.ckMap false fun b => at_ H b fun bl => bl.ckMap fun es clk => es.upd is H key val clk fun f es' =>
    Bool.rec (forceN (Nat.succ clk) fun c => hput H b (.map es' c) fun H => k .bad H) (hput H b (.map es' clk) fun H => k .bad H) f)
def rngK (H : Heap) (n : Nat) (x : AV) (k : AV → Heap → Nat → Bool) : Bool :=
  x.ckMap false fun m => at_ H m fun bl => bl.ckMap fun _ clk => ifB (Nat.blt n 32768) (hput H n (.miter m clk [] clk) fun H => forceN (Nat.succ n) fun n' => k (.ptr n 0) H n')
def appK (sz : Nat) (H : Heap) (n : Nat) (s x : AV) (k : AV → Heap → Nat → Bool) : Bool :=
  x.orSym (srcK H x sz fun m news => s.orSym (s.ckSl (Bool.rec (cellsK news fun c => forceN news.length fun t => newOpn H n t c sz m k) (k .nils H n) (Nat.beq m 0)) (fun b o len cap => appSl sz H n s b o len cap m news k) (fun _ _ _ _ => false))
      fun t => t.ckS fun b s' lo hi len es => appSpl sz H n b s' lo hi len es m news k)
    fun t => t.ckS fun b s' lo hi len es => s.ckSl false (fun _ _ l0 cap => ifB (Nat.beq l0 0) (capZ cap (clnSpl sz H n b s' lo hi len es k))) (fun _ _ _ _ => false)
def cpyK (sz : Nat) (H : Heap) (d x : AV) (k : AV → Heap → Bool) : Bool :=
  x.ckSl (d.ckSl (k (.int .i64 0) H) (fun _ _ _ _ => k (.int .i64 0) H) (fun _ _ _ _ => k (.int .i64 0) H))
    (fun b2 o2 sl _ => d.ckSl (k (.int .i64 0) H) (fun b o dl _ => copyK sz H b o dl b2 o2 sl k) (fun _ _ _ _ => k (.int .i64 0) H))
    (fun _ _ _ _ => d.ckSl (k (.int .i64 0) H) (fun _ _ _ _ => k (.int .i64 0) H) (fun _ _ _ _ => k (.int .i64 0) H))
def clrS (z : List AV) (H : Heap) (x : AV) (k : AV → Heap → Bool) : Bool :=
  x.ckSl (k (.tup []) H) (fun b o len _ => Bool.rec (writeK H b o (repL z len) fun H => k (.tup []) H) (k (.tup []) H) (Nat.beq len 0)) (fun _ _ _ _ => k (.tup []) H)
def callV (F G : Orac) (f : AV) (args : List AV) (H : Heap) (n : Nat) (k : KR) : Bool := f.ckFn fun g first cap => callFn F G g first cap args H n k
def rangeV (F : Orac) (fi : Nat) (f : AV) (p : List Nat) (env : List AV) (H : Heap) (n : Nat) (k : Heap → Nat → Bool) : Bool :=
  f.ckFn fun g first cap => Fn.rec (motive := fun _ => Bool) (fun fx => ifB (Nat.blt n 32768) (forceN (Nat.succ n) fun n1 => hput H n (.loop fi p env) fun H1 =>
    F fx (first ++ .fn (.yield n) [] [] :: cap) H1 n1 fun _ H2 n2 => at_ H2 n fun b => b.ckLoop fun _ _ _ => hput H2 n .dead fun H3 => k H3 n2)) (fun _ => false) (fun _ _ => false) (fun _ _ _ _ => false) (fun _ => false) g
def sideOf (P : Program) (C : Nat → Bool) (F G : Orac) (fi N : Nat) : Side := ⟨fun ops kn env H n => evLater P C F G ops kn ops.toList env H n, fun _ ops => evDraw P F G ops, fun f _ _ _ p => evRange P F fi f p, N⟩
theorem sideOf_ok {P : Program} {C : Nat → Bool} (hC : ∀ f, C f = true → CalmD P f) {F G : Orac} (hF : CallSound P F) (hG : RoundSound P G) {fi N : Nat} {root : Code} (hroot : (P.funcs[fi]?).bind (·.body) = some root) : SideOK true P root (sideOf P C F G fi N) :=
  ⟨fun id _ _ _ _ _ h => evLater_goes hC hF hG id h, fun _ _ _ _ _ _ h => evDraw_ok hF hG h, fun _ _ _ _ _ _ _ _ _ hp h => evRange_ok hF hroot hp h⟩
theorem noRange_ok {P : Program} {C : Nat → Bool} {F G : Orac} (hF : CallSound P F) (hG : RoundSound P G) {fi N : Nat} {root : Code} : SideOK false P root (noRange (sideOf P C F G fi N)) :=
  ⟨fun _ _ _ _ _ _ h => (Bool.false_ne_true h).elim, fun _ _ _ _ _ _ h => evDraw_ok hF hG h, fun _ _ _ _ _ _ _ _ _ _ h => (Bool.false_ne_true h).elim⟩
abbrev Hand := Orac → Orac → List AV → Heap → Nat → KR → Bool
abbrev HandR := Orac → Orac → Nat → List AV → List AV → Heap → Nat → KR → Bool
def HandOK (P : Program) (f : Nat) (s : Hand) : Prop :=
  ∀ F G, CallSound P F → RoundSound P G → ∀ args H n k, s F G args H n k = true → ∃ v H' n', k v H' n' = true ∧ Answers P f args H n v H' n'
def HandROK (P : Program) (fi : Nat) (p : List Nat) (s : HandR) : Prop :=
  ∀ F G, CallSound P F → RoundSound P G → ∀ l env args H n k, hfn H l = .loop fi p env → s F G l env args H n k = true → ∃ v H' n', k v H' n' = true ∧ AnswersR P l args H n v H' n'
theorem handOK_of {N : Nat} {P : Program} {C : Nat → Bool} (hC : ∀ f, C f = true → CalmD P f) {f : Nat} {fn : Func} {np : Nat} {an : An} {s : Hand} (hf : P.funcs[f]? = some fn) (hcall : ∀ (vs : Array Value) (w : World), (callFunc f vs).run P w = .ok (.enter f vs) w)
    (he : ∀ F G args H n k, evFn P F G (sideOf P C F G f N) fn np an args H n k = s F G args H n k) : HandOK P f s := by
  intro F G hF hG args H n k h
  rw [← he] at h
  exact evFn_ok hF hG hf hcall (fun c hc => sideOf_ok hC hF hG (by rw [hf]; exact hc)) h
theorem handROK_of {N : Nat} {P : Program} {C : Nat → Bool} {fi ne : Nat} {p : List Nat} {root : Code} {g : Operand} {ps : Array Tmp} {asn bd : Code} {xa xb : An} {s : HandR} (hroot : (P.funcs[fi]?).bind (·.body) = some root)
    (hp : codeAt root p = some (.rangeFunc g ps asn bd)) (he : ∀ F G l env args H n k, evRound P F G (sideOf P C F G fi N) ps.toList asn bd xa xb fi ne p l env args H n k = s F G l env args H n k) : HandROK P fi p s := by
  intro F G hF hG l env args H n k hl h
  rw [← he] at h
  exact evRound_ok hF hG (noRange_ok hF hG) hroot hp hl h
inductive Tbl where
  | leaf
  | node (i : Nat) (s : Hand) (l r : Tbl)
def Tbl.find (t : Tbl) (f : Nat) (k : Hand → Bool) : Bool :=
  Tbl.rec (motive := fun _ => Bool) false (fun i s _ _ l r => Bool.rec (Bool.rec r l (Nat.blt f i)) (k s) (Nat.beq f i)) t
def Tbl.OK (P : Program) : Tbl → Prop
  | .leaf => True
  | .node i s l r => HandOK P i s ∧ l.OK P ∧ r.OK P
theorem Tbl.find_ok {P : Program} {f : Nat} {k : Hand → Bool} : ∀ {t : Tbl}, t.OK P → t.find f k = true → ∃ s, HandOK P f s ∧ k s = true
  | .leaf, _, h => (Bool.false_ne_true h).elim
  | .node i s l r, ho, h => by
    have h : (Bool.rec (motive := fun _ => Bool) (Bool.rec (r.find f k) (l.find f k) (Nat.blt f i)) (k s) (Nat.beq f i)) = true := h
    cases hb : Nat.beq f i with
    | true =>
      rw [hb] at h
      have := Nat.eq_of_beq_eq_true hb
      subst this
      exact ⟨s, ho.1, h⟩
    | false =>
      rw [hb] at h
      cases hl : Nat.blt f i with
      | true => rw [hl] at h; exact Tbl.find_ok ho.2.1 h
      | false => rw [hl] at h; exact Tbl.find_ok ho.2.2 h
inductive RTbl where
  | leaf
  | node (i : Nat) (p : List Nat) (s : HandR) (r : RTbl)
def eqNs : List Nat → List Nat → Bool
  | [], [] => true
  | a :: l, b :: m => cond (Nat.beq a b) (eqNs l m) false
  | _, _ => false
theorem eqNs_ok : ∀ {l m : List Nat}, eqNs l m = true → l = m
  | [], [], _ => rfl
  | a :: l, b :: m, h => by
    simp only [eqNs] at h
    cases hb : Nat.beq a b with
    | true => rw [hb] at h; rw [Nat.eq_of_beq_eq_true hb, eqNs_ok (l := l) (m := m) h]
    | false => rw [hb] at h; cases h
  | [], _ :: _, h => by simp [eqNs] at h
  | _ :: _, [], h => by simp [eqNs] at h
def RTbl.find (t : RTbl) (f : Nat) (p : List Nat) (k : HandR → Bool) : Bool :=
  RTbl.rec (motive := fun _ => Bool) false (fun i q s _ r => Bool.rec r (Bool.rec r (k s) (eqNs p q)) (Nat.beq f i)) t
def RTbl.OK (P : Program) : RTbl → Prop
  | .leaf => True
  | .node i p s r => HandROK P i p s ∧ r.OK P
theorem RTbl.find_ok {P : Program} {f : Nat} {p : List Nat} {k : HandR → Bool} : ∀ {t : RTbl}, t.OK P → t.find f p k = true → ∃ s, HandROK P f p s ∧ k s = true
  | .leaf, _, h => (Bool.false_ne_true h).elim
  | .node i q s r, ho, h => by
    have h : (Bool.rec (motive := fun _ => Bool) (r.find f p k) (Bool.rec (r.find f p k) (k s) (eqNs p q)) (Nat.beq f i)) = true := h
    cases hb : Nat.beq f i with
    | false => rw [hb] at h; exact RTbl.find_ok ho.2 h
    | true =>
      rw [hb] at h
      have h2 : (Bool.rec (motive := fun _ => Bool) (r.find f p k) (k s) (eqNs p q)) = true := h
      clear h
      have hfi := Nat.eq_of_beq_eq_true hb
      cases hp : eqNs p q with
      | false => rw [hp] at h2; exact RTbl.find_ok ho.2 h2
      | true =>
        rw [hp] at h2
        have hpq := eqNs_ok hp
        subst hfi
        subst hpq
        exact ⟨s, ho.1, h2⟩
def bodyOf (f : Func) : Code := f.body.getD .skip
def siteG (c : Code) (p : List Nat) : Operand × Array Tmp × Code × Code := match codeAt c p with
  | some (.rangeFunc g ps a b) => (g, ps, a, b)
  | _ => (.func 0, #[], .skip, .skip)
def orac (T : Tbl) (U : RTbl) : Nat → Bool → Orac :=
  Nat.rec (motive := fun _ => Bool → Orac) (fun _ _ _ _ _ _ => false) fun _ ih b =>
    Bool.rec (motive := fun _ => Orac) (fun f args H n k => T.find f fun s => s (ih false) (ih true) args H n k)
      (fun l args H n k => at_ H l fun bl => bl.ckLoop fun fi p env => U.find fi p fun s => s (ih false) (ih true) l env args H n k) b
theorem orac_ok {P : Program} {T : Tbl} {U : RTbl} (hT : T.OK P) (hU : U.OK P) : ∀ d, CallSound P (orac T U d false) ∧ RoundSound P (orac T U d true)
  | 0 => ⟨fun _ _ _ _ _ h => (Bool.false_ne_true h).elim, fun _ _ _ _ _ h => (Bool.false_ne_true h).elim⟩
  | d + 1 => by
    obtain ⟨ihF, ihG⟩ := orac_ok hT hU d
    refine ⟨fun f args H n k h => ?_, fun l args H n k h => ?_⟩
    · have h : (T.find f fun s => s (orac T U d false) (orac T U d true) args H n k) = true := h
      obtain ⟨s, hs, h⟩ := Tbl.find_ok hT h
      exact hs _ _ ihF ihG _ _ _ _ h
    · have h : (at_ H l fun bl => bl.ckLoop fun fi p env => U.find fi p fun s => s (orac T U d false) (orac T U d true) l env args H n k) = true := h
      obtain ⟨_, h⟩ := at_iff.1 h
      obtain ⟨fi, p, env, hb, h⟩ := ckLoop_iff.1 h
      obtain ⟨s, hs, h⟩ := RTbl.find_ok hU h
      exact hs _ _ ihF ihG _ _ _ _ _ _ hb h
end
end Ev
