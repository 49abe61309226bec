/- A part of the proof that GcNone returns true: text Ev22. -/
import Derived.Test.YtiegdojchlmfnaaGreatDoorEv21
namespace Ev
open Go
open Go.RowKit
noncomputable section

/-! ### Where a call stands -/

/-- The blocks of deferred calls of the loops over functions that were entered: nobody knows of them. -/
def MarksOK (lo : Nat) (θ : Theta) (h : Nat → Blk) (w : World) (ds : List Deferred) : Prop :=
  ∃ rs : List Nat, ds = rs.map (fun r => { target := .collected r, args := #[] }) ∧ rs.Nodup ∧
    ∀ r ∈ rs, lo ≤ r ∧ w.heap[r]? = some (.deferred (some [])) ∧ ∀ b l, h b ≠ .dead → θ.blk b = some l → l.blk ≠ r

theorem MarksOK.went {P : Program} {θ θ' : Theta} {h h' : Nat → Blk} {n n' B lo : Nat} {w w' : World} {ds : List Deferred} (m : MarksOK lo θ h w ds) (k : Went P θ h n B w θ' h' n' w') : MarksOK lo θ' h' w' ds := by
  obtain ⟨rs, e, hn, hr⟩ := m
  refine ⟨rs, e, hn, fun r hmem => ?_⟩
  obtain ⟨h1, h2, h3⟩ := hr r hmem
  have hlt := lt_of_heap h2
  refine ⟨h1, by rw [k.frm.block r hlt (fun b l hb hl => h3 b l (own_ne hb) hl)]; exact h2, fun b l hb hl e => ?_⟩
  rcases k.grows.any b l hb hl with ⟨b0, l0, h0, t0, e0⟩ | h'
  · exact h3 b0 l0 h0 t0 (e0.trans e)
  · omega

theorem MarksOK.nil (lo : Nat) (θ : Theta) (h : Nat → Blk) (w : World) : MarksOK lo θ h w [] := ⟨[], rfl, .nil, fun r hr => by simp at hr⟩

/-- Where a call started. -/
structure Start where
  θ : Theta
  h : Nat → Blk
  n : Nat
  B : Nat
  w : World
  lo : Nat
  hlo : lo ≤ w.heap.size

/-- Where it stands now. -/
structure Now (P : Program) (S : Start) (env : List AV) (H : Heap) (n : Nat) (a : Act) (w : World) (θ : Theta) : Prop where
  low : S.B ≤ S.w.heap.size
  went : Went P S.θ S.h S.n S.B S.w θ (hfn H) n w
  glob : GlobOK P θ
  tmps : ∀ t, VR θ (env.getD t .bad) (a.tmps.getD t undef)
  len : env.length ≤ a.tmps.size
  defs : MarksOK S.lo θ (hfn H) w a.defers

theorem Now.room {P : Program} {S : Start} {env : List AV} {H : Heap} {n : Nat} {a : Act} {w : World} {θ : Theta} (s : Now P S env H n a w θ) : S.B ≤ w.heap.size := Nat.le_trans s.low s.went.frm.size

/-- One temporary is laid. -/
def setT (env : List AV) (d : Option Nat) (v : AV) : List AV := match d with | some t => env.set t v | none => env

theorem setT_length (env : List AV) (d : Option Nat) (v : AV) : (setT env d v).length = env.length := by cases d <;> simp [setT]

theorem Now.put {P : Program} {S : Start} {env : List AV} {H H' : Heap} {n n' : Nat} {a : Act} {w w' : World} {θ θ' : Theta} (s : Now P S env H n a w θ) (k : Went P θ (hfn H) n S.B w θ' (hfn H') n' w') (d : Option Nat) {v : AV} {v' : Value} (hv : VR θ' v v') :
    Now P S (setT env d v) H' n' (a.put d v') w' θ' := by
  refine ⟨s.low, s.went.trans k, s.glob.le k.le, fun t => ?_, ?_, ?_⟩
  · cases d with
    | none => exact (s.tmps t).le k.le
    | some d =>
      simp only [setT, Act.put, List.getD_eq_getElem?_getD, Array.getD_eq_getD_getElem?, List.getElem?_set, Array.getElem?_setIfInBounds]
      have hl := s.len
      by_cases e : d = t
      · subst e
        simp only [if_true]
        by_cases h1 : d < env.length
        · rw [if_pos h1, if_pos (by omega)]
          exact hv
        · rw [if_neg h1]
          exact .inl rfl
      · simp only [if_neg e]
        have := (s.tmps t).le k.le
        simpa only [List.getD_eq_getElem?_getD, Array.getD_eq_getD_getElem?] using this
  · rw [setT_length]
    cases d <;> simpa [Act.put] using s.len
  · have := s.defs.went k
    cases d <;> exact this

/-- The same, cell by cell. -/
def setLK : List AV → Nat → AV → (List AV → Bool) → Bool
  | [], _, _, k => hi (k [])
  | _ :: l, 0, v, k => k (v :: l)
  | a :: l, t + 1, v, k => setLK l t v fun l => k (a :: l)

theorem setLK_eq : ∀ (l : List AV) (t : Nat) (v : AV) (k : List AV → Bool), setLK l t v k = k (l.set t v)
  | [], _, _, _ => rfl
  | _ :: _, 0, _, _ => rfl
  | a :: l, t + 1, v, k => by rw [setLK, setLK_eq l t v]; rfl

def setTK (env : List AV) (d : Option Nat) (v : AV) (k : List AV → Bool) : Bool := match d with | some t => setLK env t v k | none => k env

theorem setTK_eq (env : List AV) (d : Option Nat) (v : AV) (k : List AV → Bool) : setTK env d v k = k (setT env d v) := by
  cases d with
  | none => rfl
  | some t => exact setLK_eq env t v k

/-! ### The operations of a region, one after the other -/

/-- What the guard of an operation looks at. -/
def gdOf (ops : Array Oper) (env : List AV) (j : Nat) : AV := match (ops[j]?).bind (·.dst) with | some d => env.getD d .bad | none => .bad

def evOps (P : Program) (F G : Orac) (ops : Array Oper) (kn : List AV → Heap → Nat → Bool) : List Oper → List AV → Heap → Nat → Bool
  | [], env, H, n => kn env H n
  | o :: rest, env, H, n =>
    match o.guard with
    | none => evOp P F G env o H n fun v H n => setTK env o.dst v fun env => evOps P F G ops kn rest env H n
    | some (j, want) => joinP (fun v H n => setTK env o.dst v fun env => evOps P F G ops kn rest env H n) fun (jj : AV → Heap → Nat → Bool) =>
        (gdOf ops env j).ckGd (fun b => Bool.rec (Bool.rec (evOp P F G env o H n jj) (jj (.tup []) H n) want) (Bool.rec (jj (.tup []) H n) (evOp P F G env o H n jj) want) b) (jj (.tup []) H n)

/-- Which temporaries a code lays. -/
def asgOps (l : List Oper) : List Nat := l.filterMap (·.dst)

def Agree (D : List Nat) (env env' : List AV) : Prop := env'.length = env.length ∧ ∀ t, t ∉ D → env'[t]? = env[t]?

theorem Agree.refl (D : List Nat) (env : List AV) : Agree D env env := ⟨rfl, fun _ _ => rfl⟩
theorem Agree.trans {D : List Nat} {e1 e2 e3 : List AV} (h : Agree D e1 e2) (k : Agree D e2 e3) : Agree D e1 e3 := ⟨k.1.trans h.1, fun t ht => (k.2 t ht).trans (h.2 t ht)⟩
theorem Agree.mono {D D' : List Nat} {e1 e2 : List AV} (h : Agree D e1 e2) (hs : ∀ t ∈ D, t ∈ D') : Agree D' e1 e2 := ⟨h.1, fun t ht => h.2 t fun hd => ht (hs t hd)⟩
theorem Agree.setT {D : List Nat} {env : List AV} {d : Option Nat} {v : AV} (h : ∀ t, d = some t → t ∈ D) : Agree D env (Ev.setT env d v) := by
  refine ⟨setT_length _ _ _, fun t ht => ?_⟩
  cases d with
  | none => rfl
  | some d =>
    have : d ≠ t := fun e => ht (e ▸ h d rfl)
    simp [Ev.setT, List.getElem?_set, this]

theorem now_opd {P : Program} {S : Start} {env : List AV} {H : Heap} {n : Nat} {a : Act} {w : World} {θ : Theta} (s : Now P S env H n a w θ) (o : Oper) : Opd P θ env o a :=
  fun x _ => ev_ok s.glob x fun t _ => s.tmps t

theorem yielded_of {P : Program} {S : Start} {env : List AV} {H : Heap} {n : Nat} {a : Act} {w : World} {θ : Theta} (s : Now P S env H n a w θ) {ops : Array Oper} {j : Nat} {b : Bool} (h : gdOf ops env j = .bool b) : yielded ops a.tmps j = some b := by
  unfold gdOf at h
  unfold yielded
  cases hd : (ops[j]?).bind (·.dst) with
  | none => simp [hd] at h
  | some d =>
    simp only [hd] at h
    have hv := s.tmps d
    rw [h] at hv
    have hv := hv.bool
    have hlt : d < env.length := by
      rcases Nat.lt_or_ge d env.length with h' | h'
      · exact h'
      · rw [List.getD_eq_getElem?_getD, List.getElem?_eq_none h'] at h; cases h
    have hlt2 : d < a.tmps.size := Nat.lt_of_lt_of_le hlt s.len
    have : a.tmps[d]? = some (.bool b) := by
      rw [Array.getD_eq_getD_getElem?, Array.getElem?_eq_getElem hlt2] at hv
      rw [Array.getElem?_eq_getElem hlt2]
      simpa using hv
    simp [this]

theorem yielded_tup {P : Program} {S : Start} {env : List AV} {H : Heap} {n : Nat} {a : Act} {w : World} {θ : Theta} (s : Now P S env H n a w θ) {ops : Array Oper} {j : Nat} {l : List AV} (h : gdOf ops env j = .tup l) : yielded ops a.tmps j = none := by
  unfold gdOf at h
  unfold yielded
  cases hd : (ops[j]?).bind (·.dst) with
  | none => rfl
  | some d =>
    simp only [hd] at h
    have hv := s.tmps d
    rw [h] at hv
    obtain ⟨vs, _, hv⟩ := hv.tup
    simp only [Option.bind_some]
    rcases Nat.lt_or_ge d a.tmps.size with hlt | hge
    · rw [Array.getD_eq_getD_getElem?, Array.getElem?_eq_getElem hlt] at hv
      rw [Array.getElem?_eq_getElem hlt]
      have hv : a.tmps[d] = .tuple vs.toArray := by simpa using hv
      rw [hv]
    · rw [Array.getElem?_eq_none hge]

/-- One operation, guard and all. -/
def evGd (P : Program) (F G : Orac) (ops : Array Oper) (env : List AV) (o : Oper) (H : Heap) (n : Nat) (k : AV → Heap → Nat → Bool) : Bool :=
  match o.guard with
  | none => evOp P F G env o H n k
  | some (j, want) => joinP k fun (jj : AV → Heap → Nat → Bool) =>
      (gdOf ops env j).ckGd (fun b => Bool.rec (Bool.rec (evOp P F G env o H n jj) (jj (.tup []) H n) want) (Bool.rec (jj (.tup []) H n) (evOp P F G env o H n jj) want) b) (jj (.tup []) H n)

theorem wpOp_of {P : Program} {F G : Orac} (hF : CallSound P F) (hG : RoundSound P G) {ops : Array Oper} {env : List AV} {o : Oper} {H : Heap} {n : Nat} {k : AV → Heap → Nat → Bool} (h : evGd P F G ops env o H n k = true) :
    ∃ v H' n', k v H' n' = true ∧ ∀ (Fe : Fence) (m : Nat) (S : Start) (a : Act) (w : World) (θ : Theta) (K : Act → World → Prop) (Q : Exit → Act → World → Prop), LooseR Fe → Now P S env H n a w θ →
      (∀ a' w' θ', Now P S (setT env o.dst v) H' n' a' w' θ' → K a' w') →
      if Region.wanted o (yielded ops a.tmps) then o.wpIn Fe m P a w K Q else (∀ f, o.about P w a.eval = some f → Fe.fn f) ∧ K (a.put o.dst undef) w := by
  have run : evOp P F G env o H n k = true → ∃ v H' n', k v H' n' = true ∧ ∀ (Fe : Fence) (m : Nat) (S : Start) (a : Act) (w : World) (θ : Theta) (K : Act → World → Prop) (Q : Exit → Act → World → Prop), LooseR Fe → Now P S env H n a w θ →
      (∀ a' w' θ', Now P S (setT env o.dst v) H' n' a' w' θ' → K a' w') → o.wpIn Fe m P a w K Q := by
    intro h
    obtain ⟨v, H', n', hk, hg⟩ := evOp_ok hF hG h
    refine ⟨v, H', n', hk, fun Fe m S a w θ K Q hL s hK => ?_⟩
    exact hg Fe m θ a w S.B K Q hL s.went.rel s.went.fresh s.room s.glob (now_opd s o) (fun v' w' θ' hw hv => hK _ _ θ' (s.put hw o.dst hv))
  have skip : k (.tup []) H n = true → ∃ v H' n', k v H' n' = true ∧ ∀ (Fe : Fence) (S : Start) (a : Act) (w : World) (θ : Theta) (K : Act → World → Prop), LooseR Fe → Now P S env H n a w θ →
      (∀ a' w' θ', Now P S (setT env o.dst v) H' n' a' w' θ' → K a' w') → (∀ f, o.about P w a.eval = some f → Fe.fn f) ∧ K (a.put o.dst undef) w := by
    intro h
    exact ⟨_, _, _, h, fun Fe S a w θ K hL s hK => ⟨fun f _ => hL.fn f, hK _ _ θ (s.put (Went.refl s.went.rel s.went.fresh) o.dst (.inr (by simp [Ev.conc, concs, undef])))⟩⟩
  unfold evGd at h
  split at h
  · rename_i hgd
    obtain ⟨v, H', n', hk, hr⟩ := run h
    refine ⟨v, H', n', hk, fun Fe m S a w θ K Q hL s hK => ?_⟩
    have : Region.wanted o (yielded ops a.tmps) = true := by simp [Region.wanted, hgd]
    rw [if_pos this]
    exact hr Fe m S a w θ K Q hL s hK
  · rename_i j want hgd
    rcases ckGd_iff.1 h with ⟨b, hb, h⟩ | ⟨l, hb, h⟩
    rotate_left
    · obtain ⟨v, H', n', hk, hr⟩ := skip h
      refine ⟨v, H', n', hk, fun Fe m S a w θ K Q hL s hK => ?_⟩
      have hw : Region.wanted o (yielded ops a.tmps) = false := by
        simp only [Region.wanted, hgd, yielded_tup s hb]
        cases want <;> rfl
      rw [hw]
      exact hr Fe S a w θ K hL s hK
    have hw : ∀ {S : Start} {a : Act} {w : World} {θ : Theta}, Now P S env H n a w θ → Region.wanted o (yielded ops a.tmps) = (b == want) := by
      intro S a w θ s
      simp only [Region.wanted, hgd, yielded_of s hb]
      cases b <;> cases want <;> rfl
    cases b <;> cases want
    · obtain ⟨v, H', n', hk, hr⟩ := run h
      exact ⟨v, H', n', hk, fun Fe m S a w θ K Q hL s hK => by rw [hw s]; exact hr Fe m S a w θ K Q hL s hK⟩
    · obtain ⟨v, H', n', hk, hr⟩ := skip h
      exact ⟨v, H', n', hk, fun Fe m S a w θ K Q hL s hK => by rw [hw s]; exact hr Fe S a w θ K hL s hK⟩
    · obtain ⟨v, H', n', hk, hr⟩ := skip h
      exact ⟨v, H', n', hk, fun Fe m S a w θ K Q hL s hK => by rw [hw s]; exact hr Fe S a w θ K hL s hK⟩
    · obtain ⟨v, H', n', hk, hr⟩ := run h
      exact ⟨v, H', n', hk, fun Fe m S a w θ K Q hL s hK => by rw [hw s]; exact hr Fe m S a w θ K Q hL s hK⟩

theorem evOps_cons {P : Program} {F G : Orac} {ops : Array Oper} {kn : List AV → Heap → Nat → Bool} {o : Oper} {rest : List Oper} {env : List AV} {H : Heap} {n : Nat} :
    evOps P F G ops kn (o :: rest) env H n = evGd P F G ops env o H n fun v H n => evOps P F G ops kn rest (setT env o.dst v) H n := by
  rw [evOps, evGd]
  simp only [setTK_eq]

theorem evOps_ok {P : Program} {F G : Orac} (hF : CallSound P F) (hG : RoundSound P G) {ops : Array Oper} {kn : List AV → Heap → Nat → Bool} : ∀ {l : List Oper} {k : Nat} {env : List AV} {H : Heap} {n : Nat}, (∀ j, l[j]? = ops[k + j]?) →
    evOps P F G ops kn l env H n = true → ∃ env' H' n', kn env' H' n' = true ∧ Agree (asgOps l) env env' ∧ ∀ (Fe : Fence) (m : Nat) (S : Start) (a : Act) (w : World) (θ : Theta) (Q : Exit → Act → World → Prop), LooseR Fe → Now P S env H n a w θ →
      (∀ a' w' θ', Now P S env' H' n' a' w' θ' → Q .normal a' w') → wpOpsIn Fe m P ops Q (List.range' k l.length) a w
  | [], k, env, H, n, _, h => ⟨env, H, n, h, Agree.refl _ _, fun Fe m S a w θ Q hL s hQ => hQ a w θ s⟩
  | o :: rest, k, env, H, n, hl, h => by
    rw [evOps_cons] at h
    obtain ⟨v, H1, n1, h1, hop⟩ := wpOp_of hF hG h
    have hl' : ∀ j, rest[j]? = ops[k + 1 + j]? := fun j => by have := hl (j + 1); simpa [Nat.add_assoc, Nat.add_comm 1 j] using this
    obtain ⟨env', H', n', hk, hag, hrest⟩ := evOps_ok hF hG hl' h1
    refine ⟨env', H', n', hk, ?_, fun Fe m S a w θ Q hL s hQ => ?_⟩
    · refine Agree.trans (Agree.setT (fun t ht => ?_)) (hag.mono fun t ht => ?_)
      · simp [asgOps, ht]
      · simp only [asgOps, List.filterMap_cons] at ht ⊢
        split <;> simp [ht]
    · have h0 : ops[k]? = some o := by have := hl 0; simpa using this.symm
      simp only [List.length_cons, List.range'_succ, wpOpsIn, h0]
      exact hop Fe m S a w θ _ Q hL s (fun a' w' θ' s' => hrest Fe m S a' w' θ' Q hL s' hQ)

end
end Ev
