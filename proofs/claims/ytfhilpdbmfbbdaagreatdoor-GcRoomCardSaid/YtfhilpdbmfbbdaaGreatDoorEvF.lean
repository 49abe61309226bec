/- A part of the proof that GcRoom returns true: text EvF. -/
import Derived.Test.YtfhilpdbmfbbdaaGreatDoorEvE
import Derived.RecoverIn
namespace Ev
open Go
open Go.RowKit
noncomputable section
structure CalmD (P : Program) (f : Nat) : Prop where
  call : ∀ (vs : Array Value) (w : World), (callFunc f vs).run P w = .ok (.enter f vs) w
  run : ∀ (n : Nat) (args : Array Value) (w : World), CallsDIn Fence.wide n P f args .returning w fun e u' w' => (∃ v, e = .returned v) ∧ u' = .returning ∧ w' = w
theorem put_defers (a : Act) (d : Option Nat) (v : Value) : (a.put d v).defers = a.defers := by cases d <;> rfl
end
end Ev
namespace Ev
open Go
open Go.RowKit
noncomputable section
def DefOK (P : Program) (d : Deferred) : Prop := (∃ r, d = { target := .collected r, args := #[] }) ∨ ∃ f cap args, d = { target := .fn (.func f) cap, args } ∧ CalmD P f
def markOf (d : Deferred) : Option Nat := match d.target with | .collected r => some r | _ => none
def MarksOK (P : Program) (lo : Nat) (θ : Theta) (h : Nat → Blk) (w : World) (ds : List Deferred) : Prop :=
  ∃ rs : List Nat, (ds.filterMap markOf = rs ∧ ∀ d ∈ ds, DefOK P d) ∧ rs.Nodup ∧
    ∀ r ∈ rs, lo ≤ r ∧ w.heap[r]? = some (.deferred (some [])) ∧ ∀ b l, h b ≠ .dead → θ.blk b = some l → l.blk ≠ r
theorem MarksOK.went {P : Program} {θ θ' : Theta} {h h' : Nat → Blk} {n n' B lo : Nat} {w w' : World} {ds : List Deferred} (m : MarksOK P lo θ h w ds) (k : Went P θ h n B w θ' h' n' w') : MarksOK P lo θ' h' w' ds := by
  obtain ⟨rs, e, hn, hr⟩ := m
  refine ⟨rs, e, hn, fun r hmem => ?_⟩
  obtain ⟨h1, h2, h3⟩ := hr r hmem
  have hlt := lt_of_heap h2
  refine ⟨h1, by rw [k.frm.block r hlt (fun b l hb hl => h3 b l (own_ne hb) hl)]; exact h2, fun b l hb hl e => ?_⟩
  rcases k.grows.any b l hb hl with ⟨b0, l0, h0, t0, e0⟩ | h'
  · exact h3 b0 l0 h0 t0 (e0.trans e)
  · omega
theorem MarksOK.nil {P : Program} (lo : Nat) (θ : Theta) (h : Nat → Blk) (w : World) : MarksOK P lo θ h w [] := ⟨[], ⟨rfl, fun d hd => by simp at hd⟩, .nil, fun r hr => by simp at hr⟩
theorem MarksOK.calm {P : Program} {lo : Nat} {θ : Theta} {h : Nat → Blk} {w : World} {ds : List Deferred} (m : MarksOK P lo θ h w ds) {f : Nat} (hf : CalmD P f) (cap args : Array Value) : MarksOK P lo θ h w ({ target := .fn (.func f) cap, args } :: ds) := by
  obtain ⟨rs, ⟨e, ha⟩, hn, hr⟩ := m
  refine ⟨rs, ⟨by simpa [List.filterMap_cons, markOf] using e, fun d hd => ?_⟩, hn, hr⟩
  rcases List.mem_cons.1 hd with rfl | hd
  · exact .inr ⟨f, cap, args, rfl, hf⟩
  · exact ha d hd
structure Start where
  θ : Theta
  h : Nat → Blk
  n : Nat
  B : Nat
  w : World
  lo : Nat
  hlo : lo ≤ w.heap.size
structure Now (P : Program) (S : Start) (env : List AV) (H : Heap) (n : Nat) (a : Act) (w : World) (θ : Theta) : Prop where
  low : S.B ≤ S.w.heap.size
  went : Went P S.θ S.h S.n S.B S.w θ (hfn H) n w
  glob : GlobOK P θ
  tmps : ∀ t, VR θ (env.getD t .bad) (a.tmps.getD t undef)
  len : env.length ≤ a.tmps.size
  defs : MarksOK P S.lo θ (hfn H) w a.defers
theorem Now.room {P : Program} {S : Start} {env : List AV} {H : Heap} {n : Nat} {a : Act} {w : World} {θ : Theta} (s : Now P S env H n a w θ) : S.B ≤ w.heap.size := Nat.le_trans s.low s.went.frm.size
def setT (env : List AV) (d : Option Nat) (v : AV) : List AV := match d with | some t => env.set t v | none => env
theorem setT_length (env : List AV) (d : Option Nat) (v : AV) : (setT env d v).length = env.length := by cases d <;> simp [setT]
theorem Now.put {P : Program} {S : Start} {env : List AV} {H H' : Heap} {n n' : Nat} {a : Act} {w w' : World} {θ θ' : Theta} (s : Now P S env H n a w θ) (k : Went P θ (hfn H) n S.B w θ' (hfn H') n' w') (d : Option Nat) {v : AV} {v' : Value} (hv : VR θ' v v') :
    Now P S (setT env d v) H' n' (a.put d v') w' θ' := by
  refine ⟨s.low, s.went.trans k, s.glob.le k.le, fun t => ?_, ?_, ?_⟩
  · cases d with
    | none => exact (s.tmps t).le k.le
    | some d =>
      simp only [setT, Act.put, List.getD_eq_getElem?_getD, Array.getD_eq_getD_getElem?, List.getElem?_set, Array.getElem?_setIfInBounds]
      have hl := s.len
      by_cases e : d = t
      · subst e
        simp only [if_true]
        by_cases h1 : d < env.length
        · rw [if_pos h1, if_pos (by omega)]
          exact hv
        · rw [if_neg h1]
          exact .inl rfl
      · simp only [if_neg e]
        have := (s.tmps t).le k.le
        simpa only [List.getD_eq_getElem?_getD, Array.getD_eq_getD_getElem?] using this
  · rw [setT_length]
    cases d <;> simpa [Act.put] using s.len
  · have := s.defs.went k
    cases d <;> exact this
def setLK : List AV → Nat → AV → (List AV → Bool) → Bool
  | [], _, _, k => hi (k [])
  | _ :: l, 0, v, k => k (v :: l)
  | a :: l, t + 1, v, k => setLK l t v fun l => k (a :: l)
theorem setLK_eq : ∀ (l : List AV) (t : Nat) (v : AV) (k : List AV → Bool), setLK l t v k = k (l.set t v)
  | [], _, _, _ => rfl
  | _ :: _, 0, _, _ => rfl
  | a :: l, t + 1, v, k => by rw [setLK, setLK_eq l t v]; rfl
def setTK (env : List AV) (d : Option Nat) (v : AV) (k : List AV → Bool) : Bool := match d with | some t => setLK env t v k | none => k env
theorem setTK_eq (env : List AV) (d : Option Nat) (v : AV) (k : List AV → Bool) : setTK env d v k = k (setT env d v) := by
  cases d with
  | none => rfl
  | some t => exact setLK_eq env t v k
def gdOf (ops : Array Oper) (env : List AV) (j : Nat) : AV := match (ops[j]?).bind (·.dst) with | some d => env.getD d .bad | none => .bad
def evOps (P : Program) (F G : Orac) (ops : Array Oper) (kn : List AV → Heap → Nat → Bool) : List Oper → List AV → Heap → Nat → Bool
  | [], env, H, n => kn env H n
  | o :: rest, env, H, n =>
    match o.guard with
    | none => evOp P F G env o H n fun v H n => setTK env o.dst v fun env => evOps P F G ops kn rest env H n
    | some (j, want) => joinP (fun v H n => setTK env o.dst v fun env => evOps P F G ops kn rest env H n) fun (jj : AV → Heap → Nat → Bool) =>
        (gdOf ops env j).ckGd (fun b => Bool.rec (Bool.rec (evOp P F G env o H n jj) (jj (.tup []) H n) want) (Bool.rec (jj (.tup []) H n) (evOp P F G env o H n jj) want) b) (jj (.tup []) H n)
def asgOps (l : List Oper) : List Nat := l.filterMap (·.dst)
def Agree (D : List Nat) (env env' : List AV) : Prop := env'.length = env.length ∧ ∀ t, t ∉ D → env'[t]? = env[t]?
theorem Agree.refl (D : List Nat) (env : List AV) : Agree D env env := ⟨rfl, fun _ _ => rfl⟩
theorem Agree.trans {D : List Nat} {e1 e2 e3 : List AV} (h : Agree D e1 e2) (k : Agree D e2 e3) : Agree D e1 e3 := ⟨k.1.trans h.1, fun t ht => (k.2 t ht).trans (h.2 t ht)⟩
theorem Agree.mono {D D' : List Nat} {e1 e2 : List AV} (h : Agree D e1 e2) (hs : ∀ t ∈ D, t ∈ D') : Agree D' e1 e2 := ⟨h.1, fun t ht => h.2 t fun hd => ht (hs t hd)⟩
theorem Agree.setT {D : List Nat} {env : List AV} {d : Option Nat} {v : AV} (h : ∀ t, d = some t → t ∈ D) : Agree D env (Ev.setT env d v) := by
  refine ⟨setT_length _ _ _, fun t ht => ?_⟩
  cases d with
  | none => rfl
  | some d =>
    have : d ≠ t := fun e => ht (e ▸ h d rfl)
    simp [Ev.setT, this]
theorem now_opd {P : Program} {S : Start} {env : List AV} {H : Heap} {n : Nat} {a : Act} {w : World} {θ : Theta} (s : Now P S env H n a w θ) (o : Oper) : Opd P θ env o a :=
  fun x _ => ev_ok s.glob x fun t _ => s.tmps t
theorem yielded_of {P : Program} {S : Start} {env : List AV} {H : Heap} {n : Nat} {a : Act} {w : World} {θ : Theta} (s : Now P S env H n a w θ) {ops : Array Oper} {j : Nat} {b : Bool} (h : gdOf ops env j = .bool b) : yielded ops a.tmps j = some b := by
  unfold gdOf at h
  unfold yielded
  cases hd : (ops[j]?).bind (·.dst) with
  | none => simp [hd] at h
  | some d =>
    simp only [hd] at h
    have hv := s.tmps d
    rw [h] at hv
    have hv := hv.bool
    have hlt : d < env.length := by
      rcases Nat.lt_or_ge d env.length with h' | h'
      · exact h'
      · rw [List.getD_eq_getElem?_getD, List.getElem?_eq_none h'] at h; cases h
    have hlt2 : d < a.tmps.size := Nat.lt_of_lt_of_le hlt s.len
    have : a.tmps[d]? = some (.bool b) := by
      rw [Array.getD_eq_getD_getElem?, Array.getElem?_eq_getElem hlt2] at hv
      rw [Array.getElem?_eq_getElem hlt2]
      simpa using hv
    simp [this]
theorem yielded_tup {P : Program} {S : Start} {env : List AV} {H : Heap} {n : Nat} {a : Act} {w : World} {θ : Theta} (s : Now P S env H n a w θ) {ops : Array Oper} {j : Nat} {l : List AV} (h : gdOf ops env j = .tup l) : yielded ops a.tmps j = none := by
  unfold gdOf at h
  unfold yielded
  cases hd : (ops[j]?).bind (·.dst) with
  | none => rfl
  | some d =>
    simp only [hd] at h
    have hv := s.tmps d
    rw [h] at hv
    obtain ⟨vs, _, hv⟩ := hv.tup
    simp only [Option.bind_some]
    rcases Nat.lt_or_ge d a.tmps.size with hlt | hge
    · rw [Array.getD_eq_getD_getElem?, Array.getElem?_eq_getElem hlt] at hv
      rw [Array.getElem?_eq_getElem hlt]
      have hv : a.tmps[d] = .tuple vs.toArray := by simpa using hv
      rw [hv]
    · rw [Array.getElem?_eq_none hge]
def evGd (P : Program) (F G : Orac) (ops : Array Oper) (env : List AV) (o : Oper) (H : Heap) (n : Nat) (k : AV → Heap → Nat → Bool) : Bool :=
  match o.guard with
  | none => evOp P F G env o H n k
  | some (j, want) => joinP k fun (jj : AV → Heap → Nat → Bool) =>
      (gdOf ops env j).ckGd (fun b => Bool.rec (Bool.rec (evOp P F G env o H n jj) (jj (.tup []) H n) want) (Bool.rec (jj (.tup []) H n) (evOp P F G env o H n jj) want) b) (jj (.tup []) H n)
theorem wpOp_of {P : Program} {F G : Orac} (hF : CallSound P F) (hG : RoundSound P G) {ops : Array Oper} {env : List AV} {o : Oper} {H : Heap} {n : Nat} {k : AV → Heap → Nat → Bool} (h : evGd P F G ops env o H n k = true) :
    ∃ v H' n', k v H' n' = true ∧ ∀ (Fe : Fence) (m : Nat) (S : Start) (a : Act) (w : World) (θ : Theta) (K : Act → World → Prop) (Q : Exit → Act → World → Prop), LooseR Fe → Now P S env H n a w θ →
      (∀ a' w' θ', Now P S (setT env o.dst v) H' n' a' w' θ' → K a' w') →
      if Region.wanted o (yielded ops a.tmps) then o.wpIn Fe m P a w K Q else (∀ f, o.about P w a.eval = some f → Fe.fn f) ∧ K (a.put o.dst undef) w := by
  have run : evOp P F G env o H n k = true → ∃ v H' n', k v H' n' = true ∧ ∀ (Fe : Fence) (m : Nat) (S : Start) (a : Act) (w : World) (θ : Theta) (K : Act → World → Prop) (Q : Exit → Act → World → Prop), LooseR Fe → Now P S env H n a w θ →
      (∀ a' w' θ', Now P S (setT env o.dst v) H' n' a' w' θ' → K a' w') → o.wpIn Fe m P a w K Q := by
    intro h
    obtain ⟨v, H', n', hk, hg⟩ := evOp_ok hF hG h
    refine ⟨v, H', n', hk, fun Fe m S a w θ K Q hL s hK => ?_⟩
    exact hg Fe m θ a w S.B K Q hL s.went.rel s.went.fresh s.room s.glob (now_opd s o) (fun v' w' θ' hw hv => hK _ _ θ' (s.put hw o.dst hv))
  have skip : k (.tup []) H n = true → ∃ v H' n', k v H' n' = true ∧ ∀ (Fe : Fence) (S : Start) (a : Act) (w : World) (θ : Theta) (K : Act → World → Prop), LooseR Fe → Now P S env H n a w θ →
      (∀ a' w' θ', Now P S (setT env o.dst v) H' n' a' w' θ' → K a' w') → (∀ f, o.about P w a.eval = some f → Fe.fn f) ∧ K (a.put o.dst undef) w := by
    intro h
    exact ⟨_, _, _, h, fun Fe S a w θ K hL s hK => ⟨fun f _ => hL.fn f, hK _ _ θ (s.put (Went.refl s.went.rel s.went.fresh) o.dst (.inr (by simp [Ev.conc, concs, undef])))⟩⟩
  unfold evGd at h
  split at h
  · rename_i hgd
    obtain ⟨v, H', n', hk, hr⟩ := run h
    refine ⟨v, H', n', hk, fun Fe m S a w θ K Q hL s hK => ?_⟩
    have : Region.wanted o (yielded ops a.tmps) = true := by simp [Region.wanted, hgd]
    rw [if_pos this]
    exact hr Fe m S a w θ K Q hL s hK
  · rename_i j want hgd
    rcases ckGd_iff.1 h with ⟨b, hb, h⟩ | ⟨l, hb, h⟩
    rotate_left
    · obtain ⟨v, H', n', hk, hr⟩ := skip h
      refine ⟨v, H', n', hk, fun Fe m S a w θ K Q hL s hK => ?_⟩
      have hw : Region.wanted o (yielded ops a.tmps) = false := by
        simp only [Region.wanted, hgd, yielded_tup s hb]
        cases want <;> rfl
      rw [hw]
      exact hr Fe S a w θ K hL s hK
    have hw : ∀ {S : Start} {a : Act} {w : World} {θ : Theta}, Now P S env H n a w θ → Region.wanted o (yielded ops a.tmps) = (b == want) := by
      intro S a w θ s
      simp only [Region.wanted, hgd, yielded_of s hb]
      cases b <;> cases want <;> rfl
    cases b <;> cases want
    · obtain ⟨v, H', n', hk, hr⟩ := run h
      exact ⟨v, H', n', hk, fun Fe m S a w θ K Q hL s hK => by rw [hw s]; exact hr Fe m S a w θ K Q hL s hK⟩
    · obtain ⟨v, H', n', hk, hr⟩ := skip h
      exact ⟨v, H', n', hk, fun Fe m S a w θ K Q hL s hK => by rw [hw s]; exact hr Fe S a w θ K hL s hK⟩
    · obtain ⟨v, H', n', hk, hr⟩ := skip h
      exact ⟨v, H', n', hk, fun Fe m S a w θ K Q hL s hK => by rw [hw s]; exact hr Fe S a w θ K hL s hK⟩
    · obtain ⟨v, H', n', hk, hr⟩ := run h
      exact ⟨v, H', n', hk, fun Fe m S a w θ K Q hL s hK => by rw [hw s]; exact hr Fe m S a w θ K Q hL s hK⟩
theorem evOps_cons {P : Program} {F G : Orac} {ops : Array Oper} {kn : List AV → Heap → Nat → Bool} {o : Oper} {rest : List Oper} {env : List AV} {H : Heap} {n : Nat} :
    evOps P F G ops kn (o :: rest) env H n = evGd P F G ops env o H n fun v H n => evOps P F G ops kn rest (setT env o.dst v) H n := by
  rw [evOps, evGd]
  simp only [setTK_eq]
theorem evOps_ok {P : Program} {F G : Orac} (hF : CallSound P F) (hG : RoundSound P G) {ops : Array Oper} {kn : List AV → Heap → Nat → Bool} : ∀ {l : List Oper} {k : Nat} {env : List AV} {H : Heap} {n : Nat}, (∀ j, l[j]? = ops[k + j]?) →
    evOps P F G ops kn l env H n = true → ∃ env' H' n', kn env' H' n' = true ∧ Agree (asgOps l) env env' ∧ ∀ (Fe : Fence) (m : Nat) (S : Start) (a : Act) (w : World) (θ : Theta) (Q : Exit → Act → World → Prop), LooseR Fe → Now P S env H n a w θ →
      (∀ a' w' θ', Now P S env' H' n' a' w' θ' → Q .normal a' w') → wpOpsIn Fe m P ops Q (List.range' k l.length) a w
  | [], k, env, H, n, _, h => ⟨env, H, n, h, Agree.refl _ _, fun Fe m S a w θ Q hL s hQ => hQ a w θ s⟩
  | o :: rest, k, env, H, n, hl, h => by
    rw [evOps_cons] at h
    obtain ⟨v, H1, n1, h1, hop⟩ := wpOp_of hF hG h
    have hl' : ∀ j, rest[j]? = ops[k + 1 + j]? := fun j => by have := hl (j + 1); simpa [Nat.add_assoc, Nat.add_comm 1 j] using this
    obtain ⟨env', H', n', hk, hag, hrest⟩ := evOps_ok hF hG hl' h1
    refine ⟨env', H', n', hk, ?_, fun Fe m S a w θ Q hL s hQ => ?_⟩
    · refine Agree.trans (Agree.setT (fun t ht => ?_)) (hag.mono fun t ht => ?_)
      · simp [asgOps, ht]
      · simp only [asgOps, List.filterMap_cons] at ht ⊢
        split <;> simp [ht]
    · have h0 : ops[k]? = some o := by have := hl 0; simpa using this.symm
      simp only [List.length_cons, List.range'_succ, wpOpsIn, h0]
      exact hop Fe m S a w θ _ Q hL s (fun a' w' θ' s' => hrest Fe m S a' w' θ' Q hL s' hQ)
end
end Ev
namespace Ev
open Go
open Go.RowKit
noncomputable section
abbrev Kont := List AV → Heap → Nat → Bool
def packT (C : List Nat) (env : List AV) : List AV := C.map fun t => env.getD t .bad
def clrT : List Nat → List AV → List AV
  | [], env => env
  | t :: D, env => clrT D (env.set t .bad)
def clrK : List Nat → List AV → (List AV → Bool) → Bool
  | [], env, k => k env
  | t :: D, env, k => setLK env t .bad fun env => clrK D env k
theorem clrK_eq : ∀ (D : List Nat) (env : List AV) (k : List AV → Bool), clrK D env k = k (clrT D env)
  | [], _, _ => rfl
  | t :: D, env, k => by rw [clrK, setLK_eq, clrK_eq D]; rfl
def unpL : List Nat → List AV → List AV → (List AV → Bool) → Bool
  | [], _, e, k => k e
  | t :: C, l, e, k => List.casesOn (motive := fun _ => Bool) l false fun x l => setLK e t x fun e => unpL C l e k
def unpT : List Nat → List AV → List AV → (List AV → Bool) → Bool
  | [], _, e, k => k e
  | t :: C, l, e, k => List.casesOn (motive := fun _ => Bool) l false fun x l => unpT C l (e.set t x) k
theorem unpL_eq : ∀ (C : List Nat) (l e : List AV) (k : List AV → Bool), unpL C l e k = unpT C l e k
  | [], _, _, _ => rfl
  | t :: C, [], _, _ => rfl
  | t :: C, x :: l, e, k => by
    show (setLK e t x fun e => unpL C l e k) = unpT C l (e.set t x) k
    rw [setLK_eq, unpL_eq C]
def meetK (C D : List Nat) (env : List AV) (kn : Kont) (body : Kont → Bool) : Bool :=
  joinP (fun l H n => clrK D env fun e => unpL C l e fun e => kn e H n) fun (j : List AV → Heap → Nat → Bool) => body fun env' H n => j (packT C env') H n
structure Sub (e env : List AV) : Prop where
  len : e.length = env.length
  at_ : ∀ t, e.getD t .bad = .bad ∨ e.getD t .bad = env.getD t .bad
theorem clrT_ok {env' : List AV} {D0 : List Nat} : ∀ {D : List Nat} {env : List AV}, env.length = env'.length → (∀ t, t ∉ D → env.getD t .bad = .bad ∨ env.getD t .bad = env'.getD t .bad) → (∀ t, t ∉ D0 → env[t]? = env'[t]?) → (∀ t ∈ D, t ∈ D0) →
    Sub (clrT D env) env' ∧ ∀ t, t ∉ D0 → (clrT D env)[t]? = env'[t]?
  | [], env, hl, h, h0, _ => ⟨⟨hl, fun t => h t (by simp)⟩, h0⟩
  | d :: D, env, hl, h, h0, hs => by
    refine clrT_ok (D := D) (by simpa using hl) (fun t ht => ?_) (fun t ht => ?_) (fun t ht => hs t (by simp [ht]))
    · simp only [List.getD_eq_getElem?_getD, List.getElem?_set]
      by_cases e : d = t
      · subst e
        left
        by_cases hlt : d < env.length
        · simp [hlt]
        · simp [hlt]
      · simp only [if_neg e]
        have := h t (by simp [Ne.symm e, ht])
        simpa only [List.getD_eq_getElem?_getD] using this
    · have : d ≠ t := fun e => ht (e ▸ hs d (by simp))
      simp [this, h0 t ht]
theorem unpT_ok {env' : List AV} {D0 : List Nat} {k : List AV → Bool} : ∀ {C : List Nat} {e : List AV}, unpT C (packT C env') e k = true → Sub e env' → (∀ t, t ∉ D0 → e[t]? = env'[t]?) →
    ∃ e', k e' = true ∧ Sub e' env' ∧ ∀ t, t ∉ D0 → e'[t]? = env'[t]?
  | [], e, h, hs, h0 => ⟨e, h, hs, h0⟩
  | c :: C, e, h, hs, h0 => by
    have h : unpT C (packT C env') (e.set c (env'.getD c .bad)) k = true := h
    refine unpT_ok h ⟨by simpa using hs.len, fun t => ?_⟩ (fun t ht => ?_)
    · simp only [List.getD_eq_getElem?_getD, List.getElem?_set]
      by_cases ec : c = t
      · subst ec
        right
        by_cases hlt : c < e.length
        · simp [hlt]
        · have : ¬ c < env'.length := by rw [← hs.len]; exact hlt
          simp [hlt, List.getElem?_eq_none (Nat.le_of_not_lt this)]
      · simp only [if_neg ec]
        have := hs.at_ t
        simpa only [List.getD_eq_getElem?_getD] using this
    · simp only [List.getElem?_set]
      by_cases ec : c = t
      · subst ec
        have hl := hs.len
        by_cases hlt : c < e.length
        · have : c < env'.length := by omega
          simp [hlt, List.getElem?_eq_getElem this]
        · simp [hlt, List.getElem?_eq_none (show env'.length ≤ c by omega)]
      · simp [ec, h0 t ht]
theorem Now.sub {P : Program} {S : Start} {env e : List AV} {H : Heap} {n : Nat} {a : Act} {w : World} {θ : Theta} (s : Now P S env H n a w θ) (h : Sub e env) : Now P S e H n a w θ :=
  ⟨s.low, s.went, s.glob, fun t => (h.at_ t).elim (fun hb => .inl hb) (fun hb => by rw [hb]; exact s.tmps t), by rw [h.len]; exact s.len, s.defs⟩
theorem join_ok {D : List Nat} {env env' : List AV} {C : List Nat} {k : List AV → Bool} (hag : Agree D env env') (h : unpT C (packT C env') (clrT D env) k = true) : ∃ e, k e = true ∧ Sub e env' ∧ Agree D env e := by
  obtain ⟨hc1, hc2⟩ := clrT_ok (env' := env') (D0 := D) (D := D) (env := env) hag.1.symm (fun t ht => by right; simp only [List.getD_eq_getElem?_getD, hag.2 t ht]) (fun t ht => (hag.2 t ht).symm) (fun t ht => ht)
  obtain ⟨e, hk, hs, h0⟩ := unpT_ok h hc1 hc2
  exact ⟨e, hk, hs, by rw [hs.len, hag.1], fun t ht => by rw [h0 t ht, hag.2 t ht]⟩
def iterN (j : Nat) (step : (List AV → Heap → Nat → Bool) → List AV → Heap → Nat → Bool) : List AV → Heap → Nat → Bool :=
  Nat.rec (motive := fun _ => List AV → Heap → Nat → Bool) (fun _ _ _ => false) (fun _ ih => step ih) j
theorem iterN_succ (j : Nat) (step : (List AV → Heap → Nat → Bool) → List AV → Heap → Nat → Bool) (l : List AV) (H : Heap) (n : Nat) : iterN (j + 1) step l H n = step (iterN j step) l H n := rfl
def loopK (N : Nat) (C D : List Nat) (env : List AV) (H : Heap) (n : Nat) (body : List AV → Heap → Nat → Kont → Bool) : Bool :=
  iterN N (fun ih l H n => clrK D env fun e => unpL C l e fun e => body e H n fun env' H n => ih (packT C env') H n) (packT C env) H n
theorem wpIn_loop_fuel {F : Fence} {n : Nat} {P : Program} {c : Code} {Q : Exit → Act → World → Prop} (I : Nat → Act → World → Prop) (h0 : ∀ a w, ¬ I 0 a w)
    (round : ∀ j a w, I (j + 1) a w → c.wpIn F n P (Exit.then (I j) Q) a w) {j : Nat} {a : Act} {w : World} (h : I j a w) : (Code.loop c).wpIn F n P Q a w := by
  have least : ∀ a w, (∃ j, I j a w) → ∃ j, I j a w ∧ ∀ i, I i a w → j ≤ i := by
    intro a w ⟨j, hj⟩
    induction j using Nat.strongRecOn with
    | ind j ih =>
      by_cases hex : ∃ i, i < j ∧ I i a w
      · obtain ⟨i, hi, hI⟩ := hex
        exact ih i hi hI
      · exact ⟨j, hj, fun i hi => Nat.le_of_not_lt fun hlt => hex ⟨i, hlt, hi⟩⟩
  let μ : Act → World → Nat := fun a w => open Classical in if h : ∃ j, I j a w then Classical.choose (least a w h) else 0
  have hμ : ∀ a w j, I j a w → I (μ a w) a w ∧ μ a w ≤ j := by
    intro a w j hj
    have hex : ∃ j, I j a w := ⟨j, hj⟩
    have hspec := Classical.choose_spec (least a w hex)
    have e : μ a w = Classical.choose (least a w hex) := dif_pos hex
    rw [e]
    exact ⟨hspec.1, hspec.2 j hj⟩
  refine wpIn_loop (fun a w => ∃ j, I j a w) μ ⟨j, h⟩ fun a w ⟨j, hj⟩ => ?_
  obtain ⟨h1, _⟩ := hμ a w j hj
  cases hm : μ a w with
  | zero => rw [hm] at h1; exact absurd h1 (h0 a w)
  | succ i =>
    rw [hm] at h1
    refine wpIn_mono (round i a w h1) fun e a' w' q => ?_
    cases e with
    | normal => exact ⟨⟨i, q⟩, Nat.lt_succ_of_le (hμ a' w' i q).2⟩
    | _ => exact q
def Chain (F : Fence) (m : Nat) (P : Program) (c : Code) (Q : Exit → Act → World → Prop) : Nat → Act → World → Prop
  | 0, _, _ => False
  | j + 1, a, w => c.wpIn F m P (Exit.then (Chain F m P c Q j) Q) a w
theorem wpIn_chain {F : Fence} {m : Nat} {P : Program} {c : Code} {Q : Exit → Act → World → Prop} {j : Nat} {a : Act} {w : World} (h : Chain F m P c Q j a w) : (Code.loop c).wpIn F m P Q a w :=
  wpIn_loop_fuel (Chain F m P c Q) (fun _ _ h => h) (fun _ _ _ h => h) h
end
end Ev
namespace Ev
open Go
open Go.RowKit
noncomputable section
inductive An where
  | stop
  | leaf
  | two (a b : An)
  | join (C : List Nat) (a b : An)
  | one (C : List Nat) (a : An)
def asg : Code → List Nat
  | .region _ ops _ => asgOps ops.toList
  | .seq a b => asg a ++ asg b
  | .cond _ a b => asg a ++ asg b
  | .block _ a => asg a
  | .loop a => asg a
  | .scope a => asg a
  | _ => []
def exitK : List (Nat × Kont) → Nat → List AV → Heap → Nat → Bool
  | [], _, _, _, _ => false
  | (i, k) :: ks, id, env, H, n => Bool.rec (exitK ks id env H n) (hi (k env H n)) (Nat.beq i id)
structure Side where
  later : Array Oper → Kont → List AV → Heap → Nat → Bool
  draw : Nat → Array Oper → Kont → List AV → Heap → Nat → Bool
  range : Operand → Array Tmp → Code → Code → List Nat → Kont → List AV → Heap → Nat → Bool
  fuel : Nat
def hasDef : List Oper → Bool
  | [] => false
  | o :: l => match o.op with | .defer _ => true | _ => hasDef l
def goK (an : An) (y : Bool) : Bool := (fun (_ : Nat) => An.casesOn (motive := fun _ => Bool) an false y (fun _ _ => y) (fun _ _ _ => y) (fun _ _ => y)) tall40
theorem goK_ok {an : An} {y : Bool} (h : goK an y = true) : y = true := by cases an <;> first | exact h | exact (Bool.false_ne_true h).elim
def evCode (P : Program) (F G : Orac) (X : Side) : Code → An → List Nat → List AV → Heap → Nat → List (Nat × Kont) → Kont → Kont → Bool
  | .skip, _, _, env, H, n, _, _, kn => kn env H n
  | .label _, _, _, env, H, n, _, _, kn => kn env H n
  | .region _ ops false, _, _, env, H, n, _, _, kn => iteS (hasDef ops.toList = true) (X.later ops kn env H n) (evOps P F G ops kn ops.toList env H n)
  | .region id ops true, _, _, env, H, n, _, _, kn => X.draw id ops kn env H n
  | .seq a b, .two x y, p, env, H, n, ks, kr, kn => goK x (evCode P F G X a x (p ++ [0]) env H n ks kr fun env H n => goK y (evCode P F G X b y (p ++ [1]) env H n ks kr kn))
  | .seq a b, .join C x y, p, env, H, n, ks, kr, kn => meetK C (asg a) env (fun env H n => goK y (evCode P F G X b y (p ++ [1]) env H n ks kr kn)) fun kn' => goK x (evCode P F G X a x (p ++ [0]) env H n ks kr kn')
  | .cond c a b, .two x y, p, env, H, n, ks, kr, kn => (ev P env c).ckBool fun t => Bool.rec (goK y (evCode P F G X b y (p ++ [1]) env H n ks kr kn)) (goK x (evCode P F G X a x (p ++ [0]) env H n ks kr kn)) t
  | .block id a, .one C x, p, env, H, n, ks, kr, kn => meetK C (asg a) env kn fun kn' => goK x (evCode P F G X a x (p ++ [0]) env H n ((id, kn') :: ks) kr kn')
  | .loop a, .one C x, p, env, H, n, ks, kr, _ => loopK X.fuel C (asg a) env H n fun env H n k => goK x (evCode P F G X a x (p ++ [0]) env H n ks kr k)
  | .rangeFunc f ps as bd, _, p, env, H, n, _, _, kn => X.range f ps as bd p kn env H n
  | .exit id, _, _, env, H, n, ks, _, _ => exitK ks id env H n
  | .ret, _, _, env, H, n, _, kr, _ => kr env H n
  | _, _, _, _, _, _, _, _, _ => false
def Fen (t : Bool) (F : Fence) : Prop := LooseR F ∧ (t = true → F.round = none)
def CodeGoes (t : Bool) (P : Program) (c : Code) (env : List AV) (H : Heap) (n : Nat) (env' : List AV) (H' : Heap) (n' : Nat) : Prop :=
  ∀ (Fe : Fence) (m : Nat) (S : Start) (a : Act) (w : World) (θ : Theta) (Q : Exit → Act → World → Prop), Fen t Fe → Now P S env H n a w θ →
    (∀ a' w' θ', Now P S env' H' n' a' w' θ' → Q .normal a' w') → c.wpIn Fe m P Q a w
structure SideOK (t : Bool) (P : Program) (root : Code) (X : Side) : Prop where
  later : ∀ id ops kn env H n, X.later ops kn env H n = true → ∃ env' H' n', kn env' H' n' = true ∧ Agree (asgOps ops.toList) env env' ∧ CodeGoes t P (.region id ops false) env H n env' H' n'
  draw : ∀ id ops kn env H n, X.draw id ops kn env H n = true → ∃ env' H' n', kn env' H' n' = true ∧ Agree (asgOps ops.toList) env env' ∧ CodeGoes t P (.region id ops true) env H n env' H' n'
  range : ∀ f ps as bd p kn env H n, codeAt root p = some (.rangeFunc f ps as bd) → X.range f ps as bd p kn env H n = true →
    ∃ H' n', kn env H' n' = true ∧ CodeGoes t P (.rangeFunc f ps as bd) env H n env H' n'
theorem codeAt_step {root c : Code} : ∀ {p : List Nat} {i : Nat} {d : Code}, codeAt root p = some c → stepDown c i = some d → codeAt root (p ++ [i]) = some d := by
  intro p
  induction p generalizing root with
  | nil =>
    intro i d h hs
    simp only [codeAt, Option.some.injEq] at h
    subst h
    simp [codeAt, hs]
  | cons j p ih =>
    intro i d h hs
    simp only [codeAt, Option.bind_eq_some_iff] at h
    obtain ⟨e, he, h⟩ := h
    simp only [List.cons_append, codeAt, he, Option.bind_some]
    exact ih h hs
theorem meetK_iff {C D : List Nat} {env : List AV} {kn : Kont} {body : Kont → Bool} : meetK C D env kn body = body fun env' H n => unpT C (packT C env') (clrT D env) fun e => kn e H n := by
  unfold meetK joinP
  simp only [clrK_eq, unpL_eq]
def look : List (Nat × Kont) → Nat → Option Kont
  | [], _ => none
  | (i, k) :: ks, id => if i = id then some k else look ks id
def CodeTo (t : Bool) (P : Program) (c : Code) (env : List AV) (H : Heap) (n : Nat) (x : Exit) (env' : List AV) (H' : Heap) (n' : Nat) : Prop :=
  ∀ (Fe : Fence) (m : Nat) (S : Start) (a : Act) (w : World) (θ : Theta) (Q : Exit → Act → World → Prop), Fen t Fe → Now P S env H n a w θ →
    (∀ a' w' θ', Now P S env' H' n' a' w' θ' → Q x a' w') → c.wpIn Fe m P Q a w
def Ends (ks : List (Nat × Kont)) (kr kn : Kont) : Exit → List AV → Heap → Nat → Bool
  | .normal, env, H, n => kn env H n
  | .ret, env, H, n => kr env H n
  | .exit id, env, H, n => exitK ks id env H n
  | _, _, _, _ => false
theorem exitK_cons {i id : Nat} {k : Kont} {ks : List (Nat × Kont)} {env : List AV} {H : Heap} {n : Nat} (h : exitK ((i, k) :: ks) id env H n = true) : (id = i ∧ k env H n = true) ∨ (id ≠ i ∧ exitK ks id env H n = true) := by
  have h : (Bool.rec (motive := fun _ => Bool) (exitK ks id env H n) (k env H n) (Nat.beq i id)) = true := h
  cases hb : Nat.beq i id with
  | true =>
    simp only [hb] at h
    exact .inl ⟨by have : i = id := by simpa using hb
                   exact this.symm, h⟩
  | false =>
    simp only [hb] at h
    exact .inr ⟨fun e => by rw [e] at hb; simp at hb, h⟩
def Found (t : Bool) (P : Program) (c : Code) (env : List AV) (H : Heap) (n : Nat) (ks : List (Nat × Kont)) (kr kn : Kont) : Prop :=
  ∃ x env' H' n', Ends ks kr kn x env' H' n' = true ∧ Agree (asg c) env env' ∧ CodeTo t P c env H n x env' H' n'
theorem found_seq {t : Bool} {P : Program} {c d : Code} {env : List AV} {H : Heap} {n : Nat} {ks : List (Nat × Kont)} {kr kn ka : Kont} (h : Found t P c env H n ks kr ka)
    (hk : ∀ env' H' n', ka env' H' n' = true → Agree (asg c) env env' → ∃ e, Sub e env' ∧ Agree (asg c) env e ∧ Found t P d e H' n' ks kr kn) : Found t P (.seq c d) env H n ks kr kn := by
  obtain ⟨x, env1, H1, n1, he, hag, hto⟩ := h
  have ag : ∀ {e}, Agree (asg c) env e → Agree (asg (.seq c d)) env e := fun h => h.mono fun t ht => by simp [asg, ht]
  cases x with
  | normal =>
    obtain ⟨e, hs, hag2, y, env2, H2, n2, he2, hag3, hto2⟩ := hk _ _ _ he hag
    refine ⟨y, env2, H2, n2, he2, (ag hag2).trans (hag3.mono fun t ht => by simp [asg, ht]), fun Fe m S a w θ Q hL s hQ => ?_⟩
    refine wpIn_seq (hto Fe m S a w θ _ hL s fun a' w' θ' s' => ?_)
    exact hto2 Fe m S a' w' θ' Q hL (s'.sub hs) hQ
  | ret => exact ⟨.ret, env1, H1, n1, he, ag hag, fun Fe m S a w θ Q hL s hQ => wpIn_seq (hto Fe m S a w θ _ hL s hQ)⟩
  | exit id => exact ⟨.exit id, env1, H1, n1, he, ag hag, fun Fe m S a w θ Q hL s hQ => wpIn_seq (hto Fe m S a w θ _ hL s hQ)⟩
  | _ => exact (Bool.false_ne_true he).elim
theorem found_block {t : Bool} {P : Program} {c : Code} {id : Nat} {C : List Nat} {env : List AV} {H : Heap} {n : Nat} {ks : List (Nat × Kont)} {kr kn : Kont}
    (h : Found t P c env H n ((id, fun env' H n => unpT C (packT C env') (clrT (asg c) env) fun e => kn e H n) :: ks) kr (fun env' H n => unpT C (packT C env') (clrT (asg c) env) fun e => kn e H n)) : Found t P (.block id c) env H n ks kr kn := by
  obtain ⟨x, env1, H1, n1, he, hag, hto⟩ := h
  have out : (∃ e, kn e H1 n1 = true ∧ Sub e env1 ∧ Agree (asg c) env e) → (∀ (Q : Exit → Act → World → Prop) a w, Q .normal a w → Exit.inBlock id Q x a w) → Found t P (.block id c) env H n ks kr kn := by
    rintro ⟨e, hk, hs, hag2⟩ hx
    exact ⟨.normal, e, H1, n1, hk, hag2, fun Fe m S a w θ Q hL s hQ => wpIn_block (hto Fe m S a w θ _ hL s fun a' w' θ' s' => hx Q a' w' (hQ a' w' θ' (s'.sub hs)))⟩
  cases x with
  | normal => exact out (join_ok hag he) fun Q a w h => h
  | ret => exact ⟨.ret, env1, H1, n1, he, hag, fun Fe m S a w θ Q hL s hQ => wpIn_block (hto Fe m S a w θ _ hL s hQ)⟩
  | exit i =>
    have he : exitK _ i env1 H1 n1 = true := he
    rcases exitK_cons he with ⟨rfl, hk⟩ | ⟨hne, hk⟩
    · exact out (join_ok hag hk) fun Q a w h => by simp only [Exit.inBlock, if_true]; exact h
    · exact ⟨.exit i, env1, H1, n1, hk, hag, fun Fe m S a w θ Q hL s hQ => wpIn_block (hto Fe m S a w θ _ hL s fun a' w' θ' s' => by simp only [Exit.inBlock]; rw [if_neg hne]; exact hQ a' w' θ' s')⟩
  | _ => exact (Bool.false_ne_true he).elim
theorem found_loop {N : Nat} {t : Bool} {P : Program} {c : Code} {C : List Nat} {env : List AV} {H : Heap} {n : Nat} {ks : List (Nat × Kont)} {kr kn : Kont} {body : List AV → Heap → Nat → Kont → Bool}
    (hb : ∀ e H n k, body e H n k = true → Found t P c e H n ks kr k) (h : loopK N C (asg c) env H n body = true) : Found t P (.loop c) env H n ks kr kn := by
  have key : ∀ (j : Nat) (env1 : List AV) (H1 : Heap) (n1 : Nat), Agree (asg c) env env1 →
      iterN j (fun ih l H n => unpT C l (clrT (asg c) env) fun e => body e H n fun env' H n => ih (packT C env') H n) (packT C env1) H1 n1 = true →
      ∃ x env' H' n', x ≠ .normal ∧ (∀ kn, Ends ks kr kn x env' H' n' = true) ∧ Agree (asg c) env env' ∧ ∀ (Fe : Fence) (m : Nat) (S : Start) (a : Act) (w : World) (θ : Theta) (Q : Exit → Act → World → Prop), Fen t Fe → Now P S env1 H1 n1 a w θ →
        (∀ a' w' θ', Now P S env' H' n' a' w' θ' → Q x a' w') → Chain Fe m P c Q j a w := by
    intro j
    induction j with
    | zero => intro env1 H1 n1 _ h; exact (Bool.false_ne_true h).elim
    | succ j ih =>
      intro env1 H1 n1 hag h
      rw [iterN_succ] at h
      obtain ⟨e, hk, hs, hag2⟩ := join_ok hag h
      obtain ⟨x, env2, H2, n2, he, hag3, hto⟩ := hb _ _ _ _ hk
      cases x with
      | normal =>
        obtain ⟨y, env3, H3, n3, hy, he3, hag4, hto3⟩ := ih env2 H2 n2 (hag2.trans hag3) he
        refine ⟨y, env3, H3, n3, hy, he3, hag4, fun Fe m S a w θ Q hL s hQ => ?_⟩
        exact hto Fe m S a w θ _ hL (s.sub hs) fun a' w' θ' s' => hto3 Fe m S a' w' θ' Q hL s' hQ
      | ret => exact ⟨.ret, env2, H2, n2, by simp, fun _ => he, hag2.trans hag3, fun Fe m S a w θ Q hL s hQ => hto Fe m S a w θ _ hL (s.sub hs) hQ⟩
      | exit i => exact ⟨.exit i, env2, H2, n2, by simp, fun _ => he, hag2.trans hag3, fun Fe m S a w θ Q hL s hQ => hto Fe m S a w θ _ hL (s.sub hs) hQ⟩
      | _ => exact (Bool.false_ne_true he).elim
  unfold loopK at h
  simp only [clrK_eq, unpL_eq] at h
  generalize N = j at h
  obtain ⟨x, env', H', n', hx, he, hag, hto⟩ := key j env H n (Agree.refl _ _) h
  exact ⟨x, env', H', n', he kn, hag, fun Fe m S a w θ Q hL s hQ => wpIn_chain (hto Fe m S a w θ Q hL s hQ)⟩
theorem found_normal {t : Bool} {P : Program} {c : Code} {env env' : List AV} {H H' : Heap} {n n' : Nat} {ks : List (Nat × Kont)} {kr kn : Kont} (hk : kn env' H' n' = true) (hag : Agree (asg c) env env') (hto : CodeGoes t P c env H n env' H' n') : Found t P c env H n ks kr kn :=
  ⟨.normal, env', H', n', hk, hag, hto⟩
theorem evCode_ok {t : Bool} {P : Program} {F G : Orac} (hF : CallSound P F) (hG : RoundSound P G) {root : Code} {X : Side} (hX : SideOK t P root X) :
    ∀ (c : Code) (an : An) (p : List Nat) (env : List AV) (H : Heap) (n : Nat) (ks : List (Nat × Kont)) (kr kn : Kont), evCode P F G X c an p env H n ks kr kn = true → codeAt root p = some c → Found t P c env H n ks kr kn
  | .skip, an, p, env, H, n, ks, kr, kn, h, hp => by
    rw [evCode] at h
    exact found_normal h (Agree.refl _ _) fun Fe m S a w θ Q hL s hQ => wpIn_skip (hQ a w θ s)
  | .label l, an, p, env, H, n, ks, kr, kn, h, hp => by
    rw [evCode] at h
    exact found_normal h (Agree.refl _ _) fun Fe m S a w θ Q hL s hQ => wpIn_label (hQ a w θ s)
  | .region id ops false, an, p, env, H, n, ks, kr, kn, h, hp => by
    rw [evCode, iteS_eq] at h
    split at h
    · obtain ⟨env', H', n', hk, hag, hgo⟩ := hX.later id _ _ _ _ _ h
      exact found_normal hk hag hgo
    obtain ⟨env', H', n', hk, hag, hgo⟩ := evOps_ok hF hG (l := ops.toList) (k := 0) (fun j => by simp) h
    refine found_normal hk hag fun Fe m S a w θ Q hL s hQ => ?_
    have := hgo Fe m S a w θ Q hL.1 s hQ
    refine wpIn_region ?_
    rw [List.range_eq_range']
    simpa using this
  | .region id ops true, an, p, env, H, n, ks, kr, kn, h, hp => by
    rw [evCode] at h
    obtain ⟨env', H', n', hk, hag, hgo⟩ := hX.draw _ _ _ _ _ _ h
    exact found_normal hk hag hgo
  | .seq c d, .two x y, p, env, H, n, ks, kr, kn, h, hp => by
    rw [evCode] at h
    refine found_seq (evCode_ok hF hG hX c x _ env H n ks kr _ (goK_ok h) (codeAt_step hp rfl)) fun env' H' n' hk hag => ?_
    exact ⟨env', ⟨rfl, fun _ => .inr rfl⟩, hag, evCode_ok hF hG hX d y _ env' H' n' ks kr kn (goK_ok hk) (codeAt_step hp rfl)⟩
  | .seq c d, .join C x y, p, env, H, n, ks, kr, kn, h, hp => by
    rw [evCode, meetK_iff] at h
    refine found_seq (evCode_ok hF hG hX c x _ env H n ks kr _ (goK_ok h) (codeAt_step hp rfl)) fun env' H' n' hk hag => ?_
    obtain ⟨e, hk, hs, hag2⟩ := join_ok hag hk
    exact ⟨e, hs, hag2, evCode_ok hF hG hX d y _ e H' n' ks kr kn (goK_ok hk) (codeAt_step hp rfl)⟩
  | .cond co c d, .two x y, p, env, H, n, ks, kr, kn, h, hp => by
    rw [evCode] at h
    obtain ⟨b, hb, h⟩ := ckBool_iff.1 h
    have hv : ∀ {S : Start} {a : Act} {w : World} {θ : Theta}, Now P S env H n a w θ → a.eval co = .bool b := by
      intro S a w θ s
      have hv : VR θ (ev P env co) (a.eval co) := ev_ok s.glob co fun t _ => s.tmps t
      rw [hb] at hv
      exact hv.bool
    cases b with
    | true =>
      obtain ⟨z, env', H', n', he, hag, hto⟩ := evCode_ok hF hG hX c x _ env H n ks kr kn (goK_ok h) (codeAt_step hp rfl)
      exact ⟨z, env', H', n', he, hag.mono fun t ht => by simp [asg, ht], fun Fe m S a w θ Q hL s hQ => wpIn_cond (hv s) (hto Fe m S a w θ Q hL s hQ)⟩
    | false =>
      obtain ⟨z, env', H', n', he, hag, hto⟩ := evCode_ok hF hG hX d y _ env H n ks kr kn (goK_ok h) (codeAt_step hp rfl)
      exact ⟨z, env', H', n', he, hag.mono fun t ht => by simp [asg, ht], fun Fe m S a w θ Q hL s hQ => wpIn_cond (hv s) (hto Fe m S a w θ Q hL s hQ)⟩
  | .block id c, .one C x, p, env, H, n, ks, kr, kn, h, hp => by
    rw [evCode, meetK_iff] at h
    exact found_block (evCode_ok hF hG hX c x _ env H n _ kr _ (goK_ok h) (codeAt_step hp rfl))
  | .loop c, .one C x, p, env, H, n, ks, kr, kn, h, hp => by
    rw [evCode] at h
    exact found_loop (fun e H n k hk => evCode_ok hF hG hX c x _ e H n ks kr k (goK_ok hk) (codeAt_step hp rfl)) h
  | .rangeFunc f ps as bd, an, p, env, H, n, ks, kr, kn, h, hp => by
    rw [evCode] at h
    obtain ⟨H', n', hk, hgo⟩ := hX.range _ _ _ _ _ _ _ _ _ hp h
    exact found_normal hk (Agree.refl _ _) hgo
  | .exit id, an, p, env, H, n, ks, kr, kn, h, hp => by
    rw [evCode] at h
    exact ⟨.exit id, env, H, n, h, Agree.refl _ _, fun Fe m S a w θ Q hL s hQ => wpIn_exit (hQ a w θ s)⟩
  | .ret, an, p, env, H, n, ks, kr, kn, h, hp => by
    rw [evCode] at h
    exact ⟨.ret, env, H, n, h, Agree.refl _ _, fun Fe m S a w θ Q hL s hQ => wpIn_ret (hQ a w θ s)⟩
  | .goto l, an, p, env, H, n, ks, kr, kn, h, hp => by simp [evCode] at h
  | .scope c, an, p, env, H, n, ks, kr, kn, h, hp => by simp [evCode] at h
  | .refuse r, an, p, env, H, n, ks, kr, kn, h, hp => by simp [evCode] at h
  | .seq _ _, .leaf, p, env, H, n, ks, kr, kn, h, hp => by simp [evCode] at h
  | .seq _ _, .one _ _, p, env, H, n, ks, kr, kn, h, hp => by simp [evCode] at h
  | .cond _ _ _, .leaf, p, env, H, n, ks, kr, kn, h, hp => by simp [evCode] at h
  | .cond _ _ _, .one _ _, p, env, H, n, ks, kr, kn, h, hp => by simp [evCode] at h
  | .cond _ _ _, .join _ _ _, p, env, H, n, ks, kr, kn, h, hp => by simp [evCode] at h
  | .block _ _, .leaf, p, env, H, n, ks, kr, kn, h, hp => by simp [evCode] at h
  | .block _ _, .two _ _, p, env, H, n, ks, kr, kn, h, hp => by simp [evCode] at h
  | .block _ _, .join _ _ _, p, env, H, n, ks, kr, kn, h, hp => by simp [evCode] at h
  | .loop _, .leaf, p, env, H, n, ks, kr, kn, h, hp => by simp [evCode] at h
  | .loop _, .two _ _, p, env, H, n, ks, kr, kn, h, hp => by simp [evCode] at h
  | .loop _, .join _ _ _, p, env, H, n, ks, kr, kn, h, hp => by simp [evCode] at h
  | .seq _ _, .stop, p, env, H, n, ks, kr, kn, h, hp => by simp [evCode] at h
  | .cond _ _ _, .stop, p, env, H, n, ks, kr, kn, h, hp => by simp [evCode] at h
  | .block _ _, .stop, p, env, H, n, ks, kr, kn, h, hp => by simp [evCode] at h
  | .loop _, .stop, p, env, H, n, ks, kr, kn, h, hp => by simp [evCode] at h
end
end Ev
namespace Ev
open Go
open Go.RowKit
noncomputable section
def evLater (P : Program) (C : Nat → Bool) (F G : Orac) (ops : Array Oper) (kn : Kont) : List Oper → List AV → Heap → Nat → Bool
  | [], _, _, _ => false
  | o :: rest, env, H, n => match o.op with
    | .defer c => (match rest, o.guard, c.callee with
      | [], none, .value f => (ev P env f).ckFn fun g _ _ => Fn.rec (motive := fun _ => Bool) (fun fi => Bool.rec false (setTK env o.dst (.tup []) fun env => kn env H n) (C fi)) (fun _ => false) (fun _ _ => false) (fun _ _ _ _ => false) (fun _ => false) g
      | _, _, _ => false)
    | _ => evGd P F G ops env o H n fun v H n => setTK env o.dst v fun env => evLater P C F G ops kn rest env H n
theorem evLater_ok {P : Program} {C : Nat → Bool} (hC : ∀ f, C f = true → CalmD P f) {F G : Orac} (hF : CallSound P F) (hG : RoundSound P G) {ops : Array Oper} {kn : Kont} : ∀ {l : List Oper} {k : Nat} {env : List AV} {H : Heap} {n : Nat}, (∀ j, l[j]? = ops[k + j]?) →
    evLater P C F G ops kn l env H n = true → ∃ env' H' n', kn env' H' n' = true ∧ Agree (asgOps l) env env' ∧ ∀ (Fe : Fence) (m : Nat) (S : Start) (a : Act) (w : World) (θ : Theta) (Q : Exit → Act → World → Prop), Fen true Fe → Now P S env H n a w θ →
      (∀ a' w' θ', Now P S env' H' n' a' w' θ' → Q .normal a' w') → wpOpsIn Fe m P ops Q (List.range' k l.length) a w
  | [], k, env, H, n, _, h => (Bool.false_ne_true h).elim
  | o :: rest, k, env, H, n, hl, h => by
    have h0 : ops[k]? = some o := by have := hl 0; simpa using this.symm
    rw [evLater] at h
    split at h
    · rename_i c ho
      split at h
      · rename_i f hg hc
        obtain ⟨g, first, cap, hx, h⟩ := ckFn_iff.1 h
        cases g with
        | func fi =>
          have h : (Bool.rec (motive := fun _ => Bool) false (setTK env o.dst (.tup []) fun env => kn env H n) (C fi)) = true := h
          cases hCf : C fi with
          | false => rw [hCf] at h; exact (Bool.false_ne_true h).elim
          | true =>
            rw [hCf] at h
            have h : (setTK env o.dst (.tup []) fun env => kn env H n) = true := h
            rw [setTK_eq] at h
            refine ⟨_, _, _, h, Agree.setT fun t ht => by simp [asgOps, ht], fun Fe m S a w θ Q hL s hQ => ?_⟩
            have hw : Region.wanted o (yielded ops a.tmps) = true := by simp [Region.wanted, hg]
            simp only [List.length_cons, List.length_nil, List.range'_succ, List.range'_zero, wpOpsIn, h0]
            rw [if_pos hw]
            refine ⟨fun f _ => hL.1.fn f, ?_⟩
            have hr : Fe.round = none := hL.2 rfl
            rw [hr, Oper.semAt_none]
            have vf := (now_opd s o) f (by simp [ho, Op.operands, Call.operands, hc])
            rw [hx] at vf
            obtain ⟨fs, cs, gv, hgv, hfs, hcs, hv⟩ := vf.fn
            simp only [fnC, Option.some.injEq] at hgv
            subst hgv
            have hrun : ∃ as, (execOp a.eval o).run P w = .ok (.defer { target := .fn (.func fi) cs.toArray, args := as }) w := by
              refine ⟨fs.toArray ++ c.args.map a.eval, ?_⟩
              simp [execOp, ho, resolve, hc, hv, Deferred.ofValue]
            obtain ⟨as, hrun⟩ := hrun
            rw [hrun, Oper.uponIn_defer]
            have s2 : Now P S env H n { a with defers := { target := .fn (.func fi) cs.toArray, args := as } :: a.defers } w θ := ⟨s.low, s.went, s.glob, s.tmps, s.len, s.defs.calm (hC fi hCf) _ _⟩
            exact hQ _ _ θ (s2.put (Went.refl s2.went.rel s2.went.fresh) o.dst (.inr (by simp [Ev.conc, concs, undef])))
        | _ => exact (Bool.false_ne_true h).elim
      · cases h
    · simp only [setTK_eq] at h
      obtain ⟨v, H1, n1, h1, hop⟩ := wpOp_of hF hG h
      have hl' : ∀ j, rest[j]? = ops[k + 1 + j]? := fun j => by have := hl (j + 1); simpa [Nat.add_assoc, Nat.add_comm 1 j] using this
      obtain ⟨env', H', n', hk, hag, hrest⟩ := evLater_ok hC hF hG hl' h1
      refine ⟨env', H', n', hk, ?_, fun Fe m S a w θ Q hL s hQ => ?_⟩
      · refine Agree.trans (Agree.setT (fun t ht => ?_)) (hag.mono fun t ht => ?_)
        · simp [asgOps, ht]
        · simp only [asgOps, List.filterMap_cons] at ht ⊢
          split <;> simp [ht]
      · simp only [List.length_cons, List.range'_succ, wpOpsIn, h0]
        exact hop Fe m S a w θ _ Q hL.1 s (fun a' w' θ' s' => hrest Fe m S a' w' θ' Q hL s' hQ)
theorem evLater_goes {P : Program} {C : Nat → Bool} (hC : ∀ f, C f = true → CalmD P f) {F G : Orac} (hF : CallSound P F) (hG : RoundSound P G) {ops : Array Oper} {kn : Kont} {env : List AV} {H : Heap} {n : Nat} (id : Nat) (h : evLater P C F G ops kn ops.toList env H n = true) :
    ∃ env' H' n', kn env' H' n' = true ∧ Agree (asgOps ops.toList) env env' ∧ CodeGoes true P (.region id ops false) env H n env' H' n' := by
  obtain ⟨env', H', n', hk, hag, hgo⟩ := evLater_ok hC hF hG (l := ops.toList) (k := 0) (fun j => by simp) h
  refine ⟨env', H', n', hk, hag, fun Fe m S a w θ Q hL s hQ => ?_⟩
  have := hgo Fe m S a w θ Q hL s hQ
  refine wpIn_region ?_
  rw [List.range_eq_range']
  simpa using this
end
end Ev
namespace Ev
open Go
open Go.RowKit
noncomputable section
def resK (P : Program) (env : List AV) (H : Heap) : List ResultVar → (List AV → Bool) → Bool
  | [], k => k []
  | .tmp t :: rs, k => resK P env H rs fun l => k (env.getD t .bad :: l)
  | .cell a t :: rs, k => loadE P t H (env.getD a .bad) fun v => resK P env H rs fun l => k (v :: l)
def tupK : List AV → (AV → Bool) → Bool
  | [v], k => k v
  | [], k => k (.tup [])
  | a :: b :: l, k => okAll (a :: b :: l) (k (.tup (a :: b :: l)))
def oneRes (tmps : Array Value) : ResultVar → Sem Value
  | .tmp t => pure (tmps.getD t undef)
  | .cell a t => do loadVar t (← asAddr (tmps.getD a undef))
theorem resK_ok {P : Program} {env : List AV} {H : Heap} : ∀ {rs : List ResultVar} {k : List AV → Bool}, resK P env H rs k = true → ∃ l, k l = true ∧
    ∀ (θ : Theta) (w : World) (B : Nat) (tmps : Array Value), HRel P θ (hfn H) B w → (∀ t, VR θ (env.getD t .bad) (tmps.getD t undef)) → ∃ vs, (rs.mapM (oneRes tmps)).run P w = .ok vs w ∧ VRs θ l vs
  | [], k, h => ⟨[], h, fun θ w B tmps _ _ => ⟨[], by simp, .nil⟩⟩
  | .tmp t :: rs, k, h => by
    obtain ⟨l, hk, hq⟩ := resK_ok (rs := rs) h
    refine ⟨_, hk, fun θ w B tmps r ht => ?_⟩
    obtain ⟨vs, h1, h2⟩ := hq θ w B tmps r ht
    exact ⟨tmps.getD t undef :: vs, by simp only [List.mapM_cons, oneRes, Sem.run_bind, Sem.run_pure, Result.andThen_ok, h1], .cons (ht t) h2⟩
  | .cell a t :: rs, k, h => by
    obtain ⟨v, h, hv⟩ := load_ok h
    obtain ⟨l, hk, hq⟩ := resK_ok (rs := rs) h
    refine ⟨_, hk, fun θ w B tmps r ht => ?_⟩
    obtain ⟨vs, h1, h2⟩ := hq θ w B tmps r ht
    obtain ⟨ad, v', e, hr, hc⟩ := hv θ w B _ r (ht a)
    exact ⟨v' :: vs, by simp only [List.mapM_cons, oneRes, e, asAddr, Sem.run_bind, Sem.run_pure, Result.andThen_ok, hr, h1], .cons (.inr hc) h2⟩
theorem VRs.concs {θ : Theta} : ∀ {l : List AV} {vs : List Value}, VRs θ l vs → (∀ a ∈ l, a ≠ .bad) → concs θ l = some vs
  | [], _, .nil, _ => rfl
  | a :: l, _, .cons h k, hb => concs_cons.2 ⟨_, _, h.conc (hb a (by simp)), VRs.concs k (fun b hb' => hb b (by simp [hb'])), rfl⟩
theorem tupK_ok {l : List AV} {k : AV → Bool} (h : tupK l k = true) : ∃ v, k v = true ∧ ∀ θ (vs : Array Value), VRs θ l vs.toList → VR θ v (if h : vs.size = 1 then vs[0] else .tuple vs) := by
  match l, h with
  | [], h =>
    refine ⟨_, h, fun θ vs hv => ?_⟩
    have : vs = #[] := by
      have := hv.length
      simpa using this
    subst this
    exact .inr (by simp [Ev.conc, Ev.concs])
  | [v], h =>
    refine ⟨_, h, fun θ vs hv => ?_⟩
    have hl := hv.length
    have hs : vs.size = 1 := by simpa using hl
    rw [dif_pos hs]
    have := hv.get 0
    simp only [List.getD_eq_getElem?_getD, List.getElem?_cons_zero, Option.getD_some, Array.getElem?_toList] at this
    rw [Array.getElem?_eq_getElem (by omega)] at this
    simpa using this
  | a :: b :: l, h =>
    obtain ⟨hb, hk⟩ := okAll_iff.1 h
    refine ⟨_, hk, fun θ vs hv => ?_⟩
    have hl := hv.length
    have hs : ¬ vs.size = 1 := by simp at hl; omega
    rw [dif_neg hs]
    exact .inr (by simp [Ev.conc, hv.concs hb])
def finK (P : Program) (fn : Func) (k : AV → Heap → Nat → Bool) : Kont := fun env H n => resK P env H fn.results.toList fun l => tupK l fun v => k v H n
def padK (m : Nat) (k : List AV → Bool) : Bool := (fun (_ : Nat) => Nat.rec (motive := fun _ => (List AV → Bool) → Bool) (fun k => k []) (fun _ ih k => ih fun l => k (.bad :: l)) m k) tall40
theorem padK_eq : ∀ (m : Nat) (k : List AV → Bool), padK m k = k (List.replicate m .bad)
  | 0, _ => rfl
  | m + 1, k => by
    show padK m (fun l => k (.bad :: l)) = _
    rw [padK_eq m]
    rfl
def takeK (m : Nat) : Nat → List AV → (List AV → Bool) → Bool
  | 0, l, k => List.casesOn (motive := fun _ => Bool) l (padK m k) fun _ _ => false
  | n + 1, l, k => List.casesOn (motive := fun _ => Bool) l false fun a l => takeK m n l fun r => k (a :: r)
theorem takeK_ok {m : Nat} : ∀ {n : Nat} {l : List AV} {k : List AV → Bool}, takeK m n l k = true → k (l ++ List.replicate m .bad) = true ∧ l.length = n
  | 0, [], k, h => ⟨by have h : padK m k = true := h
                       rw [padK_eq] at h
                       exact h, rfl⟩
  | 0, a :: l, k, h => (Bool.false_ne_true h).elim
  | n + 1, [], k, h => (Bool.false_ne_true h).elim
  | n + 1, a :: l, k, h => by
    have h : takeK m n l (fun r => k (a :: r)) = true := h
    obtain ⟨h1, h2⟩ := takeK_ok h
    exact ⟨h1, by simp [h2]⟩
def evFn (P : Program) (F G : Orac) (X : Side) (fn : Func) (np : Nat) (an : An) (args : List AV) (H : Heap) (n : Nat) (k : AV → Heap → Nat → Bool) : Bool :=
  match fn.body with
  | some c => takeK (fn.ntmps - np) np args fun env => evCode P F G X c an [] env H n [] (finK P fn k) (finK P fn k)
  | none => false
theorem results_of {P : Program} {fn : Func} {tmps : Array Value} {w : World} {vs : List Value} (h : (fn.results.toList.mapM (oneRes tmps)).run P w = .ok vs w) :
    (results fn tmps).run P w = .ok (if h : vs.toArray.size = 1 then vs.toArray[0] else .tuple vs.toArray) w := by
  have e : results fn tmps = (do
      let vs ← fn.results.mapM (oneRes tmps)
      pure (if h : vs.size = 1 then vs[0] else .tuple vs) : Sem Value) := by
    unfold results
    congr 2
  rw [e, Array.mapM_eq_mapM_toList]
  simp only [Sem.run_bind, Sem.run_map, h, Result.andThen_ok, Sem.run_pure]
theorem leaves_marks {P : Program} {m : Nat} {fn : Func} {tmps : Array Value} {R : Ending → World → Prop} {S : Start} {θ : Theta} {H : Heap} {n : Nat} :
    ∀ (ds : List Deferred) (w : World), Went P S.θ S.h S.n S.B S.w θ (hfn H) n w → (∀ d ∈ ds, DefOK P d) → (ds.filterMap markOf).Nodup →
      (∀ r ∈ ds.filterMap markOf, S.w.heap.size ≤ r ∧ w.heap[r]? = some (.deferred (some [])) ∧ ∀ b l, hfn H b ≠ .dead → θ.blk b = some l → l.blk ≠ r) →
      (∀ w', Went P S.θ S.h S.n S.B S.w θ (hfn H) n w' → ∃ v, (results fn tmps).run P w' = .ok v w' ∧ R (.returned v) w') →
      LeavesInM Fence.wide m P fn tmps R ds .returning w
  | [], w, hw, _, _, _, hR => by
    simp only [LeavesInM, LeavesIn]
    exact hR w hw
  | d :: ds, w, hw, hok, hnd, hrs, hR => by
    rcases hok d (by simp) with ⟨r, rfl⟩ | ⟨f, cap, args, rfl, hcalm⟩
    · have hfm : (({ target := .collected r, args := #[] } : Deferred) :: ds).filterMap markOf = r :: ds.filterMap markOf := rfl
      rw [hfm] at hnd hrs
      obtain ⟨h1, h2, h3⟩ := hrs r (by simp)
      have hnd' := List.nodup_cons.1 hnd
      have htake : (Instr.takeDeferred r).run P w = .ok [] { w with heap := w.heap.setIfInBounds r (.deferred none) } := by
        simp only [Instr.takeDeferred, Sem.run_bind, run_getObj_of h2 (by simp), Result.andThen_ok]
        simp [setObj, Sem.run, h2]
      have hother : ∀ k, k ≠ r → (w.heap.setIfInBounds r (.deferred none))[k]? = w.heap[k]? := fun k hk => by simp [Ne.symm hk]
      refine ⟨by simp, .inl ⟨r, _, rfl, htake, ?_⟩⟩
      refine leaves_marks ds _ ?_ (fun d hd => hok d (by simp [hd])) hnd'.2 (fun r' hr' => ?_) hR
      · refine ⟨hw.le, hw.num, hw.old, hw.rel.keep (Theta.le_refl _) (by simp) (fun b l hb hl => hother _ (h3 b l hb hl)), hw.fresh, ?_, hw.grows⟩
        refine ⟨hw.frm.os, hw.frm.tape, hw.frm.output, Nat.le_trans hw.frm.size (by simp), fun k hk hn => ?_⟩
        rw [← hw.frm.block k hk hn]
        exact hother k (by omega)
      · obtain ⟨g1, g2, g3⟩ := hrs r' (List.mem_cons_of_mem _ hr')
        have hne : r' ≠ r := fun e => hnd'.1 (e ▸ hr')
        exact ⟨g1, (hother r' hne).trans g2, g3⟩
    · have hfm : (({ target := .fn (.func f) cap, args := args } : Deferred) :: ds).filterMap markOf = ds.filterMap markOf := rfl
      rw [hfm] at hnd hrs
      refine ⟨by simp, .inr ⟨(fun hd => by cases hd), .func f, cap, f, args ++ cap, rfl, by simpa [invoke] using hcalm.call (args ++ cap) w, fun _ _ => trivial, (hcalm.run (m - 1) (args ++ cap) w).mono ?_⟩⟩
      rintro e u' w' ⟨⟨v, rfl⟩, rfl, rfl⟩
      exact leaves_marks ds _ hw (fun d hd => hok d (by simp [hd])) hnd hrs hR
theorem evFn_ok {P : Program} {F G : Orac} (hF : CallSound P F) (hG : RoundSound P G) {X : Side} {fn : Func} {np : Nat} {an : An} {f : Nat} {args : List AV} {H : Heap} {n : Nat} {k : AV → Heap → Nat → Bool}
    (hf : P.funcs[f]? = some fn) (hcall : ∀ (vs : Array Value) (w : World), (callFunc f vs).run P w = .ok (.enter f vs) w) (hX : ∀ c, fn.body = some c → SideOK true P c X)
    (h : evFn P F G X fn np an args H n k = true) : ∃ v H' n', k v H' n' = true ∧ Answers P f args H n v H' n' := by
  unfold evFn at h
  split at h
  · rename_i c hc
    obtain ⟨h, rfl⟩ := takeK_ok h
    obtain ⟨x, env', H', n', he, hag, hto⟩ := evCode_ok hF hG (hX c hc) c an [] _ H n [] _ _ h rfl
    have hfin : finK P fn k env' H' n' = true ∧ (x = .normal ∨ x = .ret) := by
      cases x with
      | normal => exact ⟨he, .inl rfl⟩
      | ret => exact ⟨he, .inr rfl⟩
      | exit i => exact (Bool.false_ne_true he).elim
      | _ => exact (Bool.false_ne_true he).elim
    obtain ⟨l, hl, hq⟩ := resK_ok hfin.1
    obtain ⟨v, hk, hv⟩ := tupK_ok hl
    refine ⟨v, H', n', hk, hcall, fun θ w B vs r fr hB hg hvs m => ?_⟩
    refine callsIn_of_wp_marks hf hc trivial ?_
    have hlen := hvs.length
    let S : Start := ⟨θ, hfn H, n, B, w, w.heap.size, Nat.le_refl _⟩
    have s : Now P S (args ++ List.replicate (fn.ntmps - args.length) .bad) H n { tmps := vs.toArray ++ Array.replicate (fn.ntmps - vs.toArray.size) undef, defers := [] } w θ := by
      refine ⟨hB, Went.refl r fr, hg, fun t => ?_, by simp [hlen], MarksOK.nil _ _ _ _⟩
      simp only [List.getD_eq_getElem?_getD, Array.getD_eq_getD_getElem?]
      by_cases ht : t < args.length
      · rw [List.getElem?_append_left ht, Array.getElem?_append_left (by simp; omega)]
        have := hvs.get t
        simpa [List.getD_eq_getElem?_getD] using this
      · left
        rw [List.getElem?_append_right (by omega)]
        by_cases h2 : t - args.length < fn.ntmps - args.length
        · simp [h2]
        · simp [h2]
    refine hto Fence.wide m S _ w θ _ ⟨looseR_wide, fun _ => rfl⟩ s fun a' w' θ' s' => ?_
    obtain ⟨rs, ⟨hds, hok⟩, hnd, hrs⟩ := s'.defs
    have main : LeavesInM Fence.wide m P fn a'.tmps (fun e w' => ∃ v' θ', e = .returned v' ∧ Went P θ (hfn H) n B w θ' (hfn H') n' w' ∧ VR θ' v v') a'.defers .returning w' := by
      refine leaves_marks (S := S) (θ := θ') (H := H') (n := n') a'.defers w' s'.went hok (by rw [hds]; exact hnd) (by rw [hds]; exact hrs) fun w2 hw2 => ?_
      obtain ⟨us, h1, h2⟩ := hq θ' w2 B a'.tmps hw2.rel s'.tmps
      exact ⟨_, results_of h1, _, θ', rfl, hw2, hv θ' us.toArray (by simpa using h2)⟩
    rcases hfin.2 with rfl | rfl <;> exact main
  · cases h
end
end Ev
