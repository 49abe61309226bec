/- A part of the proof that GcNone returns true: text Ev4. -/
import Derived.Test.YtiegdojchlmfnaaGreatDoorEv3
namespace Ev
open Go
open Go.RowKit
noncomputable section

theorem Opd.at {P : Program} {θ : Theta} {env : List AV} {o : Oper} {a : Act} (h : Opd P θ env o a) {x : Operand} (hx : x ∈ o.op.operands) : VR θ (ev P env x) (a.eval x) := h x hx

/-! ### Picking, tests -/

def pickK (c a b : AV) (k : AV → Bool) : Bool := c.ckBool fun t => Bool.rec (k b) (k a) t

theorem pure_pick {P : Program} {env : List AV} {o : Oper} {c a b : Operand} {k : AV → Bool} (ho : o.op = .pick c a b)
    (h : pickK (ev P env c) (ev P env a) (ev P env b) k = true) : ∃ v, k v = true ∧ PureSpec P env o v := by
  obtain ⟨t, hc, h⟩ := ckBool_iff.1 h
  cases t with
  | true =>
    refine ⟨_, h, fun θ ac w hO => ⟨ac.eval a, ?_, hO.at (by simp [ho, Op.operands])⟩⟩
    have hv := hO.at (x := c) (by simp [ho, Op.operands])
    rw [hc] at hv
    simp [execOp, ho, hv.bool, asBool]
  | false =>
    refine ⟨_, h, fun θ ac w hO => ⟨ac.eval b, ?_, hO.at (by simp [ho, Op.operands])⟩⟩
    have hv := hO.at (x := c) (by simp [ho, Op.operands])
    rw [hc] at hv
    simp [execOp, ho, hv.bool, asBool]

theorem pure_move {P : Program} {env : List AV} {o : Oper} {x : Operand} {k : AV → Bool} (ho : o.op = .move x ∨ o.op = .assign x)
    (h : k (ev P env x) = true) : ∃ v, k v = true ∧ PureSpec P env o v :=
  ⟨_, h, fun θ ac w hO => ⟨ac.eval x, by rcases ho with ho | ho <;> simp [execOp, ho], hO.at (by rcases ho with ho | ho <;> simp [ho, Op.operands])⟩⟩

/-! ### Addresses -/

def faddrK (off : Nat) (x : AV) (k : AV → Bool) : Bool := x.ckPtr fun b o => forceN (Nat.add o off) fun q => k (.ptr b q)

/-- The place of a field that is not of size zero. -/
def fieldOff (P : Program) (s f : Nat) : Option Nat :=
  match P.underlying s with
  | some (.struct fields) => match fields[f]? with
    | some fl => if P.cellsOf fl.type = 0 then none else some fl.offset
    | none => none
  | _ => none

theorem info_of_cells {P : Program} {t : TypeId} (h : P.cellsOf t ≠ 0) : ∃ i, P.info? t = some i ∧ i.size = P.cellsOf t := by
  unfold Program.cellsOf at h ⊢
  cases hi : P.info? t with
  | none => simp [hi] at h
  | some i => exact ⟨i, rfl, by simp⟩

theorem run_fieldAt {P : Program} {s f off : Nat} (hf : fieldOff P s f = some off) (l : Loc) (o : Nat) (w : World) :
    (Instr.fieldAt s (.pointer (some (l.addr o))) f).run P w = .ok (.pointer (some (l.addr (o + off)))) w := by
  unfold fieldOff at hf
  split at hf
  · rename_i fields hu
    split at hf
    · rename_i fl hfl
      split at hf
      · cases hf
      · rename_i hz
        injection hf with hf
        obtain ⟨i, hi, hsz⟩ := info_of_cells hz
        simp [Instr.fieldAt, run_underlying hu, hfl, Instr.sureAddr, fieldPlace, run_sizeOf w hi, hz, Loc.addr_add, hf]
    · cases hf
  · cases hf

def fieldAddrE (P : Program) (s : Nat) (x : AV) (f : Nat) (k : AV → Bool) : Bool :=
  match fieldOff P s f with
  | some off => faddrK off x k
  | none => false

theorem pure_fieldAddr {P : Program} {env : List AV} {o : Oper} {s f : Nat} {x : Operand} {k : AV → Bool} (ho : o.op = .fieldAddr s x f)
    (h : fieldAddrE P s (ev P env x) f k = true) : ∃ v, k v = true ∧ PureSpec P env o v := by
  unfold fieldAddrE at h
  split at h
  · rename_i off hoff
    obtain ⟨b, q, hx, h⟩ := ckPtr_iff.1 h
    rw [forceN_eq] at h
    refine ⟨_, h, fun θ ac w hO => ?_⟩
    have hv := hO.at (x := x) (by simp [ho, Op.operands])
    rw [hx] at hv
    obtain ⟨l, hl, hv⟩ := hv.ptr
    refine ⟨.pointer (some (l.addr (q + off))), ?_, .inr (by simp [Ev.conc, hl])⟩
    simp [execOp, ho, hv, run_fieldAt hoff]
  · cases h

def natOf (z : Int) (f : Nat → Bool) : Bool := Int.rec (motive := fun _ => Bool) (fun n => f n) (fun _ => false) z
theorem natOf_iff {z : Int} {f : Nat → Bool} : natOf z f = true ↔ ∃ n : Nat, z = n ∧ f n = true := by
  cases z with
  | ofNat n =>
    refine ⟨fun h => ⟨n, rfl, h⟩, fun ⟨m, e, h⟩ => ?_⟩
    have e' : n = m := Int.ofNat.inj e
    subst e'
    exact h
  | negSucc n => exact ⟨fun h => (Bool.false_ne_true h).elim, fun ⟨m, e, _⟩ => by cases e⟩

def ifB (c : Bool) (a : Bool) : Bool := Bool.rec false a c
theorem ifB_iff {c a : Bool} : ifB c a = true ↔ c = true ∧ a = true := by cases c <;> simp [ifB]

def iaddrK (es : Nat) (a i : AV) (k : AV → Bool) : Bool :=
  a.ckSl false (fun b o len _ => i.ckInt fun _ z => natOf z fun n => ifB (Nat.blt n len) (forceN (Nat.add o (Nat.mul n es)) fun q => k (.ptr b q))) (fun _ _ _ _ => false)
def iaddrAK (len es : Nat) (a i : AV) (k : AV → Bool) : Bool :=
  a.ckPtr fun b o => i.ckInt fun _ z => natOf z fun n => ifB (Nat.blt n len) (forceN (Nat.add o (Nat.mul n es)) fun q => k (.ptr b q))

def indexAddrE (P : Program) (t : Nat) (x i : AV) (k : AV → Bool) : Bool :=
  match P.underlying t with
  | some (.slice e) => if P.cellsOf e = 0 then false else iaddrK (P.cellsOf e) x i k
  | some (.array n e) => if P.cellsOf e = 0 then false else iaddrAK n (P.cellsOf e) x i k
  | _ => false

theorem pure_indexAddr {P : Program} {env : List AV} {o : Oper} {t : Nat} {x i : Operand} {k : AV → Bool} (ho : o.op = .indexAddr t x i)
    (h : indexAddrE P t (ev P env x) (ev P env i) k = true) : ∃ v, k v = true ∧ PureSpec P env o v := by
  unfold indexAddrE at h
  split at h
  · rename_i e hu
    split at h
    · cases h
    · rename_i hz
      obtain ⟨inf, hi, hsz⟩ := info_of_cells hz
      rcases ckSl_iff.1 h with ⟨_, h⟩ | ⟨b, q, len, cap, hx, h⟩ | ⟨_, _, _, _, _, h⟩
      · cases h
      · obtain ⟨kd, z, hi', h⟩ := ckInt_iff.1 h
        obtain ⟨n, rfl, h⟩ := natOf_iff.1 h
        obtain ⟨hlt, h⟩ := ifB_iff.1 h
        rw [forceN_eq] at h
        refine ⟨_, h, fun θ ac w hO => ?_⟩
        have hv := hO.at (x := x) (by simp [ho, Op.operands])
        have hn := hO.at (x := i) (by simp [ho, Op.operands])
        rw [hx] at hv; rw [hi'] at hn
        obtain ⟨l, hl, hv⟩ := hv.sl
        have hn := hn.int
        have hlt : n < len := by simpa [Nat.blt_eq] using hlt
        refine ⟨.pointer (some (l.addr (q + n * P.cellsOf e))), ?_, .inr (by simp [Ev.conc, hl])⟩
        have h1 : (0 : Int) ≤ (n : Int) ∧ (n : Int) < (len : Int) := by omega
        have h2 : ¬ len ≤ n := by omega
        simp [execOp, ho, hv, hn, Instr.indexAt, asIntOf, run_underlying hu, h1, h2, run_sizeOf w hi, Loc.addr_add]
      · cases h
  · rename_i len e hu
    split at h
    · cases h
    · rename_i hz
      obtain ⟨inf, hi, hsz⟩ := info_of_cells hz
      obtain ⟨b, q, hx, h⟩ := ckPtr_iff.1 h
      obtain ⟨kd, z, hi', h⟩ := ckInt_iff.1 h
      obtain ⟨n, rfl, h⟩ := natOf_iff.1 h
      obtain ⟨hlt, h⟩ := ifB_iff.1 h
      rw [forceN_eq] at h
      refine ⟨_, h, fun θ ac w hO => ?_⟩
      have hv := hO.at (x := x) (by simp [ho, Op.operands])
      have hn := hO.at (x := i) (by simp [ho, Op.operands])
      rw [hx] at hv; rw [hi'] at hn
      obtain ⟨l, hl, hv⟩ := hv.ptr
      have hn := hn.int
      have hlt : n < len := by simpa [Nat.blt_eq] using hlt
      refine ⟨.pointer (some (l.addr (q + n * P.cellsOf e))), ?_, .inr (by simp [Ev.conc, hl])⟩
      have h1 : (0 : Int) ≤ (n : Int) ∧ (n : Int) < (len : Int) := by omega
      have h2 : ¬ len ≤ n := by omega
      simp [execOp, ho, hv, hn, Instr.indexAt, Instr.sureAddr, asIntOf, run_underlying hu, h1, h2, run_sizeOf w hi, Loc.addr_add]
  · cases h

/-! ### Elements of values -/

def nthK (i : Nat) : List AV → (AV → Bool) → Bool :=
  Nat.rec (motive := fun _ => List AV → (AV → Bool) → Bool) (fun l k => List.rec (motive := fun _ => Bool) false (fun a _ _ => k a) l)
    (fun _ ih l k => List.rec (motive := fun _ => Bool) false (fun _ t _ => ih t k) l) i

theorem nthK_iff {k : AV → Bool} : ∀ {i : Nat} {l : List AV}, nthK i l k = true ↔ ∃ a, l[i]? = some a ∧ k a = true
  | 0, [] => by simp [nthK]
  | 0, a :: l => by
    show k a = true ↔ _
    simp
  | i + 1, [] => by simp [nthK]
  | i + 1, a :: l => by
    have h := nthK_iff (k := k) (i := i) (l := l)
    simp only [List.getElem?_cons_succ]
    exact h

/-- Is a type's value one of several cells? -/
def isAggT (P : Program) (t : Nat) : Option Bool :=
  match P.underlying t with
  | some (.struct _) | some (.array ..) => some true
  | some _ => some false
  | none => none

theorem run_isAggT {P : Program} {t : Nat} {b : Bool} (h : isAggT P t = some b) (w : World) : (isAgg t).run P w = .ok b w := by
  unfold isAggT at h
  unfold isAgg
  split at h
  · rename_i f hu; injection h with h; simp [run_underlying hu, h]
  · rename_i n e hu; injection h with h; simp [run_underlying hu, h]
  · rename_i d h1 h2 hu
    injection h with h
    simp only [Sem.run_bind, run_underlying hu, Result.andThen_ok]
    cases d <;> first | exact absurd hu (h1 _) | exact absurd hu (h2 _ _) | simp [h]
  · cases h

/-- A part of an aggregate. -/
def partE (P : Program) (t : Nat) (off : Nat) (l : List AV) (k : AV → Bool) : Bool :=
  match isAggT P t with
  | some true => if P.cellsOf t = 0 then false else ifB (Nat.ble (off + P.cellsOf t) l.length) (k (.agg ((l.drop off).take (P.cellsOf t))))
  | some false => nthK off l k
  | none => false

theorem concs_drop {θ : Theta} : ∀ {l : List AV} {vs : List Value} (n : Nat), concs θ l = some vs → concs θ (l.drop n) = some (vs.drop n)
  | l, vs, 0, h => by simpa using h
  | [], vs, n + 1, h => by simp [concs] at h; subst h; simp [concs]
  | a :: l, vs, n + 1, h => by
    obtain ⟨x, y, _, h2, rfl⟩ := concs_cons.1 h
    simpa using concs_drop n h2

theorem concs_take {θ : Theta} : ∀ {l : List AV} {vs : List Value} (n : Nat), concs θ l = some vs → concs θ (l.take n) = some (vs.take n)
  | l, vs, 0, h => by simp [concs]
  | [], vs, n + 1, h => by simp [concs] at h; subst h; simp [concs]
  | a :: l, vs, n + 1, h => by
    obtain ⟨x, y, h1, h2, rfl⟩ := concs_cons.1 h
    exact concs_cons.2 ⟨x, y.take n, h1, concs_take n h2, rfl⟩

theorem part_ok {P : Program} {t off : Nat} {l : List AV} {k : AV → Bool} (h : partE P t off l k = true) :
    ∃ v, k v = true ∧ ∀ (θ : Theta) (vs : List Value) (w : World), concs θ l = some vs → ∃ v', (part t vs.toArray off).run P w = .ok v' w ∧ Ev.conc θ v = some v' := by
  unfold partE at h
  split at h
  · rename_i ha
    split at h
    · cases h
    · rename_i hz
      obtain ⟨hle, h⟩ := ifB_iff.1 h
      have hle : off + P.cellsOf t ≤ l.length := by simpa using hle
      obtain ⟨i, hi, _⟩ := info_of_cells hz
      refine ⟨_, h, fun θ vs w hc => ⟨.agg ((vs.drop off).take (P.cellsOf t)).toArray, ?_, ?_⟩⟩
      · simp only [part, Sem.run_bind, run_isAggT ha, Result.andThen_ok, if_true, run_sizeOf w hi, Sem.run_pure]
        congr 2
        apply Array.ext'
        simp
      · simp [Ev.conc, concs_take _ (concs_drop _ hc)]
  · rename_i ha
    obtain ⟨a, h1, h2⟩ := nthK_iff.1 h
    refine ⟨a, h2, fun θ vs w hc => ?_⟩
    obtain ⟨v, hv, hc⟩ := concs_getElem hc h1
    refine ⟨v, ?_, hc⟩
    simp [part, run_isAggT ha, hv]
  · cases h

end
end Ev
