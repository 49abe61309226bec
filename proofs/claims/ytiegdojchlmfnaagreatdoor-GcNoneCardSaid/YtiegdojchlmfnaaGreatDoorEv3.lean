/- A part of the proof that GcNone returns true: text Ev3. -/
import Derived.Test.YtiegdojchlmfnaaGreatDoorEv2
import Derived.Laws.StructEq
import Derived.Laws.MakeOwn
import Derived.Deep.AppendSrc
import Derived.ChangeKeysEq
import Derived.Laws.Entries
namespace Ev
open Go
open Go.RowKit

/-! Constants and operands. -/

/-- A function that is no loop's. -/
def fnOk : Fn → Bool
  | .yield _ => false
  | _ => true

theorem fnC_ok {θ : Theta} {f : Fn} (h : fnOk f = true) : fnC θ f = some f := by cases f <;> first | rfl | cases h

def absS : Value → AV
  | .bool b => .bool b
  | .int k n => .int k n
  | .string s => .str s.size (codeOf s.data.toList)
  | .pointer none => .nilp
  | .slice none 0 0 => .nils
  | .map none => .nilm
  | .nilFunc => .nilf
  | .nilIface => .nili
  | .func f a b => if fnOk f && (a.isEmpty && b.isEmpty) then .fn f [] [] else .bad
  | _ => .bad

def AV.isOk : AV → Bool
  | .bad => false
  | _ => true

def absV : Value → AV
  | .agg cs => let l := cs.toList.map absS; if l.all AV.isOk then .agg l else .bad
  | .tuple cs => let l := cs.toList.map absS; if l.all AV.isOk then .tup l else .bad
  | .iface t v => let a := absS v; if a.isOk then .iface t a else .bad
  | v => absS v

theorem strOf_codeOf (s : ByteArray) : strOf s.size (codeOf s.data.toList) = s := by
  obtain ⟨⟨l⟩⟩ := s
  show strOf l.length (codeOf l) = _
  simp [strOf, bytesOf_codeOf]

theorem absS_ok (θ : Theta) (v : Value) : VR θ (absS v) v := by
  cases v with
  | bool b => exact .inr (by simp [absS, conc])
  | int k n => exact .inr (by simp [absS, conc])
  | string s => exact .inr (by simp only [absS, conc]; rw [strOf_codeOf])
  | pointer a => cases a with
    | none => exact .inr (by simp [absS, conc])
    | some a => exact .inl rfl
  | slice a n c =>
    cases a with
    | none =>
      cases n with
      | zero => cases c with
        | zero => exact .inr (by simp [absS, conc])
        | succ c => exact .inl rfl
      | succ n => exact .inl rfl
    | some a => exact .inl rfl
  | map r => cases r with
    | none => exact .inr (by simp [absS, conc])
    | some r => exact .inl rfl
  | func f a b =>
    simp only [absS]
    split
    · rename_i h
      simp only [Bool.and_eq_true, Array.isEmpty_iff] at h
      obtain ⟨hf, rfl, rfl⟩ := h
      exact .inr (by simp [conc, concs, fnC_ok hf])
    · exact .inl rfl
  | nilFunc => exact .inr (by simp [absS, conc])
  | nilIface => exact .inr (by simp [absS, conc])
  | _ => exact .inl rfl

theorem isOk_ne {a : AV} (h : a.isOk = true) : a ≠ .bad := by cases a <;> simp [AV.isOk] at h ⊢

theorem VR.conc {θ : Theta} {a : AV} {v : Value} (h : VR θ a v) (ha : a ≠ .bad) : conc θ a = some v := h.resolve_left ha

theorem absS_list (θ : Theta) : ∀ (l : List Value), (l.map absS).all AV.isOk = true → concs θ (l.map absS) = some l
  | [], _ => rfl
  | v :: l, h => by
    simp only [List.map_cons, List.all_cons, Bool.and_eq_true] at h
    exact concs_cons.2 ⟨v, l, (absS_ok θ v).conc (isOk_ne h.1), absS_list θ l h.2, rfl⟩

theorem absV_ok (θ : Theta) (v : Value) : VR θ (absV v) v := by
  cases v with
  | agg cs =>
    simp only [absV]
    split
    · rename_i h
      exact .inr (by simp [Ev.conc, absS_list θ cs.toList h])
    · exact .inl rfl
  | tuple cs =>
    simp only [absV]
    split
    · rename_i h
      exact .inr (by simp [Ev.conc, absS_list θ cs.toList h])
    · exact .inl rfl
  | iface t v =>
    simp only [absV]
    split
    · rename_i h
      exact .inr (by simp [Ev.conc, (absS_ok θ v).conc (isOk_ne h)])
    · exact .inl rfl
  | bool b => exact absS_ok θ (.bool b)
  | int k n => exact absS_ok θ (.int k n)
  | float k b => exact absS_ok θ (.float k b)
  | complex k a b => exact absS_ok θ (.complex k a b)
  | string s => exact absS_ok θ (.string s)
  | pointer a => exact absS_ok θ (.pointer a)
  | slice a n c => exact absS_ok θ (.slice a n c)
  | map r => exact absS_ok θ (.map r)
  | chan r => exact absS_ok θ (.chan r)
  | func f x y => exact absS_ok θ (.func f x y)
  | nilFunc => exact absS_ok θ .nilFunc
  | nilIface => exact absS_ok θ .nilIface

/-- The package-level variables have the numbers that they have. -/
def GlobOK (P : Program) (θ : Theta) : Prop := ∀ g, g < P.globals.size → ∃ sz, θ.blk g = some ⟨g, 0, sz⟩

theorem GlobOK.le {P : Program} {θ θ' : Theta} (h : GlobOK P θ) (k : θ.le θ') : GlobOK P θ' := fun g hg => let ⟨sz, e⟩ := h g hg; ⟨sz, k.1 _ _ e⟩

def ev (P : Program) (env : List AV) : Operand → AV
  | .tmp t => env.getD t .bad
  | .const v => absV v
  | .global g => if g < P.globals.size then .ptr g 0 else .bad
  | .func f => .fn (.func f) [] []

theorem ev_ok {P : Program} {θ : Theta} {env : List AV} {a : Act} (hg : GlobOK P θ) (x : Operand) (h : ∀ t, x = .tmp t → VR θ (env.getD t .bad) (a.tmps.getD t undef)) : VR θ (ev P env x) (a.eval x) := by
  cases x with
  | tmp t => exact h t rfl
  | const v => exact absV_ok θ v
  | global g =>
    simp only [ev]
    split
    · rename_i hlt
      obtain ⟨sz, e⟩ := hg g hlt
      exact .inr (by simp [Ev.conc, e, Loc.addr, Act.eval])
    · exact .inl rfl
  | func f => exact .inr (by simp [Ev.conc, concs, ev, Act.eval, fnC])

/-- All operands of an operation are what is known of them. -/
def Opd (P : Program) (θ : Theta) (env : List AV) (o : Oper) (a : Act) : Prop := ∀ x ∈ o.op.operands, VR θ (ev P env x) (a.eval x)

/-- What an operation that looks at nothing in memory comes to. -/
def PureSpec (P : Program) (env : List AV) (o : Oper) (v : AV) : Prop :=
  ∀ (θ : Theta) (a : Act) (w : World), Opd P θ env o a → ∃ v', (execOp a.eval o).run P w = .ok (.value v') w ∧ VR θ v v'

theorem VR.bool {θ : Theta} {b : Bool} {v : Value} (h : VR θ (.bool b) v) : v = .bool b := by
  have := h.conc (by simp); simp [Ev.conc] at this; exact this.symm
theorem VR.int {θ : Theta} {k : IntKind} {n : Int} {v : Value} (h : VR θ (.int k n) v) : v = .int k n := by
  have := h.conc (by simp); simp [Ev.conc] at this; exact this.symm
theorem VR.str {θ : Theta} {n c : Nat} {v : Value} (h : VR θ (.str n c) v) : v = .string (strOf n c) := by
  have := h.conc (by simp); simp [Ev.conc] at this; exact this.symm
theorem VR.nilp {θ : Theta} {v : Value} (h : VR θ .nilp v) : v = .pointer none := by
  have := h.conc (by simp); simp [Ev.conc] at this; exact this.symm
theorem VR.ptr {θ : Theta} {b o : Nat} {v : Value} (h : VR θ (.ptr b o) v) : ∃ l, θ.blk b = some l ∧ v = .pointer (some (l.addr o)) := by
  have := h.conc (by simp); simp only [Ev.conc, Option.map_eq_some_iff] at this
  obtain ⟨l, hl, e⟩ := this; exact ⟨l, hl, e.symm⟩
theorem VR.nils {θ : Theta} {v : Value} (h : VR θ .nils v) : v = .slice none 0 0 := by
  have := h.conc (by simp); simp [Ev.conc] at this; exact this.symm
theorem VR.nilm {θ : Theta} {v : Value} (h : VR θ .nilm v) : v = .map none := by
  have := h.conc (by simp); simp [Ev.conc] at this; exact this.symm
theorem VR.map {θ : Theta} {b : Nat} {v : Value} (h : VR θ (.map b) v) : ∃ l, θ.blk b = some l ∧ v = .map (some l.blk) := by
  have := h.conc (by simp); simp only [Ev.conc, Option.map_eq_some_iff] at this
  obtain ⟨l, hl, e⟩ := this; exact ⟨l, hl, e.symm⟩
/-- How far a slice reaches. -/
def Cap.of (c : Cap) (l : Loc) (o : Nat) : Nat := match c with | .known n => n | .opn es => (l.size - o) / es
def Cap.ok (c : Cap) (l : Loc) (o len : Nat) : Prop := match c with | .known _ => True | .opn es => len ≤ (l.size - o) / es
theorem VR.sl' {θ : Theta} {b o len : Nat} {cap : Cap} {v : Value} (h : VR θ (.sl b o len cap) v) : ∃ l, θ.blk b = some l ∧ v = .slice (some (l.addr o)) len (cap.of l o) ∧ cap.ok l o len := by
  have := h.conc (by simp)
  cases cap with
  | known c =>
    simp only [Ev.conc, Option.map_eq_some_iff] at this
    obtain ⟨l, hl, e⟩ := this
    exact ⟨l, hl, e.symm, trivial⟩
  | opn es =>
    simp only [Ev.conc, Option.bind_eq_some_iff] at this
    obtain ⟨l, hl, e⟩ := this
    split at e
    · rename_i hle
      injection e with e
      exact ⟨l, hl, e.symm, hle⟩
    · cases e
theorem VR.sl {θ : Theta} {b o len : Nat} {cap : Cap} {v : Value} (h : VR θ (.sl b o len cap) v) : ∃ l, θ.blk b = some l ∧ v = .slice (some (l.addr o)) len (cap.of l o) :=
  let ⟨l, hl, e, _⟩ := h.sl'; ⟨l, hl, e⟩
theorem conc_sl {θ : Theta} {b o len : Nat} {cap : Cap} {l : Loc} (h : θ.blk b = some l) (hc : cap.ok l o len) : conc θ (.sl b o len cap) = some (.slice (some (l.addr o)) len (cap.of l o)) := by
  cases cap with
  | known c => simp [Ev.conc, h, Cap.of]
  | opn es => simp only [Ev.conc, h, Option.bind_some, Cap.of]; exact if_pos hc
theorem conc_slk {θ : Theta} {b o len c : Nat} {l : Loc} (h : θ.blk b = some l) : conc θ (.sl b o len (.known c)) = some (.slice (some (l.addr o)) len c) := by simp [Ev.conc, h]
theorem VR.agg {θ : Theta} {l : List AV} {v : Value} (h : VR θ (.agg l) v) : ∃ vs, concs θ l = some vs ∧ v = .agg vs.toArray := by
  have := h.conc (by simp); simp only [Ev.conc, Option.map_eq_some_iff] at this
  obtain ⟨l, hl, e⟩ := this; exact ⟨l, hl, e.symm⟩
theorem VR.tup {θ : Theta} {l : List AV} {v : Value} (h : VR θ (.tup l) v) : ∃ vs, concs θ l = some vs ∧ v = .tuple vs.toArray := by
  have := h.conc (by simp); simp only [Ev.conc, Option.map_eq_some_iff] at this
  obtain ⟨l, hl, e⟩ := this; exact ⟨l, hl, e.symm⟩
theorem VR.fn {θ : Theta} {f : Fn} {x y : List AV} {v : Value} (h : VR θ (.fn f x y) v) : ∃ xs ys g, fnC θ f = some g ∧ concs θ x = some xs ∧ concs θ y = some ys ∧ v = .func g xs.toArray ys.toArray := by
  have := h.conc (by simp); simp only [Ev.conc] at this
  cases h1 : concs θ x with
  | none => simp [h1] at this
  | some xs =>
    cases h2 : concs θ y with
    | none => simp [h1, h2] at this
    | some ys =>
      simp only [h1, h2, Option.map_eq_some_iff] at this
      obtain ⟨g, hg, this⟩ := this
      exact ⟨xs, ys, g, hg, rfl, rfl, this.symm⟩

theorem Loc.addr_add (l : Loc) (o n : Nat) : (l.addr o).add n = l.addr (o + n) := by
  unfold Addr.add Loc.addr
  split
  · rename_i h; subst h; rfl
  · simp [Nat.add_assoc]

end Ev
