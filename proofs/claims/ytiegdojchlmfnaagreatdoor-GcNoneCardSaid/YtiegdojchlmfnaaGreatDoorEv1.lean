/- A part of the proof that GcNone returns true: text Ev1. -/
import Derived.RangeFuncLeaves
import Derived.OrdersIn
import Derived.Below
namespace Ev
open Go
open Go.RowKit

/-! Names that are to be opened ahead of others: what is wrapped in 'hi' counts as built on much. -/

def tall0 : Nat := 0
def tall1 : Nat := tall0
def tall2 : Nat := tall1
def tall3 : Nat := tall2
def tall4 : Nat := tall3
def tall5 : Nat := tall4
def tall6 : Nat := tall5
def tall7 : Nat := tall6
def tall8 : Nat := tall7
def tall9 : Nat := tall8
def tall10 : Nat := tall9
def tall11 : Nat := tall10
def tall12 : Nat := tall11
def tall13 : Nat := tall12
def tall14 : Nat := tall13
def tall15 : Nat := tall14
def tall16 : Nat := tall15
def tall17 : Nat := tall16
def tall18 : Nat := tall17
def tall19 : Nat := tall18
def tall20 : Nat := tall19
def tall21 : Nat := tall20
def tall22 : Nat := tall21
def tall23 : Nat := tall22
def tall24 : Nat := tall23
def tall25 : Nat := tall24
def tall26 : Nat := tall25
def tall27 : Nat := tall26
def tall28 : Nat := tall27
def tall29 : Nat := tall28
def tall30 : Nat := tall29
def tall31 : Nat := tall30
def tall32 : Nat := tall31
def tall33 : Nat := tall32
def tall34 : Nat := tall33
def tall35 : Nat := tall34
def tall36 : Nat := tall35
def tall37 : Nat := tall36
def tall38 : Nat := tall37
def tall39 : Nat := tall38
def tall40 : Nat := tall39

def hi {α : Type} (x : α) : α := (fun (_ : Nat) => x) tall40
theorem hi_eq {α : Type} (x : α) : hi x = x := rfl

/-- A choice that the program's text decides. -/
noncomputable def iteS (c : Prop) [Decidable c] (a b : Bool) : Bool := (fun (_ : Nat) => Bool.rec b a (decide c)) tall40
theorem iteS_eq (c : Prop) [Decidable c] (a b : Bool) : iteS c a b = if c then a else b := by
  unfold iteS
  by_cases h : c <;> simp [h]

/-- A choice by a small number. -/
noncomputable def sel (n : Nat) (a0 a1 a2 a3 a4 : Bool) : Bool :=
  (fun (_ : Nat) => Nat.rec (motive := fun _ => Bool) a0 (fun n _ => Nat.rec (motive := fun _ => Bool) a1 (fun n _ => Nat.rec (motive := fun _ => Bool) a2 (fun n _ => Nat.rec (motive := fun _ => Bool) a3 (fun _ _ => a4) n) n) n) n) tall40
theorem sel_eq (n : Nat) (a0 a1 a2 a3 a4 : Bool) : sel n a0 a1 a2 a3 a4 = match n with | 0 => a0 | 1 => a1 | 2 => a2 | 3 => a3 | _ => a4 := by
  match n with
  | 0 => rfl
  | 1 => rfl
  | 2 => rfl
  | 3 => rfl
  | _ + 4 => rfl

noncomputable def sel3 (n : Nat) (a0 a1 a2 a3 : Bool) : Bool :=
  (fun (_ : Nat) => Nat.rec (motive := fun _ => Bool) a0 (fun n _ => Nat.rec (motive := fun _ => Bool) a1 (fun n _ => Nat.rec (motive := fun _ => Bool) a2 (fun _ _ => a3) n) n) n) tall40
theorem sel3_eq (n : Nat) (a0 a1 a2 a3 : Bool) : sel3 n a0 a1 a2 a3 = match n with | 0 => a0 | 1 => a1 | 2 => a2 | _ => a3 := by
  match n with
  | 0 => rfl
  | 1 => rfl
  | 2 => rfl
  | _ + 3 => rfl
theorem sel3_eq' (n : Nat) (a1 a2 a3 : Bool) : sel3 n a3 a1 a2 a3 = match n with | 1 => a1 | 2 => a2 | _ => a3 := by
  match n with
  | 0 => rfl
  | 1 => rfl
  | 2 => rfl
  | _ + 3 => rfl

/-! Trees of eight branches. -/

structure R (α : Type) where
  a0 : α
  a1 : α
  a2 : α
  a3 : α
  a4 : α
  a5 : α
  a6 : α
  a7 : α

noncomputable def pick8 {α : Type} (x0 x1 x2 x3 x4 x5 x6 x7 : α) (i : Nat) : α :=
  Nat.rec (motive := fun _ => α) x0 (fun i _ => Nat.rec (motive := fun _ => α) x1 (fun i _ => Nat.rec (motive := fun _ => α) x2 (fun i _ =>
    Nat.rec (motive := fun _ => α) x3 (fun i _ => Nat.rec (motive := fun _ => α) x4 (fun i _ => Nat.rec (motive := fun _ => α) x5 (fun i _ =>
    Nat.rec (motive := fun _ => α) x6 (fun _ _ => x7) i) i) i) i) i) i) i

theorem cases8 {p : Nat → Prop} (h0 : p 0) (h1 : p 1) (h2 : p 2) (h3 : p 3) (h4 : p 4) (h5 : p 5) (h6 : p 6) (h7 : p 7) (i : Nat) (hi : i < 8) : p i := by
  have : i = 0 ∨ i = 1 ∨ i = 2 ∨ i = 3 ∨ i = 4 ∨ i = 5 ∨ i = 6 ∨ i = 7 := by omega
  rcases this with rfl | rfl | rfl | rfl | rfl | rfl | rfl | rfl <;> assumption

noncomputable def R.get {α : Type} (r : R α) (i : Nat) : α := pick8 r.a0 r.a1 r.a2 r.a3 r.a4 r.a5 r.a6 r.a7 i

def R.up0 {α β : Type} (_ a1 a2 a3 a4 a5 a6 a7 x : α) (k : R α → β) : β := k (R.mk x a1 a2 a3 a4 a5 a6 a7)
def R.up1 {α β : Type} (a0 _ a2 a3 a4 a5 a6 a7 x : α) (k : R α → β) : β := k (R.mk a0 x a2 a3 a4 a5 a6 a7)
def R.up2 {α β : Type} (a0 a1 _ a3 a4 a5 a6 a7 x : α) (k : R α → β) : β := k (R.mk a0 a1 x a3 a4 a5 a6 a7)
def R.up3 {α β : Type} (a0 a1 a2 _ a4 a5 a6 a7 x : α) (k : R α → β) : β := k (R.mk a0 a1 a2 x a4 a5 a6 a7)
def R.up4 {α β : Type} (a0 a1 a2 a3 _ a5 a6 a7 x : α) (k : R α → β) : β := k (R.mk a0 a1 a2 a3 x a5 a6 a7)
def R.up5 {α β : Type} (a0 a1 a2 a3 a4 _ a6 a7 x : α) (k : R α → β) : β := k (R.mk a0 a1 a2 a3 a4 x a6 a7)
def R.up6 {α β : Type} (a0 a1 a2 a3 a4 a5 _ a7 x : α) (k : R α → β) : β := k (R.mk a0 a1 a2 a3 a4 a5 x a7)
def R.up7 {α β : Type} (a0 a1 a2 a3 a4 a5 a6 _ x : α) (k : R α → β) : β := k (R.mk a0 a1 a2 a3 a4 a5 a6 x)

noncomputable def R.setK {α β : Type} (r : R α) (i : Nat) (x : α) (k : R α → β) : β :=
  R.rec (motive := fun _ => β) (fun a0 a1 a2 a3 a4 a5 a6 a7 => pick8 R.up0 R.up1 R.up2 R.up3 R.up4 R.up5 R.up6 R.up7 i a0 a1 a2 a3 a4 a5 a6 a7 x k) r

noncomputable def R.put {α : Type} (r : R α) (i : Nat) (x : α) : R α := R.setK r i x id

theorem R.setK_eq {α β : Type} (r : R α) (i : Nat) (x : α) (k : R α → β) (hi : i < 8) : R.setK r i x k = k (R.put r i x) := by
  revert i
  cases r
  exact cases8 rfl rfl rfl rfl rfl rfl rfl rfl

theorem R.get_put {α : Type} (r : R α) (x : α) (i : Nat) (hi : i < 8) : ∀ j, j < 8 → (R.put r i x).get j = if i = j then x else r.get j := by
  revert i
  cases r
  refine cases8 ?_ ?_ ?_ ?_ ?_ ?_ ?_ ?_ <;> exact cases8 rfl rfl rfl rfl rfl rfl rfl rfl

/-- A tree of so many levels. -/
def Tr (α : Type) : Nat → Type
  | 0 => α
  | d + 1 => R (Tr α d)

def Tr.rep {α : Type} (x : α) : (d : Nat) → Tr α d
  | 0 => x
  | d + 1 => let y := Tr.rep x d; R.mk y y y y y y y y

noncomputable def Tr.get {α : Type} : (d : Nat) → Tr α d → Nat → α
  | 0, x, _ => x
  | d + 1, x, i => Tr.get d (R.get x (i / 8 ^ d % 8)) i

noncomputable def Tr.put {α : Type} : (d : Nat) → Tr α d → Nat → α → Tr α d
  | 0, _, _, v => v
  | d + 1, x, i, v => R.put x (i / 8 ^ d % 8) (Tr.put d (R.get x (i / 8 ^ d % 8)) i v)

theorem Tr.get_put {α : Type} (v : α) : ∀ (d : Nat) (x : Tr α d) (i j : Nat), i < 8 ^ d → j < 8 ^ d → Tr.get d (Tr.put d x i v) j = if i = j then v else Tr.get d x j := by
  intro d
  suffices h : ∀ (x : Tr α d) (i j : Nat), Tr.get d (Tr.put d x i v) j = if i % 8 ^ d = j % 8 ^ d then v else Tr.get d x j by
    intro x i j hi hj
    rw [h, Nat.mod_eq_of_lt hi, Nat.mod_eq_of_lt hj]
  induction d with
  | zero => intro x i j; simp [Tr.get, Tr.put, Nat.mod_one]
  | succ d ih =>
    intro (x : R (Tr α d)) i j
    have h8 := R.get_put (α := Tr α d) x (Tr.put d (R.get x (i / 8 ^ d % 8)) i v) (i / 8 ^ d % 8) (Nat.mod_lt _ (by omega)) (j / 8 ^ d % 8) (Nat.mod_lt _ (by omega))
    show Tr.get d (R.get (R.put x (i / 8 ^ d % 8) (Tr.put d (R.get x (i / 8 ^ d % 8)) i v)) (j / 8 ^ d % 8)) j = if i % 8 ^ (d + 1) = j % 8 ^ (d + 1) then v else Tr.get d (R.get x (j / 8 ^ d % 8)) j
    rw [h8]
    have key : (i % 8 ^ (d + 1) = j % 8 ^ (d + 1)) ↔ (i / 8 ^ d % 8 = j / 8 ^ d % 8 ∧ i % 8 ^ d = j % 8 ^ d) := by
      have hi := Nat.mod_mul (x := i) (a := 8 ^ d) (b := 8)
      have hj := Nat.mod_mul (x := j) (a := 8 ^ d) (b := 8)
      have hp : 0 < 8 ^ d := Nat.pow_pos (by omega)
      have h1 := Nat.mod_lt i hp
      have h2 := Nat.mod_lt j hp
      rw [Nat.pow_succ, hi, hj]
      constructor
      · intro h
        have e1 : (i % 8 ^ d + 8 ^ d * (i / 8 ^ d % 8)) % 8 ^ d = (j % 8 ^ d + 8 ^ d * (j / 8 ^ d % 8)) % 8 ^ d := by rw [h]
        rw [Nat.add_mul_mod_self_left, Nat.add_mul_mod_self_left, Nat.mod_mod, Nat.mod_mod] at e1
        rw [e1] at h
        exact ⟨Nat.eq_of_mul_eq_mul_left hp (Nat.add_left_cancel h), e1⟩
      · rintro ⟨h, h'⟩; rw [h, h']
    by_cases hd : i / 8 ^ d % 8 = j / 8 ^ d % 8
    · rw [if_pos hd, ih]
      by_cases hm : i % 8 ^ d = j % 8 ^ d
      · rw [if_pos hm, if_pos (key.2 ⟨hd, hm⟩)]
      · rw [if_neg hm, if_neg (fun h => hm (key.1 h).2), hd]
    · rw [if_neg hd, if_neg (fun h => hd (key.1 h).1)]

theorem Tr.get_rep {α : Type} (x : α) : ∀ (d i : Nat), Tr.get d (Tr.rep x d) i = x := by
  intro d
  induction d with
  | zero => intro i; rfl
  | succ d ih =>
    intro i
    simp only [Tr.get, Tr.rep]
    have : ∀ j, j < 8 → R.get (R.mk (Tr.rep x d) (Tr.rep x d) (Tr.rep x d) (Tr.rep x d) (Tr.rep x d) (Tr.rep x d) (Tr.rep x d) (Tr.rep x d)) j = Tr.rep x d :=
      cases8 rfl rfl rfl rfl rfl rfl rfl rfl
    rw [this _ (Nat.mod_lt _ (by omega)), ih]


/-! Values whose blocks go by numbers of our own. -/

inductive Cap where
  | known (n : Nat)
  | opn (es : Nat)

inductive AV where
  | bad
  | bool (b : Bool)
  | int (k : IntKind) (n : Int)
  | str (len code : Nat)
  | nilp
  | ptr (b o : Nat)
  | nils
  | sl (b o len : Nat) (cap : Cap)
  | sle (b o lo es : Nat)
  | nilm
  | map (b : Nat)
  | fn (f : Fn) (first cap : List AV)
  | nilf
  | iface (t : Nat) (v : AV)
  | nili
  | agg (l : List AV)
  | tup (l : List AV)
  | opq (i : Nat)

/-- The bytes of a string: how many, and as a number, the first one the least. -/
def bytesOf : Nat → Nat → List UInt8
  | 0, _ => []
  | n + 1, c => UInt8.ofNat (c % 256) :: bytesOf n (c / 256)

def codeOf : List UInt8 → Nat
  | [] => 0
  | c :: l => c.toNat + 256 * codeOf l

def strOf (n c : Nat) : ByteArray := ⟨(bytesOf n c).toArray⟩

theorem bytesOf_length : ∀ n c, (bytesOf n c).length = n
  | 0, _ => rfl
  | n + 1, c => by simp [bytesOf, bytesOf_length n]

theorem bytesOf_codeOf : ∀ l : List UInt8, bytesOf l.length (codeOf l) = l
  | [] => rfl
  | c :: l => by
    have hc : c.toNat < 256 := c.toNat_lt
    have h1 : (c.toNat + 256 * codeOf l) % 256 = c.toNat := by omega
    have h2 : (c.toNat + 256 * codeOf l) / 256 = codeOf l := by omega
    simp [bytesOf, codeOf, h1, h2, bytesOf_codeOf l]

/-- Where a block lies: the real block, from which cell on, and how many cells from there. -/
structure Loc where
  blk : Nat
  off : Nat
  size : Nat

structure Theta where
  blk : Nat → Option Loc
  val : Nat → Option Value

def Theta.le (a b : Theta) : Prop := (∀ i l, a.blk i = some l → b.blk i = some l) ∧ (∀ i v, a.val i = some v → b.val i = some v)

theorem Theta.le_refl (a : Theta) : a.le a := ⟨fun _ _ h => h, fun _ _ h => h⟩
theorem Theta.le_trans {a b c : Theta} (h : a.le b) (k : b.le c) : a.le c := ⟨fun i l x => k.1 i l (h.1 i l x), fun i l x => k.2 i l (h.2 i l x)⟩

def Loc.addr (l : Loc) (o : Nat) : Addr := ⟨l.blk, l.off + o, none⟩

/-- A function whose loop's block goes by a number of our own. -/
def fnC (θ : Theta) : Fn → Option Fn
  | .yield b => (θ.blk b).map fun l => .yield l.blk
  | f => some f

theorem fnC_le {θ θ' : Theta} (h : θ.le θ') {f g : Fn} (e : fnC θ f = some g) : fnC θ' f = some g := by
  cases f with
  | yield b =>
    simp only [fnC, Option.map_eq_some_iff] at e ⊢
    obtain ⟨l, hl, e⟩ := e
    exact ⟨l, h.1 _ _ hl, e⟩
  | _ => exact e

mutual
def conc (θ : Theta) : AV → Option Value
  | .bad => none
  | .bool b => some (.bool b)
  | .int k n => some (.int k n)
  | .str n c => some (.string (strOf n c))
  | .nilp => some (.pointer none)
  | .ptr b o => (θ.blk b).map fun l => .pointer (some (l.addr o))
  | .nils => some (.slice none 0 0)
  | .sl b o len (.known c) => (θ.blk b).map fun l => .slice (some (l.addr o)) len c
  | .sl b o len (.opn es) => (θ.blk b).bind fun l => if len ≤ (l.size - o) / es then some (.slice (some (l.addr o)) len ((l.size - o) / es)) else none
  | .sle b o lo es => (θ.blk b).map fun l => if (l.size - o) / es = lo then .slice (some (l.addr o)) 0 0 else .slice (some (l.addr (o + lo * es))) 0 ((l.size - o) / es - lo)
  | .nilm => some (.map none)
  | .map b => (θ.blk b).map fun l => .map (some l.blk)
  | .fn f first cap => match concs θ first, concs θ cap with
    | some x, some y => (fnC θ f).map fun g => .func g x.toArray y.toArray
    | _, _ => none
  | .nilf => some .nilFunc
  | .iface t v => (conc θ v).map (.iface t)
  | .nili => some .nilIface
  | .agg l => (concs θ l).map fun x => .agg x.toArray
  | .tup l => (concs θ l).map fun x => .tuple x.toArray
  | .opq i => θ.val i
def concs (θ : Theta) : List AV → Option (List Value)
  | [] => some []
  | a :: l => match conc θ a, concs θ l with
    | some x, some y => some (x :: y)
    | _, _ => none
end

mutual
theorem conc_le {θ θ' : Theta} (h : θ.le θ') : ∀ (a : AV) (v : Value), conc θ a = some v → conc θ' a = some v
  | .bad, v, e => by simp [conc] at e
  | .bool b, v, e => by simpa [conc] using e
  | .int k n, v, e => by simpa [conc] using e
  | .str n c, v, e => by simpa [conc] using e
  | .nilp, v, e => by simpa [conc] using e
  | .ptr b o, v, e => by
    simp only [conc, Option.map_eq_some_iff] at e ⊢
    obtain ⟨l, hl, e⟩ := e; exact ⟨l, h.1 _ _ hl, e⟩
  | .nils, v, e => by simpa [conc] using e
  | .sl b o len (.known c), v, e => by
    simp only [conc, Option.map_eq_some_iff] at e ⊢
    obtain ⟨l, hl, e⟩ := e; exact ⟨l, h.1 _ _ hl, e⟩
  | .sl b o len (.opn es), v, e => by
    simp only [conc, Option.bind_eq_some_iff] at e ⊢
    obtain ⟨l, hl, e⟩ := e; exact ⟨l, h.1 _ _ hl, e⟩
  | .sle b o lo es, v, e => by
    simp only [conc, Option.map_eq_some_iff] at e ⊢
    obtain ⟨l, hl, e⟩ := e; exact ⟨l, h.1 _ _ hl, e⟩
  | .nilm, v, e => by simpa [conc] using e
  | .map b, v, e => by
    simp only [conc, Option.map_eq_some_iff] at e ⊢
    obtain ⟨l, hl, e⟩ := e; exact ⟨l, h.1 _ _ hl, e⟩
  | .fn f first cap, v, e => by
    simp only [conc] at e ⊢
    cases h1 : concs θ first with
    | none => simp [h1] at e
    | some x =>
      cases h2 : concs θ cap with
      | none => simp [h1, h2] at e
      | some y =>
        rw [concs_le h first x h1, concs_le h cap y h2]
        simp only [h1, h2, Option.map_eq_some_iff] at e ⊢
        obtain ⟨g, hg, e⟩ := e
        exact ⟨g, fnC_le h hg, e⟩
  | .nilf, v, e => by simpa [conc] using e
  | .iface t x, v, e => by
    simp only [conc, Option.map_eq_some_iff] at e ⊢
    obtain ⟨y, hy, e⟩ := e; exact ⟨y, conc_le h x y hy, e⟩
  | .nili, v, e => by simpa [conc] using e
  | .agg l, v, e => by
    simp only [conc, Option.map_eq_some_iff] at e ⊢
    obtain ⟨y, hy, e⟩ := e; exact ⟨y, concs_le h l y hy, e⟩
  | .tup l, v, e => by
    simp only [conc, Option.map_eq_some_iff] at e ⊢
    obtain ⟨y, hy, e⟩ := e; exact ⟨y, concs_le h l y hy, e⟩
  | .opq i, v, e => h.2 _ _ e
theorem concs_le {θ θ' : Theta} (h : θ.le θ') : ∀ (l : List AV) (vs : List Value), concs θ l = some vs → concs θ' l = some vs
  | [], vs, e => by simpa [concs] using e
  | a :: l, vs, e => by
    simp only [concs] at e ⊢
    cases h1 : conc θ a with
    | none => simp [h1] at e
    | some x =>
      cases h2 : concs θ l with
      | none => simp [h1, h2] at e
      | some y =>
        rw [conc_le h a x h1, concs_le h l y h2]
        simpa [h1, h2] using e
end

theorem concs_cons {θ : Theta} {a : AV} {l : List AV} {vs : List Value} : concs θ (a :: l) = some vs ↔ ∃ x y, conc θ a = some x ∧ concs θ l = some y ∧ vs = x :: y := by
  simp only [concs]
  cases h1 : conc θ a with
  | none => simp
  | some x =>
    cases h2 : concs θ l with
    | none => simp
    | some y => simp [eq_comm]

theorem concs_length {θ : Theta} : ∀ {l : List AV} {vs : List Value}, concs θ l = some vs → vs.length = l.length
  | [], vs, e => by simp [concs] at e; simp [← e]
  | a :: l, vs, e => by
    obtain ⟨x, y, _, h2, rfl⟩ := concs_cons.1 e
    simp [concs_length h2]

theorem concs_append {θ : Theta} : ∀ {l m : List AV} {vs us : List Value}, concs θ l = some vs → concs θ m = some us → concs θ (l ++ m) = some (vs ++ us)
  | [], m, vs, us, e, e' => by simp [concs] at e; subst e; exact e'
  | a :: l, m, vs, us, e, e' => by
    obtain ⟨x, y, h1, h2, rfl⟩ := concs_cons.1 e
    exact concs_cons.2 ⟨x, y ++ us, h1, concs_append h2 e', rfl⟩

theorem concs_getElem {θ : Theta} : ∀ {l : List AV} {vs : List Value}, concs θ l = some vs → ∀ {i : Nat} {a : AV}, l[i]? = some a → ∃ v, vs[i]? = some v ∧ conc θ a = some v
  | [], vs, e, i, a, h => by simp at h
  | b :: l, vs, e, i, a, h => by
    obtain ⟨x, y, h1, h2, rfl⟩ := concs_cons.1 e
    cases i with
    | zero => simp at h; subst h; exact ⟨x, rfl, h1⟩
    | succ i => simpa using concs_getElem h2 (by simpa using h)

theorem concs_of {θ : Theta} : ∀ {l : List AV} {vs : List Value}, vs.length = l.length → (∀ i (h : i < l.length) (h' : i < vs.length), conc θ l[i] = some vs[i]) → concs θ l = some vs
  | [], [], _, _ => rfl
  | a :: l, x :: vs, hl, h => concs_cons.2 ⟨x, vs, h 0 (by simp) (by simp), concs_of (by simpa using hl) (fun i h1 h2 => h (i + 1) (by simpa using h1) (by simpa using h2)), rfl⟩

/-! Blocks. -/

inductive Cells where
  | c1 (x : Tr AV 1)
  | c2 (x : Tr AV 2)
  | c3 (x : Tr AV 3)
  | c4 (x : Tr AV 4)

def Cells.dep : Cells → Nat
  | .c1 _ => 8
  | .c2 _ => 64
  | .c3 _ => 512
  | .c4 _ => 4096

noncomputable def Cells.get (c : Cells) (i : Nat) : AV :=
  match c with
  | .c1 x => Tr.get 1 x i
  | .c2 x => Tr.get 2 x i
  | .c3 x => Tr.get 3 x i
  | .c4 x => Tr.get 4 x i

inductive Ents where
  | nil
  | cons (k v : AV) (born : Nat) (l : Ents)

inductive Blk where
  | dead
  | cells (ro exact : Bool) (len : Nat) (c : Cells)
  | map (es : Ents) (clock : Nat)
  | miter (m since : Nat) (seen : List Nat) (last : Nat)
  | loop (fn : Nat) (pth : List Nat) (env : List AV)
  | defd

abbrev Heap := Tr Blk 5


noncomputable def Heap.at (h : Heap) (i : Nat) : Blk := Tr.get 5 h i

inductive EntsRel (θ : Theta) : Ents → List MapEntry → Prop where
  | nil : EntsRel θ .nil []
  | cons {k v : AV} {n : Nat} {l : Ents} {k' v' : Value} {l' : List MapEntry} (hk : conc θ k = some k') (hv : conc θ v = some v') (hl : EntsRel θ l l') :
      EntsRel θ (.cons k v n l) (⟨k', v', n⟩ :: l')

theorem EntsRel.le {θ θ' : Theta} (h : θ.le θ') {es : Ents} {l : List MapEntry} (r : EntsRel θ es l) : EntsRel θ' es l := by
  induction r with
  | nil => exact .nil
  | cons hk hv _ ih => exact .cons (conc_le h _ _ hk) (conc_le h _ _ hv) ih

/-- Where the code of a range over a function lies: in which function, and on which way down. -/
def stepDown : Code → Nat → Option Code
  | .seq a _, 0 => some a
  | .seq _ b, 1 => some b
  | .cond _ a _, 0 => some a
  | .cond _ _ b, 1 => some b
  | .block _ a, 0 => some a
  | .loop a, 0 => some a
  | .scope a, 0 => some a
  | .rangeFunc _ _ a _, 0 => some a
  | .rangeFunc _ _ _ b, 1 => some b
  | _, _ => none

def codeAt (c : Code) : List Nat → Option Code
  | [] => some c
  | i :: p => (stepDown c i).bind fun d => codeAt d p

def siteAt (P : Program) (f : Nat) (p : List Nat) : Option (Array Tmp × Code × Code) :=
  match ((P.funcs[f]?).bind (·.body)).bind (codeAt · p) with
  | some (.rangeFunc _ ps a b) => some (ps, a, b)
  | _ => none

def VR (θ : Theta) (a : AV) (v : Value) : Prop := a = .bad ∨ conc θ a = some v

theorem VR.le {θ θ' : Theta} (h : θ.le θ') {a : AV} {v : Value} (r : VR θ a v) : VR θ' a v := r.imp id (conc_le h _ _)
theorem VR.bad (θ : Theta) (v : Value) : VR θ .bad v := .inl rfl

/-- The temporaries of a frame, as far as they are known. -/
structure TRel (θ : Theta) (env : Nat → AV) (tmps : Array Value) : Prop where
  val : ∀ t, VR θ (env t) (tmps.getD t undef)

def envOf (env : List AV) : Nat → AV := fun t => env.getD t .bad

/-- What is known of one block of memory, at its place. B: from which block on all is the call's own. -/
def BRel (P : Program) (θ : Theta) (B : Nat) (w : World) (l : Loc) : Blk → Prop
  | .dead => True
  | .cells ro ex len c => len ≤ c.dep ∧ (∀ i, i < len → ∃ v, conc θ (c.get i) = some v ∧ w.cell? (l.addr i) = some v) ∧
    (ro = false → B ≤ l.blk ∧ ∃ cs e, w.heap[l.blk]? = some (.cells cs e (0, 0)) ∧ cs.size = l.off + l.size ∧ len ≤ l.size ∧ (ex = true → len = l.size))
  | .map es clk => B ≤ l.blk ∧ ∃ es', w.heap[l.blk]? = some (.map es' clk) ∧ EntsRel θ es es'.toList
  | .miter m since seen last => B ≤ l.blk ∧ l.off = 0 ∧ ∃ lm, θ.blk m = some lm ∧ w.heap[l.blk]? = some (.mapIter (some lm.blk) since seen.toArray last)
  | .loop f p env => B ≤ l.blk ∧ ∃ tmps ps as bd dd fn, siteAt P f p = some (ps, as, bd) ∧
    w.heap[l.blk]? = some (.loop { state := .ready, pending := none, fn, tmps, params := ps, assign := as, body := bd, defers := dd }) ∧ TRel θ (envOf env) tmps ∧ env.length ≤ tmps.size
  | .defd => B ≤ l.blk ∧ w.heap[l.blk]? = some (.deferred (some []))

structure HRel (P : Program) (θ : Theta) (h : Nat → Blk) (B : Nat) (w : World) : Prop where
  blk : ∀ b, h b ≠ .dead → ∃ l, θ.blk b = some l ∧ l.blk < w.heap.size ∧ BRel P θ B w l (h b)
  inj : ∀ b b' l l', h b ≠ .dead → h b' ≠ .dead → θ.blk b = some l → θ.blk b' = some l' → l.blk = l'.blk → b = b'

theorem HRel.at {P : Program} {θ : Theta} {h : Nat → Blk} {B : Nat} {w : World} (r : HRel P θ h B w) {b : Nat} {l : Loc} (hl : θ.blk b = some l) : BRel P θ B w l (h b) := by
  by_cases hb : h b = .dead
  · rw [hb]; trivial
  · obtain ⟨l', hl', _, hr⟩ := r.blk b hb
    rw [hl] at hl'; injection hl' with hl'; subst hl'
    exact hr

/-- From a number on nothing has been given a place. -/
def Fresh (θ : Theta) (n : Nat) : Prop := ∀ b, n ≤ b → θ.blk b = none

/-- May the call write to it? -/
def Blk.own : Blk → Bool
  | .dead => false
  | .cells ro _ _ _ => !ro
  | _ => true

/-- Of what lay there only what is known and the call's own may have turned. -/
structure Frm (θ : Theta) (h : Nat → Blk) (w w' : World) : Prop where
  os : w'.os = w.os
  tape : w'.tape = w.tape
  output : w'.output = w.output
  size : w.heap.size ≤ w'.heap.size
  block : ∀ r, r < w.heap.size → (∀ b l, (h b).own = true → θ.blk b = some l → l.blk ≠ r) → w'.heap[r]? = w.heap[r]?

theorem Frm.refl (θ : Theta) (h : Nat → Blk) (w : World) : Frm θ h w w := ⟨rfl, rfl, rfl, Nat.le_refl _, fun _ _ _ => rfl⟩

/-- What is known after a step may be known of blocks that were known before, and of new ones. -/
structure Grows (θ : Theta) (h h' : Nat → Blk) (θ' : Theta) (w : World) : Prop where
  own : ∀ b l, (h' b).own = true → θ'.blk b = some l → (∃ b0 l0, (h b0).own = true ∧ θ.blk b0 = some l0 ∧ l0.blk = l.blk) ∨ w.heap.size ≤ l.blk
  any : ∀ b l, h' b ≠ .dead → θ'.blk b = some l → (∃ b0 l0, h b0 ≠ .dead ∧ θ.blk b0 = some l0 ∧ l0.blk = l.blk) ∨ w.heap.size ≤ l.blk

theorem Frm.trans {θ θ' : Theta} {h h' : Nat → Blk} {w w1 w2 : World} (a : Frm θ h w w1) (b : Frm θ' h' w1 w2) (g : Grows θ h h' θ' w) : Frm θ h w w2 := by
  refine ⟨b.os.trans a.os, b.tape.trans a.tape, b.output.trans a.output, Nat.le_trans a.size b.size, fun r hr hn => ?_⟩
  rw [b.block r (Nat.lt_of_lt_of_le hr a.size) ?_, a.block r hr hn]
  intro x l hx hl e
  rcases g.own x l hx hl with ⟨b0, l0, h0, t0, e0⟩ | h1
  · exact hn b0 l0 h0 t0 (e0.trans e)
  · omega

theorem Grows.refl (θ : Theta) (h : Nat → Blk) (w : World) : Grows θ h h θ w := ⟨fun b l hb hl => .inl ⟨b, l, hb, hl, rfl⟩, fun b l hb hl => .inl ⟨b, l, hb, hl, rfl⟩⟩

theorem Grows.trans {θ θ1 θ2 : Theta} {h h1 h2 : Nat → Blk} {w w1 : World} (hw : w.heap.size ≤ w1.heap.size) (a : Grows θ h h1 θ1 w) (b : Grows θ1 h1 h2 θ2 w1) : Grows θ h h2 θ2 w := by
  refine ⟨fun x l hx hl => ?_, fun x l hx hl => ?_⟩
  · rcases b.own x l hx hl with ⟨b0, l0, h0, t0, e0⟩ | h'
    · rcases a.own b0 l0 h0 t0 with ⟨b1, l1, h1', t1, e1⟩ | h'
      · exact .inl ⟨b1, l1, h1', t1, e1.trans e0⟩
      · exact .inr (by omega)
    · exact .inr (by omega)
  · rcases b.any x l hx hl with ⟨b0, l0, h0, t0, e0⟩ | h'
    · rcases a.any b0 l0 h0 t0 with ⟨b1, l1, h1', t1, e1⟩ | h'
      · exact .inl ⟨b1, l1, h1', t1, e1.trans e0⟩
      · exact .inr (by omega)
    · exact .inr (by omega)

theorem HRel.weaken {P : Program} {θ : Theta} {h h' : Nat → Blk} {B : Nat} {w : World} (r : HRel P θ h B w) (hh : ∀ b, h' b ≠ .dead → h' b = h b) : HRel P θ h' B w where
  blk b hb := by
    have e := hh b hb
    rw [e] at hb ⊢
    exact r.blk b hb
  inj b b' l l' h1 h2 := r.inj b b' l l' (by rw [← hh b h1]; exact h1) (by rw [← hh b' h2]; exact h2)

theorem HRel.theta {P : Program} {θ : Theta} {h : Nat → Blk} {B : Nat} {w : World} (r : HRel P θ h B w) (b : Nat) (hb : h b ≠ .dead) : ∃ l, θ.blk b = some l :=
  let ⟨l, hl, _⟩ := r.blk b hb; ⟨l, hl⟩

theorem lt_of_heap {w : World} {i : Nat} {o : Obj} (e : w.heap[i]? = some o) : i < w.heap.size := by
  rcases Nat.lt_or_ge i w.heap.size with h | h
  · exact h
  · simp [Array.getElem?_eq_none h] at e

/-- An own block lies in memory, from B on. -/
theorem BRel.own_lt {P : Program} {θ : Theta} {B : Nat} {w : World} {l : Loc} {b : Blk} (r : BRel P θ B w l b) (hb : b.own = true) : B ≤ l.blk ∧ l.blk < w.heap.size := by
  cases b with
  | dead => simp [Blk.own] at hb
  | cells ro ex len c => obtain ⟨hB, cs, el, hw, _⟩ := r.2.2 (by simpa [Blk.own] using hb); exact ⟨hB, lt_of_heap hw⟩
  | map es clk => obtain ⟨hB, es', hw, _⟩ := r; exact ⟨hB, lt_of_heap hw⟩
  | miter m s se la => obtain ⟨hB, _, _, _, hw⟩ := r; exact ⟨hB, lt_of_heap hw⟩
  | loop f p env => obtain ⟨hB, _, _, _, _, _, _, _, hw, _⟩ := r; exact ⟨hB, lt_of_heap hw⟩
  | defd => exact ⟨r.1, lt_of_heap r.2⟩

theorem HRel.own_lt {P : Program} {θ : Theta} {h : Nat → Blk} {B : Nat} {w : World} (r : HRel P θ h B w) {b : Nat} {l : Loc} (hb : (h b).own = true) (hl : θ.blk b = some l) : B ≤ l.blk ∧ l.blk < w.heap.size :=
  (r.at hl).own_lt hb

theorem TRel.le {θ θ' : Theta} (h : θ.le θ') {env : Nat → AV} {tmps : Array Value} (r : TRel θ env tmps) : TRel θ' env tmps := ⟨fun t => (r.val t).le h⟩

theorem cell?_lt {w : World} {a : Addr} {v : Value} (h : w.cell? a = some v) : a.block < w.heap.size := by
  rcases Nat.lt_or_ge a.block w.heap.size with h' | h'
  · exact h'
  · simp [World.cell?, Array.getElem?_eq_none h'] at h

theorem BRel.keep {P : Program} {θ θ' : Theta} {B : Nat} {w w' : World} {l : Loc} {b : Blk} (r : BRel P θ B w l b) (hθ : θ.le θ') (hw : w'.heap[l.blk]? = w.heap[l.blk]?) : BRel P θ' B w' l b := by
  cases b with
  | dead => trivial
  | cells ro ex len c =>
    refine ⟨r.1, fun i hi => ?_, fun hr => ?_⟩
    · obtain ⟨v, hv, hc⟩ := r.2.1 i hi
      exact ⟨v, conc_le hθ _ _ hv, by unfold World.cell? at hc ⊢; unfold Loc.addr at hc ⊢; simp only at hc ⊢; rw [hw]; exact hc⟩
    · obtain ⟨hB, cs, el, hc, rest⟩ := r.2.2 hr
      exact ⟨hB, cs, el, hw.trans hc, rest⟩
  | map es clk => obtain ⟨hB, es', he, hr⟩ := r; exact ⟨hB, es', hw.trans he, hr.le hθ⟩
  | miter m s se la => obtain ⟨hB, h0, lm, hm, he⟩ := r; exact ⟨hB, h0, lm, hθ.1 _ _ hm, hw.trans he⟩
  | loop f p env => obtain ⟨hB, tmps, ps, as, bd, dd, fn, hs, he, ht, hle⟩ := r; exact ⟨hB, tmps, ps, as, bd, dd, fn, hs, hw.trans he, ht.le hθ, hle⟩
  | defd => exact ⟨r.1, hw.trans r.2⟩

/-- The world goes on and turns nothing that is known; θ grows: all that was known stays known. -/
theorem HRel.keep {P : Program} {θ θ' : Theta} {h : Nat → Blk} {B : Nat} {w w' : World} (r : HRel P θ h B w) (hθ : θ.le θ')
    (hs : w.heap.size ≤ w'.heap.size) (hw : ∀ b l, h b ≠ .dead → θ.blk b = some l → w'.heap[l.blk]? = w.heap[l.blk]?) : HRel P θ' h B w' where
  blk b hb := by
    obtain ⟨l, hl, hlt, hr⟩ := r.blk b hb
    exact ⟨l, hθ.1 _ _ hl, Nat.lt_of_lt_of_le hlt hs, hr.keep hθ (hw b l hb hl)⟩
  inj b b' l l' h1 h2 e1 e2 e3 := by
    obtain ⟨m, hm⟩ := r.theta b h1
    obtain ⟨m', hm'⟩ := r.theta b' h2
    have x1 := hθ.1 _ _ hm
    have x2 := hθ.1 _ _ hm'
    rw [e1] at x1; injection x1 with x1; subst x1
    rw [e2] at x2; injection x2 with x2; subst x2
    exact r.inj b b' l l' h1 h2 hm hm' e3

/-- One block more, or one that is known otherwise. -/
def setB (h : Nat → Blk) (i : Nat) (b : Blk) : Nat → Blk := fun j => if i = j then b else h j

def Theta.add (θ : Theta) (i : Nat) (l : Loc) : Theta := { θ with blk := fun j => if i = j then some l else θ.blk j }

theorem Theta.le_add {θ : Theta} {i : Nat} (hi : θ.blk i = none) (l : Loc) : θ.le (θ.add i l) := by
  refine ⟨fun j m hj => ?_, fun _ _ h => h⟩
  show (if i = j then some l else θ.blk j) = some m
  by_cases e : i = j
  · subst e; rw [hi] at hj; cases hj
  · rw [if_neg e]; exact hj

theorem Theta.add_self (θ : Theta) (i : Nat) (l : Loc) : (θ.add i l).blk i = some l := by simp [Theta.add]

/-- Known blocks lie in memory. -/
theorem HRel.lt {P : Program} {θ : Theta} {h : Nat → Blk} {B : Nat} {w : World} (r : HRel P θ h B w) {b : Nat} {l : Loc} (hb : h b ≠ .dead) (hl : θ.blk b = some l) : l.blk < w.heap.size := by
  obtain ⟨l', hl', hlt, _⟩ := r.blk b hb
  rw [hl] at hl'; injection hl' with hl'; subst hl'
  exact hlt

theorem HRel.dead_of_none {P : Program} {θ : Theta} {h : Nat → Blk} {B : Nat} {w : World} (r : HRel P θ h B w) {b : Nat} (hl : θ.blk b = none) : h b = .dead := by
  by_cases hb : h b = .dead
  · exact hb
  · obtain ⟨l, hl', _⟩ := r.blk b hb
    rw [hl] at hl'; cases hl'

theorem Fresh.add {θ : Theta} {n n' i : Nat} {l : Loc} (h : Fresh θ n) (hn : n ≤ n') (hi : i < n') : Fresh (θ.add i l) n' := by
  intro b hb
  show (if i = b then some l else θ.blk b) = none
  rw [if_neg (by omega), h b (by omega)]

theorem heap_alloc_ne (w : World) (o : Obj) {k : Nat} (h : k ≠ w.heap.size) : (w.alloc o).heap[k]? = w.heap[k]? := by
  show (w.heap.push o)[k]? = _
  rw [Array.getElem?_push, if_neg h]

theorem heap_alloc_self (w : World) (o : Obj) : (w.alloc o).heap[w.heap.size]? = some o := by
  show (w.heap.push o)[w.heap.size]? = _
  simp

theorem heap_alloc_size (w : World) (o : Obj) : (w.alloc o).heap.size = w.heap.size + 1 := by
  show (w.heap.push o).size = _
  simp

/-- A new block. -/
theorem HRel.alloc {P : Program} {θ : Theta} {h : Nat → Blk} {B : Nat} {w : World} (r : HRel P θ h B w) {i : Nat} (hi : θ.blk i = none) (o : Obj) (b : Blk) (sz : Nat)
    (hb : BRel P (θ.add i ⟨w.heap.size, 0, sz⟩) B (w.alloc o) ⟨w.heap.size, 0, sz⟩ b) : HRel P (θ.add i ⟨w.heap.size, 0, sz⟩) (setB h i b) B (w.alloc o) := by
  have hθ := Theta.le_add hi ⟨w.heap.size, 0, sz⟩
  have k := r.keep (w' := w.alloc o) hθ (by rw [heap_alloc_size]; omega) (fun x l hx hl => heap_alloc_ne _ _ (by have := r.lt hx hl; omega))
  have hd := r.dead_of_none hi
  refine ⟨fun x hx => ?_, fun x y l l' hx hy e1 e2 e3 => ?_⟩
  · by_cases e : i = x
    · subst e
      refine ⟨⟨w.heap.size, 0, sz⟩, Theta.add_self _ _ _, by rw [heap_alloc_size]; simp, ?_⟩
      simp only [setB, if_true]
      exact hb
    · simp only [setB, if_neg e] at hx ⊢
      exact k.blk x hx
  · by_cases ex : i = x
    · by_cases ey : i = y
      · exact ex.symm.trans ey
      · subst ex
        simp only [setB, if_neg ey] at hy
        rw [Theta.add_self] at e1
        injection e1 with e1; subst e1
        have : l'.blk < w.heap.size := by
          obtain ⟨m, hm, hlt, _⟩ := r.blk y hy
          have := hθ.1 _ _ hm
          rw [e2] at this; injection this with this; subst this
          exact hlt
        simp at e3; omega
    · by_cases ey : i = y
      · subst ey
        simp only [setB, if_neg ex] at hx
        rw [Theta.add_self] at e2
        injection e2 with e2; subst e2
        have : l.blk < w.heap.size := by
          obtain ⟨m, hm, hlt, _⟩ := r.blk x hx
          have := hθ.1 _ _ hm
          rw [e1] at this; injection this with this; subst this
          exact hlt
        simp at e3; omega
      · simp only [setB, if_neg ex, if_neg ey] at hx hy
        exact k.inj x y l l' hx hy e1 e2 e3

theorem Frm.alloc (θ : Theta) (h : Nat → Blk) (w : World) (o : Obj) : Frm θ h w (w.alloc o) :=
  ⟨rfl, rfl, rfl, by rw [heap_alloc_size]; omega, fun r hr _ => heap_alloc_ne _ _ (by omega)⟩

theorem Grows.add {P : Program} {θ : Theta} {h : Nat → Blk} {B : Nat} {w : World} (_r : HRel P θ h B w) (i : Nat) (b : Blk) (sz : Nat) : Grows θ h (setB h i b) (θ.add i ⟨w.heap.size, 0, sz⟩) w := by
  refine ⟨fun x l hx hl => ?_, fun x l hx hl => ?_⟩
  all_goals
    by_cases e : i = x
    · subst e
      rw [Theta.add_self] at hl; injection hl with hl; subst hl
      exact .inr (Nat.le_refl _)
    · simp only [setB, if_neg e] at hx
      simp only [Theta.add, if_neg e] at hl
      exact .inl ⟨x, l, hx, hl, rfl⟩

/-- One own block that is known otherwise behind a step that turned its real block alone. -/
theorem HRel.turn {P : Program} {θ : Theta} {h : Nat → Blk} {B : Nat} {w w' : World} (r : HRel P θ h B w) {i : Nat} {l : Loc} (hi : h i ≠ .dead) (hl : θ.blk i = some l)
    (hs : w.heap.size ≤ w'.heap.size) (hw : ∀ k, k < w.heap.size → k ≠ l.blk → w'.heap[k]? = w.heap[k]?) (b : Blk) (hb : BRel P θ B w' l b) : HRel P θ (setB h i b) B w' := by
  refine ⟨fun x hx => ?_, fun x y m m' hx hy e1 e2 e3 => ?_⟩
  · by_cases e : i = x
    · subst e
      refine ⟨l, hl, Nat.lt_of_lt_of_le (r.lt hi hl) hs, ?_⟩
      simp only [setB, if_true]
      exact hb
    · simp only [setB, if_neg e] at hx ⊢
      obtain ⟨m, hm, hlt, hr⟩ := r.blk x hx
      exact ⟨m, hm, Nat.lt_of_lt_of_le hlt hs, hr.keep (Theta.le_refl _) (hw _ hlt (fun e' => e (r.inj i x l m hi hx hl hm e'.symm)))⟩
  · refine r.inj x y m m' ?_ ?_ e1 e2 e3
    · by_cases e : i = x
      · subst e; exact hi
      · simpa only [setB, if_neg e] using hx
    · by_cases e : i = y
      · subst e; exact hi
      · simpa only [setB, if_neg e] using hy

theorem Frm.turn {θ : Theta} {h : Nat → Blk} {w w' : World} {i : Nat} {l : Loc} (hi : (h i).own = true) (hl : θ.blk i = some l) (ho : w'.os = w.os) (ht : w'.tape = w.tape) (hout : w'.output = w.output)
    (hs : w.heap.size ≤ w'.heap.size) (hw : ∀ k, k < w.heap.size → k ≠ l.blk → w'.heap[k]? = w.heap[k]?) : Frm θ h w w' :=
  ⟨ho, ht, hout, hs, fun k hk hn => hw k hk (fun e => hn i l hi hl e.symm)⟩

theorem own_ne {b : Blk} (h : b.own = true) : b ≠ .dead := by intro e; rw [e] at h; simp [Blk.own] at h

theorem Grows.turn {θ : Theta} {h : Nat → Blk} (w : World) {i : Nat} {l : Loc} (hi : (h i).own = true) (hl : θ.blk i = some l) (b : Blk) : Grows θ h (setB h i b) θ w := by
  refine ⟨fun x m hx hm => ?_, fun x m hx hm => ?_⟩
  · by_cases e : i = x
    · subst e
      rw [hl] at hm; injection hm with hm; subst hm
      exact .inl ⟨i, l, hi, hl, rfl⟩
    · simp only [setB, if_neg e] at hx
      exact .inl ⟨x, m, hx, hm, rfl⟩
  · by_cases e : i = x
    · subst e
      rw [hl] at hm; injection hm with hm; subst hm
      exact .inl ⟨i, l, own_ne hi, hl, rfl⟩
    · simp only [setB, if_neg e] at hx
      exact .inl ⟨x, m, hx, hm, rfl⟩

theorem heap_setCell_ne (w : World) (a : Addr) (v : Value) {k : Nat} (h : k ≠ a.block) : (w.setCell a v).heap[k]? = w.heap[k]? := by
  simp only [World.setCell, Array.getElem?_modify]
  rw [if_neg (by omega)]

theorem heap_setCell_size (w : World) (a : Addr) (v : Value) : (w.setCell a v).heap.size = w.heap.size := by simp [World.setCell]

theorem heap_setCell_self (w : World) {b o : Nat} (v : Value) {cs : Array Value} {e : TypeId} {fr : Nat × Nat} (h : w.heap[b]? = some (.cells cs e fr)) :
    (w.setCell ⟨b, o, none⟩ v).heap[b]? = some (.cells (cs.setIfInBounds o v) e fr) := by
  simp [World.setCell, Array.getElem?_modify, h]

end Ev
