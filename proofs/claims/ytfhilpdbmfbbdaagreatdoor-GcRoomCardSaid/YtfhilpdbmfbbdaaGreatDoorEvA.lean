/- A part of the proof that GcRoom returns true: text EvA. -/
import Derived.RangeFuncLeaves
import Derived.OrdersIn
import Derived.Below
import Derived.IntWalk
import Derived.Laws.StructEq
import Derived.Laws.MakeOwn
import Derived.Deep.AppendSrc
import Derived.ChangeKeysEq
import Derived.Laws.Entries
namespace Ev
open Go
open Go.RowKit
def tall0 : Nat := 0
def tall1 : Nat := tall0
def tall2 : Nat := tall1
def tall3 : Nat := tall2
def tall4 : Nat := tall3
def tall5 : Nat := tall4
def tall6 : Nat := tall5
def tall7 : Nat := tall6
def tall8 : Nat := tall7
def tall9 : Nat := tall8
def tall10 : Nat := tall9
def tall11 : Nat := tall10
def tall12 : Nat := tall11
def tall13 : Nat := tall12
def tall14 : Nat := tall13
def tall15 : Nat := tall14
def tall16 : Nat := tall15
def tall17 : Nat := tall16
def tall18 : Nat := tall17
def tall19 : Nat := tall18
def tall20 : Nat := tall19
def tall21 : Nat := tall20
def tall22 : Nat := tall21
def tall23 : Nat := tall22
def tall24 : Nat := tall23
def tall25 : Nat := tall24
def tall26 : Nat := tall25
def tall27 : Nat := tall26
def tall28 : Nat := tall27
def tall29 : Nat := tall28
def tall30 : Nat := tall29
def tall31 : Nat := tall30
def tall32 : Nat := tall31
def tall33 : Nat := tall32
def tall34 : Nat := tall33
def tall35 : Nat := tall34
def tall36 : Nat := tall35
def tall37 : Nat := tall36
def tall38 : Nat := tall37
def tall39 : Nat := tall38
def tall40 : Nat := tall39
def hi {α : Type} (x : α) : α := (fun (_ : Nat) => x) tall40
theorem hi_eq {α : Type} (x : α) : hi x = x := rfl
noncomputable def iteS (c : Prop) [Decidable c] (a b : Bool) : Bool := (fun (_ : Nat) => Bool.rec b a (decide c)) tall40
theorem iteS_eq (c : Prop) [Decidable c] (a b : Bool) : iteS c a b = if c then a else b := by
  unfold iteS
  by_cases h : c <;> simp [h]
noncomputable def sel (n : Nat) (a0 a1 a2 a3 a4 : Bool) : Bool :=
  (fun (_ : Nat) => Nat.rec (motive := fun _ => Bool) a0 (fun n _ => Nat.rec (motive := fun _ => Bool) a1 (fun n _ => Nat.rec (motive := fun _ => Bool) a2 (fun n _ => Nat.rec (motive := fun _ => Bool) a3 (fun _ _ => a4) n) n) n) n) tall40
theorem sel_eq (n : Nat) (a0 a1 a2 a3 a4 : Bool) : sel n a0 a1 a2 a3 a4 = match n with | 0 => a0 | 1 => a1 | 2 => a2 | 3 => a3 | _ => a4 := by
  match n with
  | 0 => rfl
  | 1 => rfl
  | 2 => rfl
  | 3 => rfl
  | _ + 4 => rfl
noncomputable def sel3 (n : Nat) (a0 a1 a2 a3 : Bool) : Bool :=
  (fun (_ : Nat) => Nat.rec (motive := fun _ => Bool) a0 (fun n _ => Nat.rec (motive := fun _ => Bool) a1 (fun n _ => Nat.rec (motive := fun _ => Bool) a2 (fun _ _ => a3) n) n) n) tall40
theorem sel3_eq (n : Nat) (a0 a1 a2 a3 : Bool) : sel3 n a0 a1 a2 a3 = match n with | 0 => a0 | 1 => a1 | 2 => a2 | _ => a3 := by
  match n with
  | 0 => rfl
  | 1 => rfl
  | 2 => rfl
  | _ + 3 => rfl
theorem sel3_eq' (n : Nat) (a1 a2 a3 : Bool) : sel3 n a3 a1 a2 a3 = match n with | 1 => a1 | 2 => a2 | _ => a3 := by
  match n with
  | 0 => rfl
  | 1 => rfl
  | 2 => rfl
  | _ + 3 => rfl
structure R (α : Type) where
  a0 : α
  a1 : α
  a2 : α
  a3 : α
  a4 : α
  a5 : α
  a6 : α
  a7 : α
noncomputable def pick8 {α : Type} (x0 x1 x2 x3 x4 x5 x6 x7 : α) (i : Nat) : α :=
  Nat.rec (motive := fun _ => α) x0 (fun i _ => Nat.rec (motive := fun _ => α) x1 (fun i _ => Nat.rec (motive := fun _ => α) x2 (fun i _ =>
    Nat.rec (motive := fun _ => α) x3 (fun i _ => Nat.rec (motive := fun _ => α) x4 (fun i _ => Nat.rec (motive := fun _ => α) x5 (fun i _ =>
    Nat.rec (motive := fun _ => α) x6 (fun _ _ => x7) i) i) i) i) i) i) i
theorem cases8 {p : Nat → Prop} (h0 : p 0) (h1 : p 1) (h2 : p 2) (h3 : p 3) (h4 : p 4) (h5 : p 5) (h6 : p 6) (h7 : p 7) (i : Nat) (hi : i < 8) : p i := by
  have : i = 0 ∨ i = 1 ∨ i = 2 ∨ i = 3 ∨ i = 4 ∨ i = 5 ∨ i = 6 ∨ i = 7 := by omega
  rcases this with rfl | rfl | rfl | rfl | rfl | rfl | rfl | rfl <;> assumption
noncomputable def R.get {α : Type} (r : R α) (i : Nat) : α := pick8 r.a0 r.a1 r.a2 r.a3 r.a4 r.a5 r.a6 r.a7 i
def R.up0 {α β : Type} (_ a1 a2 a3 a4 a5 a6 a7 x : α) (k : R α → β) : β := k (R.mk x a1 a2 a3 a4 a5 a6 a7)
def R.up1 {α β : Type} (a0 _ a2 a3 a4 a5 a6 a7 x : α) (k : R α → β) : β := k (R.mk a0 x a2 a3 a4 a5 a6 a7)
def R.up2 {α β : Type} (a0 a1 _ a3 a4 a5 a6 a7 x : α) (k : R α → β) : β := k (R.mk a0 a1 x a3 a4 a5 a6 a7)
def R.up3 {α β : Type} (a0 a1 a2 _ a4 a5 a6 a7 x : α) (k : R α → β) : β := k (R.mk a0 a1 a2 x a4 a5 a6 a7)
def R.up4 {α β : Type} (a0 a1 a2 a3 _ a5 a6 a7 x : α) (k : R α → β) : β := k (R.mk a0 a1 a2 a3 x a5 a6 a7)
def R.up5 {α β : Type} (a0 a1 a2 a3 a4 _ a6 a7 x : α) (k : R α → β) : β := k (R.mk a0 a1 a2 a3 a4 x a6 a7)
def R.up6 {α β : Type} (a0 a1 a2 a3 a4 a5 _ a7 x : α) (k : R α → β) : β := k (R.mk a0 a1 a2 a3 a4 a5 x a7)
def R.up7 {α β : Type} (a0 a1 a2 a3 a4 a5 a6 _ x : α) (k : R α → β) : β := k (R.mk a0 a1 a2 a3 a4 a5 a6 x)
noncomputable def R.setK {α β : Type} (r : R α) (i : Nat) (x : α) (k : R α → β) : β :=
  R.rec (motive := fun _ => β) (fun a0 a1 a2 a3 a4 a5 a6 a7 => pick8 R.up0 R.up1 R.up2 R.up3 R.up4 R.up5 R.up6 R.up7 i a0 a1 a2 a3 a4 a5 a6 a7 x k) r
noncomputable def R.put {α : Type} (r : R α) (i : Nat) (x : α) : R α := R.setK r i x id
theorem R.setK_eq {α β : Type} (r : R α) (i : Nat) (x : α) (k : R α → β) (hi : i < 8) : R.setK r i x k = k (R.put r i x) := by
  revert i
  cases r
  exact cases8 rfl rfl rfl rfl rfl rfl rfl rfl
theorem R.get_put {α : Type} (r : R α) (x : α) (i : Nat) (hi : i < 8) : ∀ j, j < 8 → (R.put r i x).get j = if i = j then x else r.get j := by
  revert i
  cases r
  refine cases8 ?_ ?_ ?_ ?_ ?_ ?_ ?_ ?_ <;> exact cases8 rfl rfl rfl rfl rfl rfl rfl rfl
def Tr (α : Type) : Nat → Type
  | 0 => α
  | d + 1 => R (Tr α d)
def Tr.rep {α : Type} (x : α) : (d : Nat) → Tr α d
  | 0 => x
  | d + 1 => let y := Tr.rep x d; R.mk y y y y y y y y
noncomputable def Tr.get {α : Type} : (d : Nat) → Tr α d → Nat → α
  | 0, x, _ => x
  | d + 1, x, i => Tr.get d (R.get x (i / 8 ^ d % 8)) i
noncomputable def Tr.put {α : Type} : (d : Nat) → Tr α d → Nat → α → Tr α d
  | 0, _, _, v => v
  | d + 1, x, i, v => R.put x (i / 8 ^ d % 8) (Tr.put d (R.get x (i / 8 ^ d % 8)) i v)
theorem Tr.get_put {α : Type} (v : α) : ∀ (d : Nat) (x : Tr α d) (i j : Nat), i < 8 ^ d → j < 8 ^ d → Tr.get d (Tr.put d x i v) j = if i = j then v else Tr.get d x j := by
  intro d
  suffices h : ∀ (x : Tr α d) (i j : Nat), Tr.get d (Tr.put d x i v) j = if i % 8 ^ d = j % 8 ^ d then v else Tr.get d x j by
    intro x i j hi hj
    rw [h, Nat.mod_eq_of_lt hi, Nat.mod_eq_of_lt hj]
  induction d with
  | zero => intro x i j; simp [Tr.get, Tr.put, Nat.mod_one]
  | succ d ih =>
    intro (x : R (Tr α d)) i j
    have h8 := R.get_put (α := Tr α d) x (Tr.put d (R.get x (i / 8 ^ d % 8)) i v) (i / 8 ^ d % 8) (Nat.mod_lt _ (by omega)) (j / 8 ^ d % 8) (Nat.mod_lt _ (by omega))
    show Tr.get d (R.get (R.put x (i / 8 ^ d % 8) (Tr.put d (R.get x (i / 8 ^ d % 8)) i v)) (j / 8 ^ d % 8)) j = if i % 8 ^ (d + 1) = j % 8 ^ (d + 1) then v else Tr.get d (R.get x (j / 8 ^ d % 8)) j
    rw [h8]
    have key : (i % 8 ^ (d + 1) = j % 8 ^ (d + 1)) ↔ (i / 8 ^ d % 8 = j / 8 ^ d % 8 ∧ i % 8 ^ d = j % 8 ^ d) := by
      have hi := Nat.mod_mul (x := i) (a := 8 ^ d) (b := 8)
      have hj := Nat.mod_mul (x := j) (a := 8 ^ d) (b := 8)
      have hp : 0 < 8 ^ d := Nat.pow_pos (by omega)
      have h1 := Nat.mod_lt i hp
      have h2 := Nat.mod_lt j hp
      rw [Nat.pow_succ, hi, hj]
      constructor
      · intro h
        have e1 : (i % 8 ^ d + 8 ^ d * (i / 8 ^ d % 8)) % 8 ^ d = (j % 8 ^ d + 8 ^ d * (j / 8 ^ d % 8)) % 8 ^ d := by rw [h]
        rw [Nat.add_mul_mod_self_left, Nat.add_mul_mod_self_left, Nat.mod_mod, Nat.mod_mod] at e1
        rw [e1] at h
        exact ⟨Nat.eq_of_mul_eq_mul_left hp (Nat.add_left_cancel h), e1⟩
      · rintro ⟨h, h'⟩; rw [h, h']
    by_cases hd : i / 8 ^ d % 8 = j / 8 ^ d % 8
    · rw [if_pos hd, ih]
      by_cases hm : i % 8 ^ d = j % 8 ^ d
      · rw [if_pos hm, if_pos (key.2 ⟨hd, hm⟩)]
      · rw [if_neg hm, if_neg (fun h => hm (key.1 h).2), hd]
    · rw [if_neg hd, if_neg (fun h => hd (key.1 h).1)]
theorem Tr.get_rep {α : Type} (x : α) : ∀ (d i : Nat), Tr.get d (Tr.rep x d) i = x := by
  intro d
  induction d with
  | zero => intro i; rfl
  | succ d ih =>
    intro i
    simp only [Tr.get, Tr.rep]
    have : ∀ j, j < 8 → R.get (R.mk (Tr.rep x d) (Tr.rep x d) (Tr.rep x d) (Tr.rep x d) (Tr.rep x d) (Tr.rep x d) (Tr.rep x d) (Tr.rep x d)) j = Tr.rep x d :=
      cases8 rfl rfl rfl rfl rfl rfl rfl rfl
    rw [this _ (Nat.mod_lt _ (by omega)), ih]
inductive Cap where
  | known (n : Nat)
  | opn (es : Nat)
inductive SymT where
  | int (s lo hi : Nat) (c : Int)
  | spl (b s lo hi k es : Nat)
  | ptr (b s lo hi es o : Nat)
inductive AV where
  | bad
  | bool (b : Bool)
  | int (k : IntKind) (n : Int)
  | str (len code : Nat)
  | nilp
  | ptr (b o : Nat)
  | nils
  | sl (b o len : Nat) (cap : Cap)
  | sle (b o lo es : Nat)
  | nilm
  | map (b : Nat)
  | fn (f : Fn) (first cap : List AV)
  | nilf
  | iface (t : Nat) (v : AV)
  | nili
  | agg (l : List AV)
  | tup (l : List AV)
  | opq (i : Nat)
  | sym (t : SymT)
def bytesOf : Nat → Nat → List UInt8
  | 0, _ => []
  | n + 1, c => UInt8.ofNat (c % 256) :: bytesOf n (c / 256)
def codeOf : List UInt8 → Nat
  | [] => 0
  | c :: l => c.toNat + 256 * codeOf l
def strOf (n c : Nat) : ByteArray := ⟨(bytesOf n c).toArray⟩
theorem bytesOf_length : ∀ n c, (bytesOf n c).length = n
  | 0, _ => rfl
  | n + 1, c => by simp [bytesOf, bytesOf_length n]
theorem bytesOf_codeOf : ∀ l : List UInt8, bytesOf l.length (codeOf l) = l
  | [] => rfl
  | c :: l => by
    have hc : c.toNat < 256 := c.toNat_lt
    have h1 : (c.toNat + 256 * codeOf l) % 256 = c.toNat := by omega
    have h2 : (c.toNat + 256 * codeOf l) / 256 = codeOf l := by omega
    simp [bytesOf, codeOf, h1, h2, bytesOf_codeOf l]
structure Loc where
  blk : Nat
  off : Nat
  size : Nat
structure Theta where
  blk : Nat → Option Loc
  val : Nat → Option Value
def Theta.le (a b : Theta) : Prop := (∀ i l, a.blk i = some l → b.blk i = some l) ∧ (∀ i v, a.val i = some v → b.val i = some v)
theorem Theta.le_refl (a : Theta) : a.le a := ⟨fun _ _ h => h, fun _ _ h => h⟩
theorem Theta.le_trans {a b c : Theta} (h : a.le b) (k : b.le c) : a.le c := ⟨fun i l x => k.1 i l (h.1 i l x), fun i l x => k.2 i l (h.2 i l x)⟩
def Loc.addr (l : Loc) (o : Nat) : Addr := ⟨l.blk, l.off + o, none⟩
def fnC (θ : Theta) : Fn → Option Fn
  | .yield b => (θ.blk b).map fun l => .yield l.blk
  | f => some f
theorem fnC_le {θ θ' : Theta} (h : θ.le θ') {f g : Fn} (e : fnC θ f = some g) : fnC θ' f = some g := by
  cases f with
  | yield b =>
    simp only [fnC, Option.map_eq_some_iff] at e ⊢
    obtain ⟨l, hl, e⟩ := e
    exact ⟨l, h.1 _ _ hl, e⟩
  | _ => exact e
def opqOk (i : Nat) (v : Value) : Bool :=
  v.oneCell' && (Nat.blt i 1048576 || match v with | .slice (some _) len _ => Nat.beq len (i / 1048576 - 1) | _ => false)
def Theta.num (θ : Theta) (s lo hi : Nat) : Option Int :=
  match θ.val s with
  | some (.int .i64 z) => if (lo : Int) ≤ z ∧ z ≤ hi then some z else none
  | _ => none
def Theta.spl (l : Loc) (z : Int) (k es : Nat) : Option Value :=
  if 0 < es ∧ z.toNat + k ≤ l.size / es then some (.slice (some (l.addr 0)) (z.toNat + k) (l.size / es)) else none
def SymT.conc (θ : Theta) : SymT → Option Value
  | .int s lo hi c => (θ.num s lo hi).map fun z => .int .i64 (z + c)
  | .spl b s lo hi k es => (θ.num s lo hi).bind fun z => (θ.blk b).bind fun l => Theta.spl l z k es
  | .ptr b s lo hi es o => (θ.num s lo hi).bind fun z => (θ.blk b).map fun l => .pointer (some (l.addr (z.toNat * es + o)))
theorem num_le {θ θ' : Theta} (h : θ.le θ') {s lo hi : Nat} {z : Int} (e : θ.num s lo hi = some z) : θ'.num s lo hi = some z := by
  unfold Theta.num at e ⊢
  split at e
  · rename_i y hy
    rw [h.2 _ _ hy]
    exact e
  · cases e
theorem num_some {θ : Theta} {s lo hi : Nat} {z : Int} (e : θ.num s lo hi = some z) : θ.val s = some (.int .i64 z) ∧ (lo : Int) ≤ z ∧ z ≤ hi := by
  unfold Theta.num at e
  split at e
  · rename_i y hy
    split at e
    · rename_i h
      injection e with e
      subst e
      exact ⟨hy, h⟩
    · cases e
  · cases e
theorem SymT.conc_le {θ θ' : Theta} (h : θ.le θ') {t : SymT} {v : Value} (e : t.conc θ = some v) : t.conc θ' = some v := by
  cases t with
  | int s lo hi c =>
    simp only [SymT.conc, Option.map_eq_some_iff] at e ⊢
    obtain ⟨z, hz, e⟩ := e
    exact ⟨z, num_le h hz, e⟩
  | spl b s lo hi k es =>
    simp only [SymT.conc, Option.bind_eq_some_iff] at e ⊢
    obtain ⟨z, hz, l, hl, e⟩ := e
    exact ⟨z, num_le h hz, l, h.1 _ _ hl, e⟩
  | ptr b s lo hi es o =>
    simp only [SymT.conc, Option.bind_eq_some_iff, Option.map_eq_some_iff] at e ⊢
    obtain ⟨z, hz, l, hl, e⟩ := e
    exact ⟨z, num_le h hz, l, h.1 _ _ hl, e⟩
theorem SymT.conc_one {θ : Theta} {t : SymT} {v : Value} (e : t.conc θ = some v) : v.oneCell' = true := by
  cases t with
  | int s lo hi c =>
    simp only [SymT.conc, Option.map_eq_some_iff] at e
    obtain ⟨z, hz, rfl⟩ := e
    rfl
  | spl b s lo hi k es =>
    simp only [SymT.conc, Option.bind_eq_some_iff] at e
    obtain ⟨z, hz, l, hl, e⟩ := e
    unfold Theta.spl at e
    split at e
    · injection e with e; subst e; rfl
    · cases e
  | ptr b s lo hi es o =>
    simp only [SymT.conc, Option.bind_eq_some_iff, Option.map_eq_some_iff] at e
    obtain ⟨z, hz, l, hl, rfl⟩ := e
    rfl
mutual
def conc (θ : Theta) : AV → Option Value
  | .bad => none
  | .bool b => some (.bool b)
  | .int k n => some (.int k n)
  | .str n c => some (.string (strOf n c))
  | .nilp => some (.pointer none)
  | .ptr b o => (θ.blk b).map fun l => .pointer (some (l.addr o))
  | .nils => some (.slice none 0 0)
  | .sl b o len (.known c) => (θ.blk b).map fun l => .slice (some (l.addr o)) len c
  | .sl b o len (.opn es) => (θ.blk b).bind fun l => if len ≤ (l.size - o) / es then some (.slice (some (l.addr o)) len ((l.size - o) / es)) else none
  | .sle b o lo es => (θ.blk b).map fun l => if (l.size - o) / es = lo then .slice (some (l.addr o)) 0 0 else .slice (some (l.addr (o + lo * es))) 0 ((l.size - o) / es - lo)
  | .nilm => some (.map none)
  | .map b => (θ.blk b).map fun l => .map (some l.blk)
  | .fn f first cap => match concs θ first, concs θ cap with
    | some x, some y => (fnC θ f).map fun g => .func g x.toArray y.toArray
    | _, _ => none
  | .nilf => some .nilFunc
  | .iface t v => (conc θ v).map (.iface t)
  | .nili => some .nilIface
  | .agg l => (concs θ l).map fun x => .agg x.toArray
  | .tup l => (concs θ l).map fun x => .tuple x.toArray
  | .opq i => (θ.val i).bind fun v => if opqOk i v = true then some v else none
  | .sym t => t.conc θ
def concs (θ : Theta) : List AV → Option (List Value)
  | [] => some []
  | a :: l => match conc θ a, concs θ l with
    | some x, some y => some (x :: y)
    | _, _ => none
end
mutual
theorem conc_le {θ θ' : Theta} (h : θ.le θ') : ∀ (a : AV) (v : Value), conc θ a = some v → conc θ' a = some v
  | .bad, v, e => by simp [conc] at e
  | .bool b, v, e => by simpa [conc] using e
  | .int k n, v, e => by simpa [conc] using e
  | .str n c, v, e => by simpa [conc] using e
  | .nilp, v, e => by simpa [conc] using e
  | .ptr b o, v, e => by
    simp only [conc, Option.map_eq_some_iff] at e ⊢
    obtain ⟨l, hl, e⟩ := e; exact ⟨l, h.1 _ _ hl, e⟩
  | .nils, v, e => by simpa [conc] using e
  | .sl b o len (.known c), v, e => by
    simp only [conc, Option.map_eq_some_iff] at e ⊢
    obtain ⟨l, hl, e⟩ := e; exact ⟨l, h.1 _ _ hl, e⟩
  | .sl b o len (.opn es), v, e => by
    simp only [conc, Option.bind_eq_some_iff] at e ⊢
    obtain ⟨l, hl, e⟩ := e; exact ⟨l, h.1 _ _ hl, e⟩
  | .sle b o lo es, v, e => by
    simp only [conc, Option.map_eq_some_iff] at e ⊢
    obtain ⟨l, hl, e⟩ := e; exact ⟨l, h.1 _ _ hl, e⟩
  | .nilm, v, e => by simpa [conc] using e
  | .map b, v, e => by
    simp only [conc, Option.map_eq_some_iff] at e ⊢
    obtain ⟨l, hl, e⟩ := e; exact ⟨l, h.1 _ _ hl, e⟩
  | .fn f first cap, v, e => by
    simp only [conc] at e ⊢
    cases h1 : concs θ first with
    | none => simp [h1] at e
    | some x =>
      cases h2 : concs θ cap with
      | none => simp [h1, h2] at e
      | some y =>
        rw [concs_le h first x h1, concs_le h cap y h2]
        simp only [h1, h2, Option.map_eq_some_iff] at e ⊢
        obtain ⟨g, hg, e⟩ := e
        exact ⟨g, fnC_le h hg, e⟩
  | .nilf, v, e => by simpa [conc] using e
  | .iface t x, v, e => by
    simp only [conc, Option.map_eq_some_iff] at e ⊢
    obtain ⟨y, hy, e⟩ := e; exact ⟨y, conc_le h x y hy, e⟩
  | .nili, v, e => by simpa [conc] using e
  | .agg l, v, e => by
    simp only [conc, Option.map_eq_some_iff] at e ⊢
    obtain ⟨y, hy, e⟩ := e; exact ⟨y, concs_le h l y hy, e⟩
  | .tup l, v, e => by
    simp only [conc, Option.map_eq_some_iff] at e ⊢
    obtain ⟨y, hy, e⟩ := e; exact ⟨y, concs_le h l y hy, e⟩
  | .opq i, v, e => by
    simp only [conc, Option.bind_eq_some_iff] at e ⊢
    obtain ⟨u, hu, e⟩ := e
    exact ⟨u, h.2 _ _ hu, e⟩
  | .sym t, v, e => by
    simp only [conc] at e ⊢
    exact t.conc_le h e
theorem concs_le {θ θ' : Theta} (h : θ.le θ') : ∀ (l : List AV) (vs : List Value), concs θ l = some vs → concs θ' l = some vs
  | [], vs, e => by simpa [concs] using e
  | a :: l, vs, e => by
    simp only [concs] at e ⊢
    cases h1 : conc θ a with
    | none => simp [h1] at e
    | some x =>
      cases h2 : concs θ l with
      | none => simp [h1, h2] at e
      | some y =>
        rw [conc_le h a x h1, concs_le h l y h2]
        simpa [h1, h2] using e
end
theorem concs_cons {θ : Theta} {a : AV} {l : List AV} {vs : List Value} : concs θ (a :: l) = some vs ↔ ∃ x y, conc θ a = some x ∧ concs θ l = some y ∧ vs = x :: y := by
  simp only [concs]
  cases h1 : conc θ a with
  | none => simp
  | some x =>
    cases h2 : concs θ l with
    | none => simp
    | some y => simp [eq_comm]
theorem concs_length {θ : Theta} : ∀ {l : List AV} {vs : List Value}, concs θ l = some vs → vs.length = l.length
  | [], vs, e => by simp [concs] at e; simp [← e]
  | a :: l, vs, e => by
    obtain ⟨x, y, _, h2, rfl⟩ := concs_cons.1 e
    simp [concs_length h2]
theorem concs_append {θ : Theta} : ∀ {l m : List AV} {vs us : List Value}, concs θ l = some vs → concs θ m = some us → concs θ (l ++ m) = some (vs ++ us)
  | [], m, vs, us, e, e' => by simp [concs] at e; subst e; exact e'
  | a :: l, m, vs, us, e, e' => by
    obtain ⟨x, y, h1, h2, rfl⟩ := concs_cons.1 e
    exact concs_cons.2 ⟨x, y ++ us, h1, concs_append h2 e', rfl⟩
theorem concs_getElem {θ : Theta} : ∀ {l : List AV} {vs : List Value}, concs θ l = some vs → ∀ {i : Nat} {a : AV}, l[i]? = some a → ∃ v, vs[i]? = some v ∧ conc θ a = some v
  | [], vs, e, i, a, h => by simp at h
  | b :: l, vs, e, i, a, h => by
    obtain ⟨x, y, h1, h2, rfl⟩ := concs_cons.1 e
    cases i with
    | zero => simp at h; subst h; exact ⟨x, rfl, h1⟩
    | succ i => simpa using concs_getElem h2 (by simpa using h)
inductive Cells where
  | c1 (x : Tr AV 1)
  | c2 (x : Tr AV 2)
  | c3 (x : Tr AV 3)
  | c4 (x : Tr AV 4)
def Cells.dep : Cells → Nat
  | .c1 _ => 8
  | .c2 _ => 64
  | .c3 _ => 512
  | .c4 _ => 4096
noncomputable def Cells.get (c : Cells) (i : Nat) : AV :=
  match c with
  | .c1 x => Tr.get 1 x i
  | .c2 x => Tr.get 2 x i
  | .c3 x => Tr.get 3 x i
  | .c4 x => Tr.get 4 x i
inductive Ents where
  | nil
  | cons (k v : AV) (born : Nat) (l : Ents)
inductive Blk where
  | dead
  | cells (ro exact : Bool) (len : Nat) (c : Cells)
  | map (es : Ents) (clock : Nat)
  | miter (m since : Nat) (seen : List Nat) (last : Nat)
  | loop (fn : Nat) (pth : List Nat) (env : List AV)
  | defd
  | split (s lo hi f es k : Nat) (cp cw : Cells)
abbrev Heap := Tr Blk 5
noncomputable def Heap.at (h : Heap) (i : Nat) : Blk := Tr.get 5 h i
inductive EntsRel (θ : Theta) : Ents → List MapEntry → Prop where
  | nil : EntsRel θ .nil []
  | cons {k v : AV} {n : Nat} {l : Ents} {k' v' : Value} {l' : List MapEntry} (hk : conc θ k = some k') (hv : conc θ v = some v') (hl : EntsRel θ l l') :
      EntsRel θ (.cons k v n l) (⟨k', v', n⟩ :: l')
theorem EntsRel.le {θ θ' : Theta} (h : θ.le θ') {es : Ents} {l : List MapEntry} (r : EntsRel θ es l) : EntsRel θ' es l := by
  induction r with
  | nil => exact .nil
  | cons hk hv _ ih => exact .cons (conc_le h _ _ hk) (conc_le h _ _ hv) ih
def stepDown : Code → Nat → Option Code
  | .seq a _, 0 => some a
  | .seq _ b, 1 => some b
  | .cond _ a _, 0 => some a
  | .cond _ _ b, 1 => some b
  | .block _ a, 0 => some a
  | .loop a, 0 => some a
  | .scope a, 0 => some a
  | .rangeFunc _ _ a _, 0 => some a
  | .rangeFunc _ _ _ b, 1 => some b
  | _, _ => none
def codeAt (c : Code) : List Nat → Option Code
  | [] => some c
  | i :: p => (stepDown c i).bind fun d => codeAt d p
def siteAt (P : Program) (f : Nat) (p : List Nat) : Option (Array Tmp × Code × Code) :=
  match ((P.funcs[f]?).bind (·.body)).bind (codeAt · p) with
  | some (.rangeFunc _ ps a b) => some (ps, a, b)
  | _ => none
def VR (θ : Theta) (a : AV) (v : Value) : Prop := a = .bad ∨ conc θ a = some v
theorem VR.le {θ θ' : Theta} (h : θ.le θ') {a : AV} {v : Value} (r : VR θ a v) : VR θ' a v := r.imp id (conc_le h _ _)
theorem VR.bad (θ : Theta) (v : Value) : VR θ .bad v := .inl rfl
structure TRel (θ : Theta) (env : Nat → AV) (tmps : Array Value) : Prop where
  val : ∀ t, VR θ (env t) (tmps.getD t undef)
def envOf (env : List AV) : Nat → AV := fun t => env.getD t .bad
def BRel (P : Program) (θ : Theta) (B : Nat) (w : World) (l : Loc) : Blk → Prop
  | .dead => True
  | .cells ro ex len c => len ≤ c.dep ∧ (∀ i, i < len → ∃ v, conc θ (c.get i) = some v ∧ w.cell? (l.addr i) = some v) ∧
    (ro = false → B ≤ l.blk ∧ ∃ cs e, w.heap[l.blk]? = some (.cells cs e (0, 0)) ∧ cs.size = l.off + l.size ∧ len ≤ l.size ∧ (ex = true → len = l.size))
  | .map es clk => B ≤ l.blk ∧ ∃ es', w.heap[l.blk]? = some (.map es' clk) ∧ EntsRel θ es es'.toList
  | .miter m since seen last => B ≤ l.blk ∧ l.off = 0 ∧ ∃ lm, θ.blk m = some lm ∧ w.heap[l.blk]? = some (.mapIter (some lm.blk) since seen.toArray last)
  | .loop f p env => B ≤ l.blk ∧ ∃ tmps ps as bd dd fn, siteAt P f p = some (ps, as, bd) ∧
    w.heap[l.blk]? = some (.loop { state := .ready, pending := none, fn, tmps, params := ps, assign := as, body := bd, defers := dd }) ∧ TRel θ (envOf env) tmps ∧ env.length ≤ tmps.size
  | .defd => B ≤ l.blk ∧ w.heap[l.blk]? = some (.deferred (some []))
  | .split s lo hi f es k cp cw => B ≤ l.blk ∧ ∃ z cs e, θ.num s lo hi = some z ∧ w.heap[l.blk]? = some (.cells cs e (0, 0)) ∧ cs.size = l.off + l.size ∧ 0 < es ∧ f ≤ z.toNat ∧ (z.toNat + k) * es ≤ l.size ∧
    f * es ≤ cp.dep ∧ k * es ≤ cw.dep ∧ (∀ i, i < f * es → ∃ v, conc θ (cp.get i) = some v ∧ cs[l.off + i]? = some v) ∧ (∀ i, i < k * es → ∃ v, conc θ (cw.get i) = some v ∧ cs[l.off + (z.toNat * es + i)]? = some v) ∧
    (∀ i v, i < (z.toNat + k) * es → cs[l.off + i]? = some v → v.oneCell' = true)
structure HRel (P : Program) (θ : Theta) (h : Nat → Blk) (B : Nat) (w : World) : Prop where
  blk : ∀ b, h b ≠ .dead → ∃ l, θ.blk b = some l ∧ l.blk < w.heap.size ∧ BRel P θ B w l (h b)
  inj : ∀ b b' l l', h b ≠ .dead → h b' ≠ .dead → θ.blk b = some l → θ.blk b' = some l' → l.blk = l'.blk → b = b'
theorem HRel.at {P : Program} {θ : Theta} {h : Nat → Blk} {B : Nat} {w : World} (r : HRel P θ h B w) {b : Nat} {l : Loc} (hl : θ.blk b = some l) : BRel P θ B w l (h b) := by
  by_cases hb : h b = .dead
  · rw [hb]; trivial
  · obtain ⟨l', hl', _, hr⟩ := r.blk b hb
    rw [hl] at hl'; injection hl' with hl'; subst hl'
    exact hr
def Fresh (θ : Theta) (n : Nat) : Prop := ∀ b, n ≤ b → θ.blk b = none
def Blk.own : Blk → Bool
  | .dead => false
  | .cells ro _ _ _ => !ro
  | _ => true
structure Frm (θ : Theta) (h : Nat → Blk) (w w' : World) : Prop where
  os : w'.os = w.os
  tape : w'.tape = w.tape
  output : w'.output = w.output
  size : w.heap.size ≤ w'.heap.size
  block : ∀ r, r < w.heap.size → (∀ b l, (h b).own = true → θ.blk b = some l → l.blk ≠ r) → w'.heap[r]? = w.heap[r]?
theorem Frm.refl (θ : Theta) (h : Nat → Blk) (w : World) : Frm θ h w w := ⟨rfl, rfl, rfl, Nat.le_refl _, fun _ _ _ => rfl⟩
structure Grows (θ : Theta) (h h' : Nat → Blk) (θ' : Theta) (w : World) : Prop where
  own : ∀ b l, (h' b).own = true → θ'.blk b = some l → (∃ b0 l0, (h b0).own = true ∧ θ.blk b0 = some l0 ∧ l0.blk = l.blk) ∨ w.heap.size ≤ l.blk
  any : ∀ b l, h' b ≠ .dead → θ'.blk b = some l → (∃ b0 l0, h b0 ≠ .dead ∧ θ.blk b0 = some l0 ∧ l0.blk = l.blk) ∨ w.heap.size ≤ l.blk
theorem Frm.trans {θ θ' : Theta} {h h' : Nat → Blk} {w w1 w2 : World} (a : Frm θ h w w1) (b : Frm θ' h' w1 w2) (g : Grows θ h h' θ' w) : Frm θ h w w2 := by
  refine ⟨b.os.trans a.os, b.tape.trans a.tape, b.output.trans a.output, Nat.le_trans a.size b.size, fun r hr hn => ?_⟩
  rw [b.block r (Nat.lt_of_lt_of_le hr a.size) ?_, a.block r hr hn]
  intro x l hx hl e
  rcases g.own x l hx hl with ⟨b0, l0, h0, t0, e0⟩ | h1
  · exact hn b0 l0 h0 t0 (e0.trans e)
  · omega
theorem Grows.refl (θ : Theta) (h : Nat → Blk) (w : World) : Grows θ h h θ w := ⟨fun b l hb hl => .inl ⟨b, l, hb, hl, rfl⟩, fun b l hb hl => .inl ⟨b, l, hb, hl, rfl⟩⟩
theorem Grows.trans {θ θ1 θ2 : Theta} {h h1 h2 : Nat → Blk} {w w1 : World} (hw : w.heap.size ≤ w1.heap.size) (a : Grows θ h h1 θ1 w) (b : Grows θ1 h1 h2 θ2 w1) : Grows θ h h2 θ2 w := by
  refine ⟨fun x l hx hl => ?_, fun x l hx hl => ?_⟩
  · rcases b.own x l hx hl with ⟨b0, l0, h0, t0, e0⟩ | h'
    · rcases a.own b0 l0 h0 t0 with ⟨b1, l1, h1', t1, e1⟩ | h'
      · exact .inl ⟨b1, l1, h1', t1, e1.trans e0⟩
      · exact .inr (by omega)
    · exact .inr (by omega)
  · rcases b.any x l hx hl with ⟨b0, l0, h0, t0, e0⟩ | h'
    · rcases a.any b0 l0 h0 t0 with ⟨b1, l1, h1', t1, e1⟩ | h'
      · exact .inl ⟨b1, l1, h1', t1, e1.trans e0⟩
      · exact .inr (by omega)
    · exact .inr (by omega)
theorem HRel.weaken {P : Program} {θ : Theta} {h h' : Nat → Blk} {B : Nat} {w : World} (r : HRel P θ h B w) (hh : ∀ b, h' b ≠ .dead → h' b = h b) : HRel P θ h' B w where
  blk b hb := by
    have e := hh b hb
    rw [e] at hb ⊢
    exact r.blk b hb
  inj b b' l l' h1 h2 := r.inj b b' l l' (by rw [← hh b h1]; exact h1) (by rw [← hh b' h2]; exact h2)
theorem HRel.theta {P : Program} {θ : Theta} {h : Nat → Blk} {B : Nat} {w : World} (r : HRel P θ h B w) (b : Nat) (hb : h b ≠ .dead) : ∃ l, θ.blk b = some l :=
  let ⟨l, hl, _⟩ := r.blk b hb; ⟨l, hl⟩
theorem lt_of_heap {w : World} {i : Nat} {o : Obj} (e : w.heap[i]? = some o) : i < w.heap.size := by
  rcases Nat.lt_or_ge i w.heap.size with h | h
  · exact h
  · simp [Array.getElem?_eq_none h] at e
theorem BRel.own_lt {P : Program} {θ : Theta} {B : Nat} {w : World} {l : Loc} {b : Blk} (r : BRel P θ B w l b) (hb : b.own = true) : B ≤ l.blk ∧ l.blk < w.heap.size := by
  cases b with
  | dead => simp [Blk.own] at hb
  | cells ro ex len c => obtain ⟨hB, cs, el, hw, _⟩ := r.2.2 (by simpa [Blk.own] using hb); exact ⟨hB, lt_of_heap hw⟩
  | map es clk => obtain ⟨hB, es', hw, _⟩ := r; exact ⟨hB, lt_of_heap hw⟩
  | miter m s se la => obtain ⟨hB, _, _, _, hw⟩ := r; exact ⟨hB, lt_of_heap hw⟩
  | loop f p env => obtain ⟨hB, _, _, _, _, _, _, _, hw, _⟩ := r; exact ⟨hB, lt_of_heap hw⟩
  | defd => exact ⟨r.1, lt_of_heap r.2⟩
  | split s lo hi f es k cp cw => obtain ⟨hB, z, cs, e, _, hw, _⟩ := r; exact ⟨hB, lt_of_heap hw⟩
theorem HRel.own_lt {P : Program} {θ : Theta} {h : Nat → Blk} {B : Nat} {w : World} (r : HRel P θ h B w) {b : Nat} {l : Loc} (hb : (h b).own = true) (hl : θ.blk b = some l) : B ≤ l.blk ∧ l.blk < w.heap.size :=
  (r.at hl).own_lt hb
theorem TRel.le {θ θ' : Theta} (h : θ.le θ') {env : Nat → AV} {tmps : Array Value} (r : TRel θ env tmps) : TRel θ' env tmps := ⟨fun t => (r.val t).le h⟩
theorem BRel.keep {P : Program} {θ θ' : Theta} {B : Nat} {w w' : World} {l : Loc} {b : Blk} (r : BRel P θ B w l b) (hθ : θ.le θ') (hw : w'.heap[l.blk]? = w.heap[l.blk]?) : BRel P θ' B w' l b := by
  cases b with
  | dead => trivial
  | cells ro ex len c =>
    refine ⟨r.1, fun i hi => ?_, fun hr => ?_⟩
    · obtain ⟨v, hv, hc⟩ := r.2.1 i hi
      exact ⟨v, conc_le hθ _ _ hv, by unfold World.cell? at hc ⊢; unfold Loc.addr at hc ⊢; simp only at hc ⊢; rw [hw]; exact hc⟩
    · obtain ⟨hB, cs, el, hc, rest⟩ := r.2.2 hr
      exact ⟨hB, cs, el, hw.trans hc, rest⟩
  | map es clk => obtain ⟨hB, es', he, hr⟩ := r; exact ⟨hB, es', hw.trans he, hr.le hθ⟩
  | miter m s se la => obtain ⟨hB, h0, lm, hm, he⟩ := r; exact ⟨hB, h0, lm, hθ.1 _ _ hm, hw.trans he⟩
  | loop f p env => obtain ⟨hB, tmps, ps, as, bd, dd, fn, hs, he, ht, hle⟩ := r; exact ⟨hB, tmps, ps, as, bd, dd, fn, hs, hw.trans he, ht.le hθ, hle⟩
  | defd => exact ⟨r.1, hw.trans r.2⟩
  | split s lo hi f es k cp cw =>
    obtain ⟨hB, z, cs, e, hz, hc, hs, he, hf, hk, h1, h2, h3, h4, h5⟩ := r
    refine ⟨hB, z, cs, e, num_le hθ hz, hw.trans hc, hs, he, hf, hk, h1, h2, fun i hi => ?_, fun i hi => ?_, h5⟩
    · obtain ⟨v, hv, hg⟩ := h3 i hi
      exact ⟨v, conc_le hθ _ _ hv, hg⟩
    · obtain ⟨v, hv, hg⟩ := h4 i hi
      exact ⟨v, conc_le hθ _ _ hv, hg⟩
theorem HRel.keep {P : Program} {θ θ' : Theta} {h : Nat → Blk} {B : Nat} {w w' : World} (r : HRel P θ h B w) (hθ : θ.le θ')
    (hs : w.heap.size ≤ w'.heap.size) (hw : ∀ b l, h b ≠ .dead → θ.blk b = some l → w'.heap[l.blk]? = w.heap[l.blk]?) : HRel P θ' h B w' where
  blk b hb := by
    obtain ⟨l, hl, hlt, hr⟩ := r.blk b hb
    exact ⟨l, hθ.1 _ _ hl, Nat.lt_of_lt_of_le hlt hs, hr.keep hθ (hw b l hb hl)⟩
  inj b b' l l' h1 h2 e1 e2 e3 := by
    obtain ⟨m, hm⟩ := r.theta b h1
    obtain ⟨m', hm'⟩ := r.theta b' h2
    have x1 := hθ.1 _ _ hm
    have x2 := hθ.1 _ _ hm'
    rw [e1] at x1; injection x1 with x1; subst x1
    rw [e2] at x2; injection x2 with x2; subst x2
    exact r.inj b b' l l' h1 h2 hm hm' e3
def setB (h : Nat → Blk) (i : Nat) (b : Blk) : Nat → Blk := fun j => if i = j then b else h j
def Theta.add (θ : Theta) (i : Nat) (l : Loc) : Theta := { θ with blk := fun j => if i = j then some l else θ.blk j }
theorem Theta.le_add {θ : Theta} {i : Nat} (hi : θ.blk i = none) (l : Loc) : θ.le (θ.add i l) := by
  refine ⟨fun j m hj => ?_, fun _ _ h => h⟩
  show (if i = j then some l else θ.blk j) = some m
  by_cases e : i = j
  · subst e; rw [hi] at hj; cases hj
  · rw [if_neg e]; exact hj
theorem Theta.add_self (θ : Theta) (i : Nat) (l : Loc) : (θ.add i l).blk i = some l := by simp [Theta.add]
theorem HRel.lt {P : Program} {θ : Theta} {h : Nat → Blk} {B : Nat} {w : World} (r : HRel P θ h B w) {b : Nat} {l : Loc} (hb : h b ≠ .dead) (hl : θ.blk b = some l) : l.blk < w.heap.size := by
  obtain ⟨l', hl', hlt, _⟩ := r.blk b hb
  rw [hl] at hl'; injection hl' with hl'; subst hl'
  exact hlt
theorem HRel.dead_of_none {P : Program} {θ : Theta} {h : Nat → Blk} {B : Nat} {w : World} (r : HRel P θ h B w) {b : Nat} (hl : θ.blk b = none) : h b = .dead := by
  by_cases hb : h b = .dead
  · exact hb
  · obtain ⟨l, hl', _⟩ := r.blk b hb
    rw [hl] at hl'; cases hl'
theorem Fresh.add {θ : Theta} {n n' i : Nat} {l : Loc} (h : Fresh θ n) (hn : n ≤ n') (hi : i < n') : Fresh (θ.add i l) n' := by
  intro b hb
  show (if i = b then some l else θ.blk b) = none
  rw [if_neg (by omega), h b (by omega)]
theorem heap_alloc_ne (w : World) (o : Obj) {k : Nat} (h : k ≠ w.heap.size) : (w.alloc o).heap[k]? = w.heap[k]? := by
  show (w.heap.push o)[k]? = _
  rw [Array.getElem?_push, if_neg h]
theorem heap_alloc_self (w : World) (o : Obj) : (w.alloc o).heap[w.heap.size]? = some o := by
  show (w.heap.push o)[w.heap.size]? = _
  simp
theorem heap_alloc_size (w : World) (o : Obj) : (w.alloc o).heap.size = w.heap.size + 1 := by
  show (w.heap.push o).size = _
  simp
theorem HRel.alloc {P : Program} {θ : Theta} {h : Nat → Blk} {B : Nat} {w : World} (r : HRel P θ h B w) {i : Nat} (hi : θ.blk i = none) (o : Obj) (b : Blk) (sz : Nat)
    (hb : BRel P (θ.add i ⟨w.heap.size, 0, sz⟩) B (w.alloc o) ⟨w.heap.size, 0, sz⟩ b) : HRel P (θ.add i ⟨w.heap.size, 0, sz⟩) (setB h i b) B (w.alloc o) := by
  have hθ := Theta.le_add hi ⟨w.heap.size, 0, sz⟩
  have k := r.keep (w' := w.alloc o) hθ (by rw [heap_alloc_size]; omega) (fun x l hx hl => heap_alloc_ne _ _ (by have := r.lt hx hl; omega))
  have hd := r.dead_of_none hi
  refine ⟨fun x hx => ?_, fun x y l l' hx hy e1 e2 e3 => ?_⟩
  · by_cases e : i = x
    · subst e
      refine ⟨⟨w.heap.size, 0, sz⟩, Theta.add_self _ _ _, by rw [heap_alloc_size]; simp, ?_⟩
      simp only [setB, if_true]
      exact hb
    · simp only [setB, if_neg e] at hx ⊢
      exact k.blk x hx
  · by_cases ex : i = x
    · by_cases ey : i = y
      · exact ex.symm.trans ey
      · subst ex
        simp only [setB, if_neg ey] at hy
        rw [Theta.add_self] at e1
        injection e1 with e1; subst e1
        have : l'.blk < w.heap.size := by
          obtain ⟨m, hm, hlt, _⟩ := r.blk y hy
          have := hθ.1 _ _ hm
          rw [e2] at this; injection this with this; subst this
          exact hlt
        simp at e3; omega
    · by_cases ey : i = y
      · subst ey
        simp only [setB, if_neg ex] at hx
        rw [Theta.add_self] at e2
        injection e2 with e2; subst e2
        have : l.blk < w.heap.size := by
          obtain ⟨m, hm, hlt, _⟩ := r.blk x hx
          have := hθ.1 _ _ hm
          rw [e1] at this; injection this with this; subst this
          exact hlt
        simp at e3; omega
      · simp only [setB, if_neg ex, if_neg ey] at hx hy
        exact k.inj x y l l' hx hy e1 e2 e3
theorem Frm.alloc (θ : Theta) (h : Nat → Blk) (w : World) (o : Obj) : Frm θ h w (w.alloc o) :=
  ⟨rfl, rfl, rfl, by rw [heap_alloc_size]; omega, fun r hr _ => heap_alloc_ne _ _ (by omega)⟩
theorem Grows.add {P : Program} {θ : Theta} {h : Nat → Blk} {B : Nat} {w : World} (_r : HRel P θ h B w) (i : Nat) (b : Blk) (sz : Nat) : Grows θ h (setB h i b) (θ.add i ⟨w.heap.size, 0, sz⟩) w := by
  refine ⟨fun x l hx hl => ?_, fun x l hx hl => ?_⟩
  all_goals
    by_cases e : i = x
    · subst e
      rw [Theta.add_self] at hl; injection hl with hl; subst hl
      exact .inr (Nat.le_refl _)
    · simp only [setB, if_neg e] at hx
      simp only [Theta.add, if_neg e] at hl
      exact .inl ⟨x, l, hx, hl, rfl⟩
theorem HRel.turn {P : Program} {θ : Theta} {h : Nat → Blk} {B : Nat} {w w' : World} (r : HRel P θ h B w) {i : Nat} {l : Loc} (hi : h i ≠ .dead) (hl : θ.blk i = some l)
    (hs : w.heap.size ≤ w'.heap.size) (hw : ∀ k, k < w.heap.size → k ≠ l.blk → w'.heap[k]? = w.heap[k]?) (b : Blk) (hb : BRel P θ B w' l b) : HRel P θ (setB h i b) B w' := by
  refine ⟨fun x hx => ?_, fun x y m m' hx hy e1 e2 e3 => ?_⟩
  · by_cases e : i = x
    · subst e
      refine ⟨l, hl, Nat.lt_of_lt_of_le (r.lt hi hl) hs, ?_⟩
      simp only [setB, if_true]
      exact hb
    · simp only [setB, if_neg e] at hx ⊢
      obtain ⟨m, hm, hlt, hr⟩ := r.blk x hx
      exact ⟨m, hm, Nat.lt_of_lt_of_le hlt hs, hr.keep (Theta.le_refl _) (hw _ hlt (fun e' => e (r.inj i x l m hi hx hl hm e'.symm)))⟩
  · refine r.inj x y m m' ?_ ?_ e1 e2 e3
    · by_cases e : i = x
      · subst e; exact hi
      · simpa only [setB, if_neg e] using hx
    · by_cases e : i = y
      · subst e; exact hi
      · simpa only [setB, if_neg e] using hy
theorem Frm.turn {θ : Theta} {h : Nat → Blk} {w w' : World} {i : Nat} {l : Loc} (hi : (h i).own = true) (hl : θ.blk i = some l) (ho : w'.os = w.os) (ht : w'.tape = w.tape) (hout : w'.output = w.output)
    (hs : w.heap.size ≤ w'.heap.size) (hw : ∀ k, k < w.heap.size → k ≠ l.blk → w'.heap[k]? = w.heap[k]?) : Frm θ h w w' :=
  ⟨ho, ht, hout, hs, fun k hk hn => hw k hk (fun e => hn i l hi hl e.symm)⟩
theorem own_ne {b : Blk} (h : b.own = true) : b ≠ .dead := by intro e; rw [e] at h; simp [Blk.own] at h
theorem Grows.turn {θ : Theta} {h : Nat → Blk} (w : World) {i : Nat} {l : Loc} (hi : (h i).own = true) (hl : θ.blk i = some l) (b : Blk) : Grows θ h (setB h i b) θ w := by
  refine ⟨fun x m hx hm => ?_, fun x m hx hm => ?_⟩
  · by_cases e : i = x
    · subst e
      rw [hl] at hm; injection hm with hm; subst hm
      exact .inl ⟨i, l, hi, hl, rfl⟩
    · simp only [setB, if_neg e] at hx
      exact .inl ⟨x, m, hx, hm, rfl⟩
  · by_cases e : i = x
    · subst e
      rw [hl] at hm; injection hm with hm; subst hm
      exact .inl ⟨i, l, own_ne hi, hl, rfl⟩
    · simp only [setB, if_neg e] at hx
      exact .inl ⟨x, m, hx, hm, rfl⟩
theorem heap_setCell_ne (w : World) (a : Addr) (v : Value) {k : Nat} (h : k ≠ a.block) : (w.setCell a v).heap[k]? = w.heap[k]? := by
  simp only [World.setCell, Array.getElem?_modify]
  rw [if_neg (by omega)]
theorem heap_setCell_size (w : World) (a : Addr) (v : Value) : (w.setCell a v).heap.size = w.heap.size := by simp [World.setCell]
theorem heap_setCell_self (w : World) {b o : Nat} (v : Value) {cs : Array Value} {e : TypeId} {fr : Nat × Nat} (h : w.heap[b]? = some (.cells cs e fr)) :
    (w.setCell ⟨b, o, none⟩ v).heap[b]? = some (.cells (cs.setIfInBounds o v) e fr) := by
  simp [World.setCell, Array.getElem?_modify, h]
end Ev
namespace Ev
open Go
open Go.RowKit
noncomputable def AV.ckBool (a : AV) (f : Bool → Bool) : Bool :=
  AV.rec (motive_1 := fun _ => Bool) (motive_2 := fun _ => Bool) false f (fun _ _ => false) (fun _ _ => false) false (fun _ _ => false) false (fun _ _ _ _ => false) (fun _ _ _ _ => false) false (fun _ => false) (fun _ _ _ _ _ => false) false (fun _ _ _ => false) false (fun _ _ => false) (fun _ _ => false) (fun _ => false) (fun _ => false) false (fun _ _ _ _ => false) a
noncomputable def AV.ckInt (a : AV) (f : IntKind → Int → Bool) : Bool :=
  AV.rec (motive_1 := fun _ => Bool) (motive_2 := fun _ => Bool) false (fun _ => false) f (fun _ _ => false) false (fun _ _ => false) false (fun _ _ _ _ => false) (fun _ _ _ _ => false) false (fun _ => false) (fun _ _ _ _ _ => false) false (fun _ _ _ => false) false (fun _ _ => false) (fun _ _ => false) (fun _ => false) (fun _ => false) false (fun _ _ _ _ => false) a
noncomputable def AV.ckStr (a : AV) (f : Nat → Nat → Bool) : Bool :=
  AV.rec (motive_1 := fun _ => Bool) (motive_2 := fun _ => Bool) false (fun _ => false) (fun _ _ => false) f false (fun _ _ => false) false (fun _ _ _ _ => false) (fun _ _ _ _ => false) false (fun _ => false) (fun _ _ _ _ _ => false) false (fun _ _ _ => false) false (fun _ _ => false) (fun _ _ => false) (fun _ => false) (fun _ => false) false (fun _ _ _ _ => false) a
noncomputable def AV.ckPtr (a : AV) (f : Nat → Nat → Bool) : Bool :=
  AV.rec (motive_1 := fun _ => Bool) (motive_2 := fun _ => Bool) false (fun _ => false) (fun _ _ => false) (fun _ _ => false) false f false (fun _ _ _ _ => false) (fun _ _ _ _ => false) false (fun _ => false) (fun _ _ _ _ _ => false) false (fun _ _ _ => false) false (fun _ _ => false) (fun _ _ => false) (fun _ => false) (fun _ => false) false (fun _ _ _ _ => false) a
noncomputable def AV.ckSl (a : AV) (n : Bool) (f : Nat → Nat → Nat → Cap → Bool) (e : Nat → Nat → Nat → Nat → Bool) : Bool :=
  AV.rec (motive_1 := fun _ => Bool) (motive_2 := fun _ => Bool) false (fun _ => false) (fun _ _ => false) (fun _ _ => false) false (fun _ _ => false) n f e false (fun _ => false) (fun _ _ _ _ _ => false) false (fun _ _ _ => false) false (fun _ _ => false) (fun _ _ => false) (fun _ => false) (fun _ => false) false (fun _ _ _ _ => false) a
noncomputable def AV.ckMap (a : AV) (n : Bool) (f : Nat → Bool) : Bool :=
  AV.rec (motive_1 := fun _ => Bool) (motive_2 := fun _ => Bool) false (fun _ => false) (fun _ _ => false) (fun _ _ => false) false (fun _ _ => false) false (fun _ _ _ _ => false) (fun _ _ _ _ => false) n f (fun _ _ _ _ _ => false) false (fun _ _ _ => false) false (fun _ _ => false) (fun _ _ => false) (fun _ => false) (fun _ => false) false (fun _ _ _ _ => false) a
noncomputable def AV.ckFn (a : AV) (f : Fn → List AV → List AV → Bool) : Bool :=
  AV.rec (motive_1 := fun _ => Bool) (motive_2 := fun _ => Bool) false (fun _ => false) (fun _ _ => false) (fun _ _ => false) false (fun _ _ => false) false (fun _ _ _ _ => false) (fun _ _ _ _ => false) false (fun _ => false) (fun x0 x1 x2 _ _ => f x0 x1 x2) false (fun _ _ _ => false) false (fun _ _ => false) (fun _ _ => false) (fun _ => false) (fun _ => false) false (fun _ _ _ _ => false) a
noncomputable def AV.ckAgg (a : AV) (f : List AV → Bool) : Bool :=
  AV.rec (motive_1 := fun _ => Bool) (motive_2 := fun _ => Bool) false (fun _ => false) (fun _ _ => false) (fun _ _ => false) false (fun _ _ => false) false (fun _ _ _ _ => false) (fun _ _ _ _ => false) false (fun _ => false) (fun _ _ _ _ _ => false) false (fun _ _ _ => false) false (fun x0 _ => f x0) (fun _ _ => false) (fun _ => false) (fun _ => false) false (fun _ _ _ _ => false) a
noncomputable def AV.ckTup (a : AV) (f : List AV → Bool) : Bool :=
  AV.rec (motive_1 := fun _ => Bool) (motive_2 := fun _ => Bool) false (fun _ => false) (fun _ _ => false) (fun _ _ => false) false (fun _ _ => false) false (fun _ _ _ _ => false) (fun _ _ _ _ => false) false (fun _ => false) (fun _ _ _ _ _ => false) false (fun _ _ _ => false) false (fun _ _ => false) (fun x0 _ => f x0) (fun _ => false) (fun _ => false) false (fun _ _ _ _ => false) a
noncomputable def AV.ckOne (a : AV) (y : Bool) : Bool :=
  AV.rec (motive_1 := fun _ => Bool) (motive_2 := fun _ => Bool) false (fun _ => y) (fun _ _ => y) (fun _ _ => y) y (fun _ _ => y) y (fun _ _ _ _ => y) (fun _ _ _ _ => y) y (fun _ => y) (fun _ _ _ _ _ => y) y (fun _ _ _ => y) y (fun _ _ => false) (fun _ _ => false) (fun _ => y) (fun _ => y) false (fun _ _ _ _ => false) a
noncomputable def AV.ckOk (a : AV) (y : Bool) : Bool :=
  AV.rec (motive_1 := fun _ => Bool) (motive_2 := fun _ => Bool) false (fun _ => y) (fun _ _ => y) (fun _ _ => y) y (fun _ _ => y) y (fun _ _ _ _ => y) (fun _ _ _ _ => y) y (fun _ => y) (fun _ _ _ _ _ => y) y (fun _ _ _ => y) y (fun _ _ => y) (fun _ _ => y) (fun _ => y) (fun _ => y) false (fun _ _ _ _ => false) a
noncomputable def AV.ckGd (a : AV) (f : Bool → Bool) (s : Bool) : Bool :=
  AV.rec (motive_1 := fun _ => Bool) (motive_2 := fun _ => Bool) false f (fun _ _ => false) (fun _ _ => false) false (fun _ _ => false) false (fun _ _ _ _ => false) (fun _ _ _ _ => false) false (fun _ => false) (fun _ _ _ _ _ => false) false (fun _ _ _ => false) false (fun _ _ => false) (fun _ _ => s) (fun _ => false) (fun _ => false) false (fun _ _ _ _ => false) a
theorem ckGd_iff {a : AV} {f : Bool → Bool} {s : Bool} : a.ckGd f s = true ↔ (∃ b, a = .bool b ∧ f b = true) ∨ (∃ l, a = .tup l ∧ s = true) := by cases a <;> simp [AV.ckGd]
noncomputable def AV.orSym (a : AV) (y : Bool) (f : SymT → Bool) : Bool :=
  AV.rec (motive_1 := fun _ => Bool) (motive_2 := fun _ => Bool) y (fun _ => y) (fun _ _ => y) (fun _ _ => y) y (fun _ _ => y) y (fun _ _ _ _ => y) (fun _ _ _ _ => y) y (fun _ => y) (fun _ _ _ _ _ => y) y (fun _ _ _ => y) y (fun _ _ => y) (fun _ _ => y) (fun _ => y) f false (fun _ _ _ _ => false) a
theorem orSym_iff {a : AV} {y : Bool} {f : SymT → Bool} (h : a.orSym y f = true) : (∃ t, a = .sym t ∧ f t = true) ∨ y = true := by
  cases a <;> first | exact .inr h | exact .inl ⟨_, rfl, h⟩
noncomputable def SymT.ckI (t : SymT) (f : Nat → Nat → Nat → Int → Bool) : Bool := SymT.rec (motive := fun _ => Bool) f (fun _ _ _ _ _ _ => false) (fun _ _ _ _ _ _ => false) t
noncomputable def SymT.ckS (t : SymT) (f : Nat → Nat → Nat → Nat → Nat → Nat → Bool) : Bool := SymT.rec (motive := fun _ => Bool) (fun _ _ _ _ => false) f (fun _ _ _ _ _ _ => false) t
noncomputable def SymT.ckP (t : SymT) (f : Nat → Nat → Nat → Nat → Nat → Nat → Bool) : Bool := SymT.rec (motive := fun _ => Bool) (fun _ _ _ _ => false) (fun _ _ _ _ _ _ => false) f t
theorem SymT.ckI_iff {t : SymT} {f : Nat → Nat → Nat → Int → Bool} (h : t.ckI f = true) : ∃ s lo hi c, t = .int s lo hi c ∧ f s lo hi c = true := by
  cases t <;> first | exact (Bool.false_ne_true h).elim | exact ⟨_, _, _, _, rfl, h⟩
theorem SymT.ckS_iff {t : SymT} {f : Nat → Nat → Nat → Nat → Nat → Nat → Bool} (h : t.ckS f = true) : ∃ b s lo hi k es, t = .spl b s lo hi k es ∧ f b s lo hi k es = true := by
  cases t <;> first | exact (Bool.false_ne_true h).elim | exact ⟨_, _, _, _, _, _, rfl, h⟩
theorem SymT.ckP_iff {t : SymT} {f : Nat → Nat → Nat → Nat → Nat → Nat → Bool} (h : t.ckP f = true) : ∃ b s lo hi es o, t = .ptr b s lo hi es o ∧ f b s lo hi es o = true := by
  cases t <;> first | exact (Bool.false_ne_true h).elim | exact ⟨_, _, _, _, _, _, rfl, h⟩
noncomputable def AV.ckPS (a : AV) (f : Nat → Nat → Bool) (g : SymT → Bool) : Bool :=
  AV.rec (motive_1 := fun _ => Bool) (motive_2 := fun _ => Bool) false (fun _ => false) (fun _ _ => false) (fun _ _ => false) false f false (fun _ _ _ _ => false) (fun _ _ _ _ => false) false (fun _ => false) (fun _ _ _ _ _ => false) false (fun _ _ _ => false) false (fun _ _ => false) (fun _ _ => false) (fun _ => false) g false (fun _ _ _ _ => false) a
theorem ckPS_eq (a : AV) (f : Nat → Nat → Bool) (g : SymT → Bool) : a.ckPS f g = a.orSym (a.ckPtr f) g := by cases a <;> rfl
noncomputable def AV.ckSS (a : AV) (n : Bool) (f : Nat → Nat → Nat → Cap → Bool) (e : Nat → Nat → Nat → Nat → Bool) (g : SymT → Bool) : Bool :=
  AV.rec (motive_1 := fun _ => Bool) (motive_2 := fun _ => Bool) false (fun _ => false) (fun _ _ => false) (fun _ _ => false) false (fun _ _ => false) n f e false (fun _ => false) (fun _ _ _ _ _ => false) false (fun _ _ _ => false) false (fun _ _ => false) (fun _ _ => false) (fun _ => false) g false (fun _ _ _ _ => false) a
theorem ckSS_eq (a : AV) (n : Bool) (f e : _) (g : SymT → Bool) : a.ckSS n f e g = a.orSym (a.ckSl n f e) g := by cases a <;> rfl
theorem ckPS_iff {a : AV} {f : Nat → Nat → Bool} {g : SymT → Bool} (h : a.ckPS f g = true) : (∃ t, a = .sym t ∧ g t = true) ∨ a.ckPtr f = true := by
  rw [ckPS_eq] at h
  exact orSym_iff h
theorem ckSS_iff {a : AV} {n : Bool} {f e : _} {g : SymT → Bool} (h : a.ckSS n f e g = true) : (∃ t, a = .sym t ∧ g t = true) ∨ a.ckSl n f e = true := by
  rw [ckSS_eq] at h
  exact orSym_iff h
theorem ckBool_iff {a : AV} {f : Bool → Bool} : a.ckBool f = true ↔ ∃ b, a = .bool b ∧ f b = true := by cases a <;> simp [AV.ckBool]
theorem ckInt_iff {a : AV} {f : IntKind → Int → Bool} : a.ckInt f = true ↔ ∃ k n, a = .int k n ∧ f k n = true := by
  cases a <;> simp [AV.ckInt]
  constructor
  · intro h; exact ⟨_, _, ⟨rfl, rfl⟩, h⟩
  · rintro ⟨_, _, ⟨rfl, rfl⟩, h⟩; exact h
theorem ckStr_iff {a : AV} {f : Nat → Nat → Bool} : a.ckStr f = true ↔ ∃ n c, a = .str n c ∧ f n c = true := by
  cases a <;> simp [AV.ckStr]
  constructor
  · intro h; exact ⟨_, _, ⟨rfl, rfl⟩, h⟩
  · rintro ⟨_, _, ⟨rfl, rfl⟩, h⟩; exact h
theorem ckPtr_iff {a : AV} {f : Nat → Nat → Bool} : a.ckPtr f = true ↔ ∃ b o, a = .ptr b o ∧ f b o = true := by
  cases a <;> simp [AV.ckPtr]
  constructor
  · intro h; exact ⟨_, _, ⟨rfl, rfl⟩, h⟩
  · rintro ⟨_, _, ⟨rfl, rfl⟩, h⟩; exact h
theorem ckSl_iff {a : AV} {n : Bool} {f e : _} : a.ckSl n f e = true ↔ (a = .nils ∧ n = true) ∨ (∃ b o len cap, a = .sl b o len cap ∧ f b o len cap = true) ∨ (∃ b o lo es, a = .sle b o lo es ∧ e b o lo es = true) := by
  cases a <;> simp [AV.ckSl]
  · constructor
    · intro h; exact ⟨_, _, _, _, ⟨rfl, rfl, rfl, rfl⟩, h⟩
    · rintro ⟨_, _, _, _, ⟨rfl, rfl, rfl, rfl⟩, h⟩; exact h
  · constructor
    · intro h; exact ⟨_, _, _, _, ⟨rfl, rfl, rfl, rfl⟩, h⟩
    · rintro ⟨_, _, _, _, ⟨rfl, rfl, rfl, rfl⟩, h⟩; exact h
theorem ckMap_iff {a : AV} {n : Bool} {f : Nat → Bool} : a.ckMap n f = true ↔ (a = .nilm ∧ n = true) ∨ ∃ b, a = .map b ∧ f b = true := by cases a <;> simp [AV.ckMap]
theorem ckFn_iff {a : AV} {f : Fn → List AV → List AV → Bool} : a.ckFn f = true ↔ ∃ g x y, a = .fn g x y ∧ f g x y = true := by
  cases a <;> simp [AV.ckFn]
  constructor
  · intro h; exact ⟨_, _, _, ⟨rfl, rfl, rfl⟩, h⟩
  · rintro ⟨_, _, _, ⟨rfl, rfl, rfl⟩, h⟩; exact h
theorem ckAgg_iff {a : AV} {f : List AV → Bool} : a.ckAgg f = true ↔ ∃ l, a = .agg l ∧ f l = true := by cases a <;> simp [AV.ckAgg]
theorem ckTup_iff {a : AV} {f : List AV → Bool} : a.ckTup f = true ↔ ∃ l, a = .tup l ∧ f l = true := by cases a <;> simp [AV.ckTup]
theorem ckOk_iff {a : AV} {y : Bool} : a.ckOk y = true ↔ a ≠ .bad ∧ y = true := by cases a <;> simp [AV.ckOk]
def AV.one : AV → Bool
  | .bad | .agg _ | .tup _ => false
  | _ => true
theorem ckOne_iff {a : AV} {y : Bool} : a.ckOne y = true ↔ a.one = true ∧ y = true := by cases a <;> simp [AV.ckOne, AV.one]
noncomputable def forceN {β : Type} (n : Nat) (k : Nat → β) : β := Nat.rec (motive := fun _ => β) (k 0) (fun m _ => k (Nat.succ m)) n
theorem forceN_eq {β : Type} (n : Nat) (k : Nat → β) : forceN n k = k n := by cases n <;> rfl
def lim : IntKind → Nat
  | .i8 => 128 | .i16 => 32768 | .i32 => 2147483648 | .i64 => 9223372036854775808
  | .u8 => 256 | .u16 => 65536 | .u32 => 4294967296 | .u64 => 18446744073709551616
noncomputable def intK (kd : IntKind) (z : Int) (k : AV → Bool) : Bool :=
  Int.rec (motive := fun _ => Bool)
    (fun n => Bool.rec (k (.int kd (kd.wrap (.ofNat n)))) (forceN n fun n => k (.int kd (.ofNat n))) (Nat.blt n (lim kd)))
    (fun n => Bool.rec (k (.int kd (kd.wrap (.negSucc n)))) (forceN n fun n => k (.int kd (.negSucc n))) (Bool.and kd.signed (Nat.blt n (lim kd)))) z
theorem wrap_nat (kd : IntKind) (n : Nat) (h : n < lim kd) : kd.wrap (Int.ofNat n) = Int.ofNat n := by
  have h' : Int.ofNat n = (n : Int) := rfl
  rw [h']
  cases kd <;> simp only [lim] at h
  · exact IntWalk.i8_in _ (by omega)
  · exact IntWalk.i16_in _ (by omega)
  · exact IntWalk.i32_in _ (by omega)
  · exact IntWalk.i64_in _ (by omega)
  · exact IntWalk.u8_in _ (by omega)
  · exact IntWalk.u16_in _ (by omega)
  · exact IntWalk.u32_in _ (by omega)
  · exact IntWalk.u64_in _ (by omega)
theorem wrap_neg (kd : IntKind) (n : Nat) (hs : kd.signed = true) (h : n < lim kd) : kd.wrap (Int.negSucc n) = Int.negSucc n := by
  have h' : Int.negSucc n = -(n : Int) - 1 := by omega
  rw [h']
  cases kd <;> simp only [lim] at h <;> simp only [IntKind.signed, Bool.false_eq_true] at hs
  · exact IntWalk.i8_in _ (by omega)
  · exact IntWalk.i16_in _ (by omega)
  · exact IntWalk.i32_in _ (by omega)
  · exact IntWalk.i64_in _ (by omega)
theorem intK_eq (kd : IntKind) (z : Int) (k : AV → Bool) : intK kd z k = k (.int kd (kd.wrap z)) := by
  cases z with
  | ofNat n =>
    show Bool.rec (motive := fun _ => Bool) _ _ (Nat.blt n (lim kd)) = _
    cases h : Nat.blt n (lim kd) with
    | false => rfl
    | true =>
      have : n < lim kd := by simpa [Nat.blt_eq] using h
      simp only [forceN_eq, wrap_nat kd n this]
  | negSucc n =>
    show Bool.rec (motive := fun _ => Bool) _ _ (Bool.and kd.signed (Nat.blt n (lim kd))) = _
    cases h : Bool.and kd.signed (Nat.blt n (lim kd)) with
    | false => rfl
    | true =>
      have : kd.signed = true ∧ n < lim kd := by simpa [Nat.blt_eq] using h
      simp only [forceN_eq, wrap_neg kd n this.1 this.2]
noncomputable def kdEq (a b : IntKind) : Bool := Nat.beq (lim a) (lim b)
theorem kdEq_iff {a b : IntKind} : kdEq a b = true → a = b := by cases a <;> cases b <;> simp [kdEq, lim]
noncomputable def AV.ckInts (a b : AV) (f : IntKind → Int → Int → Bool) : Bool := a.ckInt fun k x => b.ckInt fun k' y => Bool.rec false (f k x y) (kdEq k k')
theorem ckInts_iff {a b : AV} {f : IntKind → Int → Int → Bool} (h : a.ckInts b f = true) : ∃ k x y, a = .int k x ∧ b = .int k y ∧ f k x y = true := by
  obtain ⟨k, x, e1, h1⟩ := ckInt_iff.1 h
  obtain ⟨k', y, e2, h2⟩ := ckInt_iff.1 h1
  subst e1 e2
  cases hk : kdEq k k' with
  | false => simp [hk] at h2
  | true =>
    have := kdEq_iff hk
    subst this
    exact ⟨k, x, y, rfl, rfl, by simpa [hk] using h2⟩
noncomputable def ltZ (x y : Int) : Bool :=
  Int.rec (motive := fun _ => Bool) (fun m => Int.rec (motive := fun _ => Bool) (fun n => Nat.blt m n) (fun _ => false) y) (fun m => Int.rec (motive := fun _ => Bool) (fun _ => true) (fun n => Nat.blt n m) y) x
noncomputable def eqZ (x y : Int) : Bool :=
  Int.rec (motive := fun _ => Bool) (fun m => Int.rec (motive := fun _ => Bool) (fun n => Nat.beq m n) (fun _ => false) y) (fun m => Int.rec (motive := fun _ => Bool) (fun _ => false) (fun n => Nat.beq m n) y) x
theorem blt_eq (a b : Nat) : Nat.blt a b = decide (a < b) := by rw [Bool.eq_iff_iff]; simp [Nat.blt_eq]
theorem ltZ_eq (x y : Int) : ltZ x y = decide (x < y) := by
  cases x with
  | ofNat m =>
    cases y with
    | ofNat n => show Nat.blt m n = _; rw [blt_eq, decide_eq_decide]; show m < n ↔ (m : Int) < (n : Int); omega
    | negSucc n => show false = _; rw [eq_comm, decide_eq_false_iff_not]; show ¬ (m : Int) < _; omega
  | negSucc m =>
    cases y with
    | ofNat n => show true = _; rw [eq_comm, decide_eq_true_iff]; show _ < (n : Int); omega
    | negSucc n => show Nat.blt n m = _; rw [blt_eq, decide_eq_decide]; omega
theorem eqZ_eq (x y : Int) : eqZ x y = (x == y) := by
  rw [Bool.eq_iff_iff, beq_iff_eq]
  cases x with
  | ofNat m =>
    cases y with
    | ofNat n => show Nat.beq m n = true ↔ _; rw [Nat.beq_eq]; show m = n ↔ (m : Int) = (n : Int); omega
    | negSucc n => show false = true ↔ _; constructor <;> intro h <;> cases h
  | negSucc m =>
    cases y with
    | ofNat n => show false = true ↔ _; constructor <;> intro h <;> cases h
    | negSucc n => show Nat.beq m n = true ↔ _; rw [Nat.beq_eq]; omega
end Ev
namespace Ev
open Go
open Go.RowKit
def fnOk : Fn → Bool
  | .yield _ => false
  | _ => true
theorem fnC_ok {θ : Theta} {f : Fn} (h : fnOk f = true) : fnC θ f = some f := by cases f <;> first | rfl | cases h
def absS : Value → AV
  | .bool b => .bool b
  | .int k n => .int k n
  | .string s => .str s.size (codeOf s.data.toList)
  | .pointer none => .nilp
  | .slice none 0 0 => .nils
  | .map none => .nilm
  | .nilFunc => .nilf
  | .nilIface => .nili
  | .func f a b => if fnOk f && (a.isEmpty && b.isEmpty) then .fn f [] [] else .bad
  | _ => .bad
def AV.isOk : AV → Bool
  | .bad => false
  | _ => true
def absV : Value → AV
  | .agg cs => let l := cs.toList.map absS; if l.all AV.isOk then .agg l else .bad
  | .tuple cs => let l := cs.toList.map absS; if l.all AV.isOk then .tup l else .bad
  | .iface t v => let a := absS v; if a.isOk then .iface t a else .bad
  | v => absS v
theorem strOf_codeOf (s : ByteArray) : strOf s.size (codeOf s.data.toList) = s := by
  obtain ⟨⟨l⟩⟩ := s
  show strOf l.length (codeOf l) = _
  simp [strOf, bytesOf_codeOf]
theorem absS_ok (θ : Theta) (v : Value) : VR θ (absS v) v := by
  cases v with
  | bool b => exact .inr (by simp [absS, conc])
  | int k n => exact .inr (by simp [absS, conc])
  | string s => exact .inr (by simp only [absS, conc]; rw [strOf_codeOf])
  | pointer a => cases a with
    | none => exact .inr (by simp [absS, conc])
    | some a => exact .inl rfl
  | slice a n c =>
    cases a with
    | none =>
      cases n with
      | zero => cases c with
        | zero => exact .inr (by simp [absS, conc])
        | succ c => exact .inl rfl
      | succ n => exact .inl rfl
    | some a => exact .inl rfl
  | map r => cases r with
    | none => exact .inr (by simp [absS, conc])
    | some r => exact .inl rfl
  | func f a b =>
    simp only [absS]
    split
    · rename_i h
      simp only [Bool.and_eq_true, Array.isEmpty_iff] at h
      obtain ⟨hf, rfl, rfl⟩ := h
      exact .inr (by simp [conc, concs, fnC_ok hf])
    · exact .inl rfl
  | nilFunc => exact .inr (by simp [absS, conc])
  | nilIface => exact .inr (by simp [absS, conc])
  | _ => exact .inl rfl
theorem isOk_ne {a : AV} (h : a.isOk = true) : a ≠ .bad := by cases a <;> simp [AV.isOk] at h ⊢
theorem VR.conc {θ : Theta} {a : AV} {v : Value} (h : VR θ a v) (ha : a ≠ .bad) : conc θ a = some v := h.resolve_left ha
theorem absS_list (θ : Theta) : ∀ (l : List Value), (l.map absS).all AV.isOk = true → concs θ (l.map absS) = some l
  | [], _ => rfl
  | v :: l, h => by
    simp only [List.map_cons, List.all_cons, Bool.and_eq_true] at h
    exact concs_cons.2 ⟨v, l, (absS_ok θ v).conc (isOk_ne h.1), absS_list θ l h.2, rfl⟩
theorem absV_ok (θ : Theta) (v : Value) : VR θ (absV v) v := by
  cases v with
  | agg cs =>
    simp only [absV]
    split
    · rename_i h
      exact .inr (by simp [Ev.conc, absS_list θ cs.toList h])
    · exact .inl rfl
  | tuple cs =>
    simp only [absV]
    split
    · rename_i h
      exact .inr (by simp [Ev.conc, absS_list θ cs.toList h])
    · exact .inl rfl
  | iface t v =>
    simp only [absV]
    split
    · rename_i h
      exact .inr (by simp [Ev.conc, (absS_ok θ v).conc (isOk_ne h)])
    · exact .inl rfl
  | bool b => exact absS_ok θ (.bool b)
  | int k n => exact absS_ok θ (.int k n)
  | float k b => exact absS_ok θ (.float k b)
  | complex k a b => exact absS_ok θ (.complex k a b)
  | string s => exact absS_ok θ (.string s)
  | pointer a => exact absS_ok θ (.pointer a)
  | slice a n c => exact absS_ok θ (.slice a n c)
  | map r => exact absS_ok θ (.map r)
  | chan r => exact absS_ok θ (.chan r)
  | func f x y => exact absS_ok θ (.func f x y)
  | nilFunc => exact absS_ok θ .nilFunc
  | nilIface => exact absS_ok θ .nilIface
def GlobOK (P : Program) (θ : Theta) : Prop := ∀ g, g < P.globals.size → ∃ sz, θ.blk g = some ⟨g, 0, sz⟩
theorem GlobOK.le {P : Program} {θ θ' : Theta} (h : GlobOK P θ) (k : θ.le θ') : GlobOK P θ' := fun g hg => let ⟨sz, e⟩ := h g hg; ⟨sz, k.1 _ _ e⟩
def ev (P : Program) (env : List AV) : Operand → AV
  | .tmp t => env.getD t .bad
  | .const v => absV v
  | .global g => if g < P.globals.size then .ptr g 0 else .bad
  | .func f => .fn (.func f) [] []
theorem ev_ok {P : Program} {θ : Theta} {env : List AV} {a : Act} (hg : GlobOK P θ) (x : Operand) (h : ∀ t, x = .tmp t → VR θ (env.getD t .bad) (a.tmps.getD t undef)) : VR θ (ev P env x) (a.eval x) := by
  cases x with
  | tmp t => exact h t rfl
  | const v => exact absV_ok θ v
  | global g =>
    simp only [ev]
    split
    · rename_i hlt
      obtain ⟨sz, e⟩ := hg g hlt
      exact .inr (by simp [Ev.conc, e, Loc.addr, Act.eval])
    · exact .inl rfl
  | func f => exact .inr (by simp [Ev.conc, concs, ev, Act.eval, fnC])
def Opd (P : Program) (θ : Theta) (env : List AV) (o : Oper) (a : Act) : Prop := ∀ x ∈ o.op.operands, VR θ (ev P env x) (a.eval x)
def PureSpec (P : Program) (env : List AV) (o : Oper) (v : AV) : Prop :=
  ∀ (θ : Theta) (a : Act) (w : World), Opd P θ env o a → ∃ v', (execOp a.eval o).run P w = .ok (.value v') w ∧ VR θ v v'
theorem VR.bool {θ : Theta} {b : Bool} {v : Value} (h : VR θ (.bool b) v) : v = .bool b := by
  have := h.conc (by simp); simp [Ev.conc] at this; exact this.symm
theorem VR.int {θ : Theta} {k : IntKind} {n : Int} {v : Value} (h : VR θ (.int k n) v) : v = .int k n := by
  have := h.conc (by simp); simp [Ev.conc] at this; exact this.symm
theorem VR.str {θ : Theta} {n c : Nat} {v : Value} (h : VR θ (.str n c) v) : v = .string (strOf n c) := by
  have := h.conc (by simp); simp [Ev.conc] at this; exact this.symm
theorem VR.nilp {θ : Theta} {v : Value} (h : VR θ .nilp v) : v = .pointer none := by
  have := h.conc (by simp); simp [Ev.conc] at this; exact this.symm
theorem VR.ptr {θ : Theta} {b o : Nat} {v : Value} (h : VR θ (.ptr b o) v) : ∃ l, θ.blk b = some l ∧ v = .pointer (some (l.addr o)) := by
  have := h.conc (by simp); simp only [Ev.conc, Option.map_eq_some_iff] at this
  obtain ⟨l, hl, e⟩ := this; exact ⟨l, hl, e.symm⟩
theorem VR.nils {θ : Theta} {v : Value} (h : VR θ .nils v) : v = .slice none 0 0 := by
  have := h.conc (by simp); simp [Ev.conc] at this; exact this.symm
theorem VR.nilm {θ : Theta} {v : Value} (h : VR θ .nilm v) : v = .map none := by
  have := h.conc (by simp); simp [Ev.conc] at this; exact this.symm
theorem VR.map {θ : Theta} {b : Nat} {v : Value} (h : VR θ (.map b) v) : ∃ l, θ.blk b = some l ∧ v = .map (some l.blk) := by
  have := h.conc (by simp); simp only [Ev.conc, Option.map_eq_some_iff] at this
  obtain ⟨l, hl, e⟩ := this; exact ⟨l, hl, e.symm⟩
def Cap.of (c : Cap) (l : Loc) (o : Nat) : Nat := match c with | .known n => n | .opn es => (l.size - o) / es
def Cap.ok (c : Cap) (l : Loc) (o len : Nat) : Prop := match c with | .known _ => True | .opn es => len ≤ (l.size - o) / es
theorem VR.sl' {θ : Theta} {b o len : Nat} {cap : Cap} {v : Value} (h : VR θ (.sl b o len cap) v) : ∃ l, θ.blk b = some l ∧ v = .slice (some (l.addr o)) len (cap.of l o) ∧ cap.ok l o len := by
  have := h.conc (by simp)
  cases cap with
  | known c =>
    simp only [Ev.conc, Option.map_eq_some_iff] at this
    obtain ⟨l, hl, e⟩ := this
    exact ⟨l, hl, e.symm, trivial⟩
  | opn es =>
    simp only [Ev.conc, Option.bind_eq_some_iff] at this
    obtain ⟨l, hl, e⟩ := this
    split at e
    · rename_i hle
      injection e with e
      exact ⟨l, hl, e.symm, hle⟩
    · cases e
theorem VR.sl {θ : Theta} {b o len : Nat} {cap : Cap} {v : Value} (h : VR θ (.sl b o len cap) v) : ∃ l, θ.blk b = some l ∧ v = .slice (some (l.addr o)) len (cap.of l o) :=
  let ⟨l, hl, e, _⟩ := h.sl'; ⟨l, hl, e⟩
theorem conc_sl {θ : Theta} {b o len : Nat} {cap : Cap} {l : Loc} (h : θ.blk b = some l) (hc : cap.ok l o len) : conc θ (.sl b o len cap) = some (.slice (some (l.addr o)) len (cap.of l o)) := by
  cases cap with
  | known c => simp [Ev.conc, h, Cap.of]
  | opn es => simp only [Ev.conc, h, Option.bind_some, Cap.of]; exact if_pos hc
theorem conc_slk {θ : Theta} {b o len c : Nat} {l : Loc} (h : θ.blk b = some l) : conc θ (.sl b o len (.known c)) = some (.slice (some (l.addr o)) len c) := by simp [Ev.conc, h]
theorem VR.agg {θ : Theta} {l : List AV} {v : Value} (h : VR θ (.agg l) v) : ∃ vs, concs θ l = some vs ∧ v = .agg vs.toArray := by
  have := h.conc (by simp); simp only [Ev.conc, Option.map_eq_some_iff] at this
  obtain ⟨l, hl, e⟩ := this; exact ⟨l, hl, e.symm⟩
theorem VR.tup {θ : Theta} {l : List AV} {v : Value} (h : VR θ (.tup l) v) : ∃ vs, concs θ l = some vs ∧ v = .tuple vs.toArray := by
  have := h.conc (by simp); simp only [Ev.conc, Option.map_eq_some_iff] at this
  obtain ⟨l, hl, e⟩ := this; exact ⟨l, hl, e.symm⟩
theorem VR.fn {θ : Theta} {f : Fn} {x y : List AV} {v : Value} (h : VR θ (.fn f x y) v) : ∃ xs ys g, fnC θ f = some g ∧ concs θ x = some xs ∧ concs θ y = some ys ∧ v = .func g xs.toArray ys.toArray := by
  have := h.conc (by simp); simp only [Ev.conc] at this
  cases h1 : concs θ x with
  | none => simp [h1] at this
  | some xs =>
    cases h2 : concs θ y with
    | none => simp [h1, h2] at this
    | some ys =>
      simp only [h1, h2, Option.map_eq_some_iff] at this
      obtain ⟨g, hg, this⟩ := this
      exact ⟨xs, ys, g, hg, rfl, rfl, this.symm⟩
theorem Loc.addr_add (l : Loc) (o n : Nat) : (l.addr o).add n = l.addr (o + n) := by
  unfold Addr.add Loc.addr
  split
  · rename_i h; subst h; rfl
  · simp [Nat.add_assoc]
end Ev
namespace Ev
open Go
open Go.RowKit
noncomputable section
theorem Opd.at {P : Program} {θ : Theta} {env : List AV} {o : Oper} {a : Act} (h : Opd P θ env o a) {x : Operand} (hx : x ∈ o.op.operands) : VR θ (ev P env x) (a.eval x) := h x hx
def pickK (c a b : AV) (k : AV → Bool) : Bool := c.ckBool fun t => Bool.rec (k b) (k a) t
theorem pure_pick {P : Program} {env : List AV} {o : Oper} {c a b : Operand} {k : AV → Bool} (ho : o.op = .pick c a b)
    (h : pickK (ev P env c) (ev P env a) (ev P env b) k = true) : ∃ v, k v = true ∧ PureSpec P env o v := by
  obtain ⟨t, hc, h⟩ := ckBool_iff.1 h
  cases t with
  | true =>
    refine ⟨_, h, fun θ ac w hO => ⟨ac.eval a, ?_, hO.at (by simp [ho, Op.operands])⟩⟩
    have hv := hO.at (x := c) (by simp [ho, Op.operands])
    rw [hc] at hv
    simp [execOp, ho, hv.bool, asBool]
  | false =>
    refine ⟨_, h, fun θ ac w hO => ⟨ac.eval b, ?_, hO.at (by simp [ho, Op.operands])⟩⟩
    have hv := hO.at (x := c) (by simp [ho, Op.operands])
    rw [hc] at hv
    simp [execOp, ho, hv.bool, asBool]
theorem pure_move {P : Program} {env : List AV} {o : Oper} {x : Operand} {k : AV → Bool} (ho : o.op = .move x ∨ o.op = .assign x)
    (h : k (ev P env x) = true) : ∃ v, k v = true ∧ PureSpec P env o v :=
  ⟨_, h, fun θ ac w hO => ⟨ac.eval x, by rcases ho with ho | ho <;> simp [execOp, ho], hO.at (by rcases ho with ho | ho <;> simp [ho, Op.operands])⟩⟩
theorem VR.symS {θ : Theta} {b s lo hi k es : Nat} {v : Value} (h : VR θ (.sym (.spl b s lo hi k es)) v) : ∃ (z : Nat) (l : Loc), θ.num s lo hi = some (z : Int) ∧ θ.blk b = some l ∧ lo ≤ z ∧ 0 < es ∧ z + k ≤ l.size / es ∧ v = .slice (some (l.addr 0)) (z + k) (l.size / es) := by
  have h := h.conc (by simp)
  simp only [Ev.conc, SymT.conc, Option.bind_eq_some_iff] at h
  obtain ⟨z, hz, l, hl, h⟩ := h
  unfold Theta.spl at h
  split at h
  · rename_i hc
    injection h with h
    obtain ⟨_, h1, _⟩ := num_some hz
    obtain ⟨y, rfl⟩ : ∃ y : Nat, z = y := ⟨z.toNat, by omega⟩
    exact ⟨y, l, hz, hl, by omega, hc.1, by simpa using hc.2, by simpa using h.symm⟩
  · cases h
theorem VR.symP {θ : Theta} {b s lo hi es o : Nat} {v : Value} (h : VR θ (.sym (.ptr b s lo hi es o)) v) : ∃ (z : Nat) (l : Loc), θ.num s lo hi = some (z : Int) ∧ θ.blk b = some l ∧ lo ≤ z ∧ v = .pointer (some (l.addr (z * es + o))) := by
  have h := h.conc (by simp)
  simp only [Ev.conc, SymT.conc, Option.bind_eq_some_iff, Option.map_eq_some_iff] at h
  obtain ⟨z, hz, l, hl, h⟩ := h
  obtain ⟨_, h1, _⟩ := num_some hz
  obtain ⟨y, rfl⟩ : ∃ y : Nat, z = y := ⟨z.toNat, by omega⟩
  exact ⟨y, l, hz, hl, by omega, by simpa using h.symm⟩
theorem VR.symN {θ : Theta} {s lo hi : Nat} {c : Int} {v : Value} (h : VR θ (.sym (.int s lo hi c)) v) : ∃ z : Nat, θ.num s lo hi = some (z : Int) ∧ v = .int .i64 (z + c) := by
  have h := h.conc (by simp)
  simp only [Ev.conc, SymT.conc, Option.map_eq_some_iff] at h
  obtain ⟨z, hz, h⟩ := h
  obtain ⟨_, h1, _⟩ := num_some hz
  obtain ⟨y, rfl⟩ : ∃ y : Nat, z = y := ⟨z.toNat, by omega⟩
  exact ⟨y, hz, h.symm⟩
theorem num_same {θ : Theta} {s lo hi lo' hi' : Nat} {z y : Int} (h : θ.num s lo hi = some z) (h' : θ.num s lo' hi' = some y) : y = z := by
  obtain ⟨e1, _⟩ := num_some h
  obtain ⟨e2, _⟩ := num_some h'
  rw [e1] at e2
  injection e2 with e2
  injection e2 with _ e2
  exact e2.symm
def faddrK (off : Nat) (x : AV) (k : AV → Bool) : Bool := x.ckPS (fun b o => forceN (Nat.add o off) fun q => k (.ptr b q)) fun t => t.ckP fun b s lo hi es o => forceN (Nat.add o off) fun q => k (.sym (.ptr b s lo hi es q))
def fieldOff (P : Program) (s f : Nat) : Option Nat :=
  match P.underlying s with
  | some (.struct fields) => match fields[f]? with
    | some fl => if P.cellsOf fl.type = 0 then none else some fl.offset
    | none => none
  | _ => none
theorem info_of_cells {P : Program} {t : TypeId} (h : P.cellsOf t ≠ 0) : ∃ i, P.info? t = some i ∧ i.size = P.cellsOf t := by
  unfold Program.cellsOf at h ⊢
  cases hi : P.info? t with
  | none => simp [hi] at h
  | some i => exact ⟨i, rfl, by simp⟩
theorem run_fieldAt {P : Program} {s f off : Nat} (hf : fieldOff P s f = some off) (l : Loc) (o : Nat) (w : World) :
    (Instr.fieldAt s (.pointer (some (l.addr o))) f).run P w = .ok (.pointer (some (l.addr (o + off)))) w := by
  unfold fieldOff at hf
  split at hf
  · rename_i fields hu
    split at hf
    · rename_i fl hfl
      split at hf
      · cases hf
      · rename_i hz
        injection hf with hf
        obtain ⟨i, hi, hsz⟩ := info_of_cells hz
        simp [Instr.fieldAt, run_underlying hu, hfl, Instr.sureAddr, fieldPlace, run_sizeOf w hi, hz, Loc.addr_add, hf]
    · cases hf
  · cases hf
def fieldAddrE (P : Program) (s : Nat) (x : AV) (f : Nat) (k : AV → Bool) : Bool :=
  match fieldOff P s f with
  | some off => faddrK off x k
  | none => false
theorem pure_fieldAddr {P : Program} {env : List AV} {o : Oper} {s f : Nat} {x : Operand} {k : AV → Bool} (ho : o.op = .fieldAddr s x f)
    (h : fieldAddrE P s (ev P env x) f k = true) : ∃ v, k v = true ∧ PureSpec P env o v := by
  unfold fieldAddrE at h
  split at h
  · rename_i off hoff
    rcases ckPS_iff h with ⟨t, hx, h⟩ | h
    · obtain ⟨b, s', lo, hi, es, q, et, h0⟩ := SymT.ckP_iff h
      clear h
      subst et
      have h := h0
      clear h0
      rw [forceN_eq] at h
      refine ⟨_, h, fun θ ac w hO => ?_⟩
      have hv := hO.at (x := x) (by simp [ho, Op.operands])
      rw [hx] at hv
      obtain ⟨z, l, hz, hl, _, hv⟩ := hv.symP
      refine ⟨.pointer (some (l.addr (z * es + (q + off)))), ?_, .inr (by simp [Ev.conc, SymT.conc, hz, hl])⟩
      simp [execOp, ho, hv, run_fieldAt hoff, Nat.add_assoc]
    obtain ⟨b, q, hx, h⟩ := ckPtr_iff.1 h
    rw [forceN_eq] at h
    refine ⟨_, h, fun θ ac w hO => ?_⟩
    have hv := hO.at (x := x) (by simp [ho, Op.operands])
    rw [hx] at hv
    obtain ⟨l, hl, hv⟩ := hv.ptr
    refine ⟨.pointer (some (l.addr (q + off))), ?_, .inr (by simp [Ev.conc, hl])⟩
    simp [execOp, ho, hv, run_fieldAt hoff]
  · cases h
def natOf (z : Int) (f : Nat → Bool) : Bool := Int.rec (motive := fun _ => Bool) (fun n => f n) (fun _ => false) z
theorem natOf_iff {z : Int} {f : Nat → Bool} : natOf z f = true ↔ ∃ n : Nat, z = n ∧ f n = true := by
  cases z with
  | ofNat n =>
    refine ⟨fun h => ⟨n, rfl, h⟩, fun ⟨m, e, h⟩ => ?_⟩
    have e' : n = m := Int.ofNat.inj e
    subst e'
    exact h
  | negSucc n => exact ⟨fun h => (Bool.false_ne_true h).elim, fun ⟨m, e, _⟩ => by cases e⟩
def ifB (c : Bool) (a : Bool) : Bool := Bool.rec false a c
theorem ifB_iff {c a : Bool} : ifB c a = true ↔ c = true ∧ a = true := by cases c <;> simp [ifB]
def iaddrK (es : Nat) (a i : AV) (k : AV → Bool) : Bool :=
  a.ckSS false (fun b o len _ => i.ckInt fun _ z => natOf z fun n => ifB (Nat.blt n len) (forceN (Nat.add o (Nat.mul n es)) fun q => k (.ptr b q))) (fun _ _ _ _ => false)
    fun t => t.ckS fun b s lo hi n es' => ifB (Nat.beq es' es) (i.orSym (i.ckInt fun _ z => natOf z fun c => ifB (Nat.blt c lo) (forceN (Nat.mul c es) fun q => k (.ptr b q)))
      fun u => u.ckI fun s' _ _ c => ifB (Nat.beq s s') (natOf c fun c => ifB (Nat.blt c n) (forceN (Nat.mul c es) fun q => k (.sym (.ptr b s lo hi es q)))))
def iaddrAK (len es : Nat) (a i : AV) (k : AV → Bool) : Bool :=
  a.ckPtr fun b o => i.ckInt fun _ z => natOf z fun n => ifB (Nat.blt n len) (forceN (Nat.add o (Nat.mul n es)) fun q => k (.ptr b q))
def indexAddrE (P : Program) (t : Nat) (x i : AV) (k : AV → Bool) : Bool :=
  match P.underlying t with
  | some (.slice e) => iteS (P.cellsOf e = 0) false (iaddrK (P.cellsOf e) x i k)
  | some (.array n e) => iteS (P.cellsOf e = 0) false (iaddrAK n (P.cellsOf e) x i k)
  | _ => false
theorem pure_indexAddr {P : Program} {env : List AV} {o : Oper} {t : Nat} {x i : Operand} {k : AV → Bool} (ho : o.op = .indexAddr t x i)
    (h : indexAddrE P t (ev P env x) (ev P env i) k = true) : ∃ v, k v = true ∧ PureSpec P env o v := by
  unfold indexAddrE at h
  simp only [iteS_eq] at h
  split at h
  · rename_i e hu
    split at h
    · cases h
    · rename_i hz
      obtain ⟨inf, hi, hsz⟩ := info_of_cells hz
      rcases ckSS_iff h with ⟨t', hx, h⟩ | h
      · obtain ⟨b, s, lo, hi', m, es, et, h0⟩ := SymT.ckS_iff h
        clear h
        subst et
        obtain ⟨hes, h⟩ := ifB_iff.1 h0
        clear h0
        have hes : es = P.cellsOf e := by simpa using hes
        subst hes
        rcases orSym_iff h with ⟨u, hy, h0⟩ | h0
        · clear h
          obtain ⟨s', lo', hi'', c, et, h1⟩ := SymT.ckI_iff h0
          clear h0
          subst et
          obtain ⟨hs, h2⟩ := ifB_iff.1 h1
          clear h1
          have hs : s = s' := by simpa using hs
          subst hs
          obtain ⟨n, ec, h3⟩ := natOf_iff.1 h2
          clear h2
          subst ec
          obtain ⟨hlt, h⟩ := ifB_iff.1 h3
          clear h3
          rw [forceN_eq] at h
          have hlt : n < m := by simpa [Nat.blt_eq] using hlt
          refine ⟨_, h, fun θ ac w hO => ?_⟩
          have hv := hO.at (x := x) (by simp [ho, Op.operands])
          have hn := hO.at (x := i) (by simp [ho, Op.operands])
          rw [hx] at hv; rw [hy] at hn
          obtain ⟨z, l, hz, hl, hle, _, _, hv⟩ := hv.symS
          obtain ⟨y, hz', hn⟩ := hn.symN
          obtain rfl : y = z := by have := num_same hz hz'; omega
          refine ⟨.pointer (some (l.addr (y * P.cellsOf e + n * P.cellsOf e))), ?_, .inr (by simp [Ev.conc, SymT.conc, hz, hl])⟩
          have h1 : (0 : Int) ≤ (y : Int) + (n : Int) ∧ (y : Int) + (n : Int) < ((y + m : Nat) : Int) := by omega
          have h3 : ((y : Int) + (n : Int)).toNat = y + n := by omega
          simp [execOp, ho, hv, hn, Instr.indexAt, asIntOf, run_underlying hu, h1, h3, run_sizeOf w hi, Loc.addr_add, Nat.add_mul]
          omega
        · clear h
          obtain ⟨kd, zi, hy, h1⟩ := ckInt_iff.1 h0
          clear h0
          obtain ⟨n, ec, h2⟩ := natOf_iff.1 h1
          clear h1
          subst ec
          obtain ⟨hlt, h⟩ := ifB_iff.1 h2
          clear h2
          rw [forceN_eq] at h
          have hlt : n < lo := by simpa [Nat.blt_eq] using hlt
          refine ⟨_, h, fun θ ac w hO => ?_⟩
          have hv := hO.at (x := x) (by simp [ho, Op.operands])
          have hn := hO.at (x := i) (by simp [ho, Op.operands])
          rw [hx] at hv; rw [hy] at hn
          obtain ⟨z, l, hz, hl, hle, _, _, hv⟩ := hv.symS
          have hn := hn.int
          refine ⟨.pointer (some (l.addr (n * P.cellsOf e))), ?_, .inr (by simp [Ev.conc, hl])⟩
          have h1 : (0 : Int) ≤ (n : Int) ∧ (n : Int) < ((z + m : Nat) : Int) := by omega
          have h2 : ¬ z + m ≤ n := by omega
          simp [execOp, ho, hv, hn, Instr.indexAt, asIntOf, run_underlying hu, h1, h2, run_sizeOf w hi, Loc.addr_add]
      rcases ckSl_iff.1 h with ⟨_, h⟩ | ⟨b, q, len, cap, hx, h⟩ | ⟨_, _, _, _, _, h⟩
      · cases h
      · obtain ⟨kd, z, hi', h⟩ := ckInt_iff.1 h
        obtain ⟨n, rfl, h⟩ := natOf_iff.1 h
        obtain ⟨hlt, h⟩ := ifB_iff.1 h
        rw [forceN_eq] at h
        refine ⟨_, h, fun θ ac w hO => ?_⟩
        have hv := hO.at (x := x) (by simp [ho, Op.operands])
        have hn := hO.at (x := i) (by simp [ho, Op.operands])
        rw [hx] at hv; rw [hi'] at hn
        obtain ⟨l, hl, hv⟩ := hv.sl
        have hn := hn.int
        have hlt : n < len := by simpa [Nat.blt_eq] using hlt
        refine ⟨.pointer (some (l.addr (q + n * P.cellsOf e))), ?_, .inr (by simp [Ev.conc, hl])⟩
        have h1 : (0 : Int) ≤ (n : Int) ∧ (n : Int) < (len : Int) := by omega
        have h2 : ¬ len ≤ n := by omega
        simp [execOp, ho, hv, hn, Instr.indexAt, asIntOf, run_underlying hu, h1, h2, run_sizeOf w hi, Loc.addr_add]
      · cases h
  · rename_i len e hu
    split at h
    · cases h
    · rename_i hz
      obtain ⟨inf, hi, hsz⟩ := info_of_cells hz
      obtain ⟨b, q, hx, h⟩ := ckPtr_iff.1 h
      obtain ⟨kd, z, hi', h⟩ := ckInt_iff.1 h
      obtain ⟨n, rfl, h⟩ := natOf_iff.1 h
      obtain ⟨hlt, h⟩ := ifB_iff.1 h
      rw [forceN_eq] at h
      refine ⟨_, h, fun θ ac w hO => ?_⟩
      have hv := hO.at (x := x) (by simp [ho, Op.operands])
      have hn := hO.at (x := i) (by simp [ho, Op.operands])
      rw [hx] at hv; rw [hi'] at hn
      obtain ⟨l, hl, hv⟩ := hv.ptr
      have hn := hn.int
      have hlt : n < len := by simpa [Nat.blt_eq] using hlt
      refine ⟨.pointer (some (l.addr (q + n * P.cellsOf e))), ?_, .inr (by simp [Ev.conc, hl])⟩
      have h1 : (0 : Int) ≤ (n : Int) ∧ (n : Int) < (len : Int) := by omega
      have h2 : ¬ len ≤ n := by omega
      simp [execOp, ho, hv, hn, Instr.indexAt, Instr.sureAddr, asIntOf, run_underlying hu, h1, h2, run_sizeOf w hi, Loc.addr_add]
  · cases h
def nthK (i : Nat) : List AV → (AV → Bool) → Bool :=
  Nat.rec (motive := fun _ => List AV → (AV → Bool) → Bool) (fun l k => List.rec (motive := fun _ => Bool) false (fun a _ _ => k a) l)
    (fun _ ih l k => List.rec (motive := fun _ => Bool) false (fun _ t _ => ih t k) l) i
theorem nthK_iff {k : AV → Bool} : ∀ {i : Nat} {l : List AV}, nthK i l k = true ↔ ∃ a, l[i]? = some a ∧ k a = true
  | 0, [] => by simp [nthK]
  | 0, a :: l => by
    show k a = true ↔ _
    simp
  | i + 1, [] => by simp [nthK]
  | i + 1, a :: l => by
    have h := nthK_iff (k := k) (i := i) (l := l)
    simp only [List.getElem?_cons_succ]
    exact h
def isAggT (P : Program) (t : Nat) : Option Bool :=
  match P.underlying t with
  | some (.struct _) | some (.array ..) => some true
  | some _ => some false
  | none => none
theorem run_isAggT {P : Program} {t : Nat} {b : Bool} (h : isAggT P t = some b) (w : World) : (isAgg t).run P w = .ok b w := by
  unfold isAggT at h
  unfold isAgg
  split at h
  · rename_i f hu; injection h with h; simp [run_underlying hu, h]
  · rename_i n e hu; injection h with h; simp [run_underlying hu, h]
  · rename_i d h1 h2 hu
    injection h with h
    simp only [Sem.run_bind, run_underlying hu, Result.andThen_ok]
    cases d <;> first | exact absurd hu (h1 _) | exact absurd hu (h2 _ _) | simp [h]
  · cases h
def partE (P : Program) (t : Nat) (off : Nat) (l : List AV) (k : AV → Bool) : Bool :=
  match isAggT P t with
  | some true => iteS (P.cellsOf t = 0) false (ifB (Nat.ble (off + P.cellsOf t) l.length) (k (.agg ((l.drop off).take (P.cellsOf t)))))
  | some false => nthK off l k
  | none => false
theorem concs_drop {θ : Theta} : ∀ {l : List AV} {vs : List Value} (n : Nat), concs θ l = some vs → concs θ (l.drop n) = some (vs.drop n)
  | l, vs, 0, h => by simpa using h
  | [], vs, n + 1, h => by simp [concs] at h; subst h; simp [concs]
  | a :: l, vs, n + 1, h => by
    obtain ⟨x, y, _, h2, rfl⟩ := concs_cons.1 h
    simpa using concs_drop n h2
theorem concs_take {θ : Theta} : ∀ {l : List AV} {vs : List Value} (n : Nat), concs θ l = some vs → concs θ (l.take n) = some (vs.take n)
  | l, vs, 0, h => by simp [concs]
  | [], vs, n + 1, h => by simp [concs] at h; subst h; simp [concs]
  | a :: l, vs, n + 1, h => by
    obtain ⟨x, y, h1, h2, rfl⟩ := concs_cons.1 h
    exact concs_cons.2 ⟨x, y.take n, h1, concs_take n h2, rfl⟩
theorem part_ok {P : Program} {t off : Nat} {l : List AV} {k : AV → Bool} (h : partE P t off l k = true) :
    ∃ v, k v = true ∧ ∀ (θ : Theta) (vs : List Value) (w : World), concs θ l = some vs → ∃ v', (part t vs.toArray off).run P w = .ok v' w ∧ Ev.conc θ v = some v' := by
  unfold partE at h
  simp only [iteS_eq] at h
  split at h
  · rename_i ha
    split at h
    · cases h
    · rename_i hz
      obtain ⟨hle, h⟩ := ifB_iff.1 h
      have hle : off + P.cellsOf t ≤ l.length := by simpa using hle
      obtain ⟨i, hi, _⟩ := info_of_cells hz
      refine ⟨_, h, fun θ vs w hc => ⟨.agg ((vs.drop off).take (P.cellsOf t)).toArray, ?_, ?_⟩⟩
      · simp only [part, Sem.run_bind, run_isAggT ha, Result.andThen_ok, if_true, run_sizeOf w hi, Sem.run_pure]
        congr 2
        apply Array.ext'
        simp
      · simp [Ev.conc, concs_take _ (concs_drop _ hc)]
  · rename_i ha
    obtain ⟨a, h1, h2⟩ := nthK_iff.1 h
    refine ⟨a, h2, fun θ vs w hc => ?_⟩
    obtain ⟨v, hv, hc⟩ := concs_getElem hc h1
    refine ⟨v, ?_, hc⟩
    simp [part, run_isAggT ha, hv]
  · cases h
end
end Ev
namespace Ev
open Go
open Go.RowKit
noncomputable section
def fieldE (P : Program) (t : Nat) (x : AV) (f : Nat) (k : AV → Bool) : Bool :=
  match P.underlying t with
  | some (.struct fields) => match fields[f]? with
    | some fl => x.ckAgg fun l => partE P fl.type fl.offset l k
    | none => false
  | _ => false
theorem pure_field {P : Program} {env : List AV} {o : Oper} {t f : Nat} {x : Operand} {k : AV → Bool} (ho : o.op = .field t x f)
    (h : fieldE P t (ev P env x) f k = true) : ∃ v, k v = true ∧ PureSpec P env o v := by
  unfold fieldE at h
  split at h
  · rename_i fields hu
    split at h
    · rename_i fl hfl
      obtain ⟨l, hx, h⟩ := ckAgg_iff.1 h
      obtain ⟨v, hk, hp⟩ := part_ok h
      refine ⟨v, hk, fun θ ac w hO => ?_⟩
      have hv := hO.at (x := x) (by simp [ho, Op.operands])
      rw [hx] at hv
      obtain ⟨vs, hc, hv⟩ := hv.agg
      obtain ⟨v', hr, hc'⟩ := hp θ vs w hc
      exact ⟨v', by simp [execOp, ho, hv, Instr.field, run_underlying hu, hfl, asAgg, hr], .inr hc'⟩
    · cases h
  · cases h
def indexStrK (x i : AV) (k : AV → Bool) : Bool :=
  x.ckStr fun n c => i.ckInt fun _ z => natOf z fun j => ifB (Nat.blt j n) (forceN (Nat.mod (Nat.div c (Nat.pow 256 j)) 256) fun b => k (.int .u8 (.ofNat b)))
theorem bytesOf_get : ∀ (n c j : Nat), j < n → (bytesOf n c)[j]? = some (UInt8.ofNat (c / 256 ^ j % 256))
  | 0, _, _, h => by omega
  | n + 1, c, 0, _ => by simp [bytesOf]
  | n + 1, c, j + 1, h => by
    simp only [bytesOf, List.getElem?_cons_succ]
    rw [bytesOf_get n (c / 256) j (by omega), Nat.div_div_eq_div_mul, Nat.pow_succ, Nat.mul_comm]
theorem strOf_size (n c : Nat) : (strOf n c).size = n := by
  show (bytesOf n c).toArray.size = n
  simp [bytesOf_length]
theorem strOf_get {n c j : Nat} (h : j < n) : (strOf n c)[j]? = some (UInt8.ofNat (c / 256 ^ j % 256)) := by
  have h1 : j < (strOf n c).size := by rw [strOf_size]; exact h
  have h2 := bytesOf_get n c j h
  have h3 : j < (bytesOf n c).length := by rw [bytesOf_length]; exact h
  rw [List.getElem?_eq_getElem h3] at h2
  injection h2 with h2
  rw [getElem?_pos (strOf n c) j h1]
  congr 1
def indexE (P : Program) (t : Nat) (x i : AV) (k : AV → Bool) : Bool :=
  match P.underlying t with
  | some .string => indexStrK x i k
  | some (.array n e) => iteS (P.cellsOf e = 0) false (x.ckAgg fun l => i.ckInt fun _ z => natOf z fun j => ifB (Nat.blt j n) (partE P e (j * P.cellsOf e) l k))
  | _ => false
theorem pure_index {P : Program} {env : List AV} {o : Oper} {t : Nat} {x i : Operand} {k : AV → Bool} (ho : o.op = .index t x i)
    (h : indexE P t (ev P env x) (ev P env i) k = true) : ∃ v, k v = true ∧ PureSpec P env o v := by
  unfold indexE at h
  simp only [iteS_eq] at h
  split at h
  · rename_i hu
    obtain ⟨n, c, hx, h⟩ := ckStr_iff.1 h
    obtain ⟨kd, z, hi, h⟩ := ckInt_iff.1 h
    obtain ⟨j, rfl, h⟩ := natOf_iff.1 h
    obtain ⟨hlt, h⟩ := ifB_iff.1 h
    rw [forceN_eq] at h
    refine ⟨_, h, fun θ ac w hO => ?_⟩
    have hv := hO.at (x := x) (by simp [ho, Op.operands])
    have hn := hO.at (x := i) (by simp [ho, Op.operands])
    rw [hx] at hv; rw [hi] at hn
    have hv := hv.str
    have hn := hn.int
    have hlt : j < n := by simpa [Nat.blt_eq] using hlt
    have hm : c / 256 ^ j % 256 < 256 := Nat.mod_lt _ (by omega)
    refine ⟨.int .u8 ((c / 256 ^ j % 256 : Nat) : Int), ?_, .inr rfl⟩
    simp [execOp, ho, hv, hn, Instr.index, run_underlying hu, asIntOf, strOf_get hlt]
  · rename_i n e hu
    split at h
    · cases h
    · rename_i hz
      obtain ⟨l, hx, h⟩ := ckAgg_iff.1 h
      obtain ⟨kd, z, hi, h⟩ := ckInt_iff.1 h
      obtain ⟨j, rfl, h⟩ := natOf_iff.1 h
      obtain ⟨hlt, h⟩ := ifB_iff.1 h
      obtain ⟨v, hk, hp⟩ := part_ok h
      obtain ⟨inf, hinf, _⟩ := info_of_cells hz
      refine ⟨v, hk, fun θ ac w hO => ?_⟩
      have hv := hO.at (x := x) (by simp [ho, Op.operands])
      have hn := hO.at (x := i) (by simp [ho, Op.operands])
      rw [hx] at hv; rw [hi] at hn
      obtain ⟨vs, hc, hv⟩ := hv.agg
      have hn := hn.int
      obtain ⟨v', hr, hc'⟩ := hp θ vs w hc
      have hlt : j < n := by simpa [Nat.blt_eq] using hlt
      have h2 : ¬ n ≤ j := by omega
      exact ⟨v', by simp [execOp, ho, hv, hn, Instr.index, run_underlying hu, asIntOf, hlt, run_sizeOf w hinf, hr], .inr hc'⟩
  · cases h
theorem pure_extract {P : Program} {env : List AV} {o : Oper} {x : Operand} {i : Nat} {k : AV → Bool} (ho : o.op = .extract x i)
    (h : (ev P env x).ckTup (fun l => nthK i l k) = true) : ∃ v, k v = true ∧ PureSpec P env o v := by
  obtain ⟨l, hx, h⟩ := ckTup_iff.1 h
  obtain ⟨a, h1, h2⟩ := nthK_iff.1 h
  refine ⟨a, h2, fun θ ac w hO => ?_⟩
  have hv := hO.at (x := x) (by simp [ho, Op.operands])
  rw [hx] at hv
  obtain ⟨vs, hc, hv⟩ := hv.tup
  obtain ⟨v, hv', hc⟩ := concs_getElem hc h1
  exact ⟨v, by simp [execOp, ho, hv, Instr.extract, hv'], .inr hc⟩
theorem pure_iface {P : Program} {env : List AV} {o : Oper} {t : Nat} {x : Operand} {k : AV → Bool} (ho : o.op = .makeInterface t x)
    (h : (match P.underlying t with | some (.interface _) | none => false | some _ => (ev P env x).ckOk (k (.iface t (ev P env x)))) = true) : ∃ v, k v = true ∧ PureSpec P env o v := by
  split at h
  · cases h
  · cases h
  · rename_i d hd hu
    obtain ⟨hb, h⟩ := ckOk_iff.1 h
    refine ⟨_, h, fun θ ac w hO => ?_⟩
    have hv := (hO.at (x := x) (by simp [ho, Op.operands])).conc hb
    refine ⟨.iface t (ac.eval x), ?_, .inr (by simp [Ev.conc, hv])⟩
    simp only [execOp, ho, Instr.makeInterface, Sem.run_bind, run_underlying hu, Result.andThen_ok]
    cases d <;> first | exact absurd hu (hd _) | rfl
def okAll : List AV → Bool → Bool
  | [], y => hi y
  | a :: l, y => a.ckOk (okAll l y)
theorem okAll_iff : ∀ {l : List AV} {y : Bool}, okAll l y = true ↔ (∀ a ∈ l, a ≠ .bad) ∧ y = true
  | [], y => by simp [okAll, hi_eq]
  | a :: l, y => by simp [okAll, ckOk_iff, okAll_iff, and_assoc]
theorem concs_map {P : Program} {θ : Theta} {env : List AV} {ac : Act} : ∀ {xs : List Operand}, (∀ x ∈ xs, VR θ (ev P env x) (ac.eval x)) → (∀ a ∈ xs.map (ev P env), a ≠ .bad) →
    concs θ (xs.map (ev P env)) = some (xs.map ac.eval)
  | [], _, _ => rfl
  | x :: xs, h, hb => concs_cons.2 ⟨_, _, (h x (by simp)).conc (hb _ (by simp)), concs_map (fun y hy => h y (by simp [hy])) (fun a ha => hb a (by simp only [List.map_cons, List.mem_cons]; exact .inr ha)), rfl⟩
def mkFuncE (P : Program) (env : List AV) (f : Fn) (first cap : Array Operand) (k : AV → Bool) : Bool :=
  if fnOk f then okAll (first.toList.map (ev P env)) (okAll (cap.toList.map (ev P env)) (k (.fn f (first.toList.map (ev P env)) (cap.toList.map (ev P env))))) else false
theorem pure_makeFunc {P : Program} {env : List AV} {o : Oper} {f : Fn} {first cap : Array Operand} {k : AV → Bool} (ho : o.op = .makeFunc f first cap)
    (h : mkFuncE P env f first cap k = true) : ∃ v, k v = true ∧ PureSpec P env o v := by
  unfold mkFuncE at h
  split at h
  case isFalse => cases h
  rename_i hf
  obtain ⟨h1, h⟩ := okAll_iff.1 h
  obtain ⟨h2, h⟩ := okAll_iff.1 h
  refine ⟨_, h, fun θ ac w hO => ⟨.func f (first.map ac.eval) (cap.map ac.eval), by simp [execOp, ho, Instr.makeFunc], .inr ?_⟩⟩
  have e1 := concs_map (θ := θ) (ac := ac) (xs := first.toList) (fun x hx => hO.at (by simp [ho, Op.operands] at hx ⊢; exact .inl hx)) h1
  have e2 := concs_map (θ := θ) (ac := ac) (xs := cap.toList) (fun x hx => hO.at (by simp [ho, Op.operands] at hx ⊢; exact .inr hx)) h2
  simp only [Ev.conc, e1, e2, fnC_ok hf, Option.map_some]
  congr 2 <;> (apply Array.ext'; simp)
def nilK (x : AV) (k : Bool) : Bool :=
  AV.rec (motive_1 := fun _ => Bool) (motive_2 := fun _ => Bool) false (fun _ => false) (fun _ _ => false) (fun _ _ => false) false (fun _ _ => k) false (fun _ _ _ _ => false) (fun _ _ _ _ => false) false (fun _ => false) (fun f _ _ _ _ => Fn.rec (motive := fun _ => Bool) (fun _ => k) (fun _ => false) (fun _ _ => false) (fun _ _ _ _ => k) (fun _ => k) f) false (fun _ _ _ => k) false (fun _ _ => false) (fun _ _ => false) (fun _ => false) (fun _ => false) false (fun _ _ _ _ => false) x
theorem pure_nilCheck {P : Program} {env : List AV} {o : Oper} {x : Operand} {k : AV → Bool} (ho : o.op = .nilCheck x)
    (h : nilK (ev P env x) (k (ev P env x)) = true) : ∃ v, k v = true ∧ PureSpec P env o v := by
  have key : k (ev P env x) = true ∧ ∀ (θ : Theta) (ac : Act) (w : World), VR θ (ev P env x) (ac.eval x) → (execOp ac.eval o).run P w = .ok (.value (ac.eval x)) w := by
    generalize hx : ev P env x = v at h
    cases v with
    | ptr b q => exact ⟨h, fun θ ac w hv => by obtain ⟨l, _, hv⟩ := hv.ptr; simp [execOp, ho, hv, Loc.addr]⟩
    | iface t y =>
      refine ⟨h, fun θ ac w hv => ?_⟩
      have := hv.conc (by simp); simp only [Ev.conc, Option.map_eq_some_iff] at this
      obtain ⟨y', _, e⟩ := this
      simp [execOp, ho, ← e]
    | fn f a b =>
      cases f with
      | func f => exact ⟨h, fun θ ac w hv => by obtain ⟨_, _, g, hg, _, _, hv⟩ := hv.fn; simp only [fnC, Option.some.injEq] at hg; subst hg; simp [execOp, ho, hv]⟩
      | via t p f q => exact ⟨h, fun θ ac w hv => by obtain ⟨_, _, g, hg, _, _, hv⟩ := hv.fn; simp only [fnC, Option.some.injEq] at hg; subst hg; simp [execOp, ho, hv]⟩
      | yield l =>
        refine ⟨h, fun θ ac w hv => ?_⟩
        obtain ⟨_, _, g, hg, _, _, hv⟩ := hv.fn
        simp only [fnC, Option.map_eq_some_iff] at hg
        obtain ⟨_, _, rfl⟩ := hg
        simp [execOp, ho, hv]
      | _ => cases h
    | _ => cases h
  exact ⟨_, key.1, fun θ ac w hO => ⟨_, key.2 θ ac w (hO.at (by simp [ho, Op.operands])), hO.at (by simp [ho, Op.operands])⟩⟩
end
end Ev
namespace Ev
open Go
open Go.RowKit
noncomputable section
def boolK (b : Bool) (k : AV → Bool) : Bool := Bool.rec (k (.bool false)) (k (.bool true)) b
theorem boolK_eq (b : Bool) (k : AV → Bool) : boolK b k = k (.bool b) := by cases b <;> rfl
def forceZ (z : Int) (k : Int → Bool) : Bool := Int.rec (motive := fun _ => Bool) (fun n => forceN n fun n => k (.ofNat n)) (fun n => forceN n fun n => k (.negSucc n)) z
theorem forceZ_eq (z : Int) (k : Int → Bool) : forceZ z k = k z := by cases z <;> simp [forceZ, forceN_eq]
def binInt (op : BinOp) (kd : IntKind) (x y : Int) (k : AV → Bool) : Bool :=
  match op with
  | .add => intK kd (Int.add x y) k
  | .sub => intK kd (Int.sub x y) k
  | .mul => intK kd (Int.mul x y) k
  | .quo => Bool.rec (intK kd (Int.tdiv x y) k) false (eqZ y 0)
  | .rem => Bool.rec (forceZ (Int.tmod x y) fun z => k (.int kd z)) false (eqZ y 0)
  | .and => intK kd (Int.ofNat (BitVec.ofInt kd.bits x &&& BitVec.ofInt kd.bits y).toNat) k
  | .or => intK kd (Int.ofNat (BitVec.ofInt kd.bits x ||| BitVec.ofInt kd.bits y).toNat) k
  | .xor => intK kd (Int.ofNat (BitVec.ofInt kd.bits x ^^^ BitVec.ofInt kd.bits y).toNat) k
  | .andNot => intK kd (Int.ofNat (BitVec.ofInt kd.bits x &&& ~~~BitVec.ofInt kd.bits y).toNat) k
  | .eql => boolK (eqZ x y) k
  | .neq => boolK (Bool.not (eqZ x y)) k
  | .lss => boolK (ltZ x y) k
  | .leq => boolK (Bool.not (ltZ y x)) k
  | .gtr => boolK (ltZ y x) k
  | .geq => boolK (Bool.not (ltZ x y)) k
  | _ => false
theorem binInt_ok {P : Program} {op : BinOp} {kd : IntKind} {x y : Int} {k : AV → Bool} (h : binInt op kd x y k = true) :
    ∃ v v', k v = true ∧ (∀ θ, Ev.conc θ v = some v') ∧ ∀ (t : TypeId) (w : World), (binOp op t (.int kd x) (.int kd y)).run P w = .ok v' w := by
  cases op <;> simp only [binInt, intK_eq, boolK_eq, forceZ_eq] at h
  case quo =>
    rw [eqZ_eq] at h
    by_cases hy : y = 0
    · simp [hy] at h
    · simp only [beq_eq_false_iff_ne.2 hy] at h
      exact ⟨_, _, h, fun θ => rfl, fun t w => by simp [binOp, Op.intDiv, hy]⟩
  case rem =>
    rw [eqZ_eq] at h
    by_cases hy : y = 0
    · simp [hy] at h
    · simp only [beq_eq_false_iff_ne.2 hy] at h
      exact ⟨_, _, h, fun θ => rfl, fun t w => by simp [binOp, Op.intDiv, hy]⟩
  case add => exact ⟨_, _, h, fun θ => rfl, fun t w => by simp [binOp, Op.intArith]⟩
  case sub => exact ⟨_, _, h, fun θ => rfl, fun t w => by simp [binOp, Op.intArith]; rfl⟩
  case mul => exact ⟨_, _, h, fun θ => rfl, fun t w => by simp [binOp, Op.intArith]⟩
  case and => exact ⟨_, _, h, fun θ => rfl, fun t w => by simp only [binOp, Op.intBits, ne_eq, not_true_eq_false, if_false, Sem.run_pure]; rfl⟩
  case or => exact ⟨_, _, h, fun θ => rfl, fun t w => by simp only [binOp, Op.intBits, ne_eq, not_true_eq_false, if_false, Sem.run_pure]; rfl⟩
  case xor => exact ⟨_, _, h, fun θ => rfl, fun t w => by simp only [binOp, Op.intBits, ne_eq, not_true_eq_false, if_false, Sem.run_pure]; rfl⟩
  case andNot => exact ⟨_, _, h, fun θ => rfl, fun t w => by simp only [binOp, Op.intBits, ne_eq, not_true_eq_false, if_false, Sem.run_pure]; rfl⟩
  case shl => cases h
  case shr => cases h
  case eql => exact ⟨_, .bool (x == y), h, fun θ => by rw [eqZ_eq]; rfl, fun t w => by simp [binOp, Op.intCmp]⟩
  case neq => exact ⟨_, .bool (x != y), h, fun θ => by rw [eqZ_eq]; rfl, fun t w => by simp [binOp, Op.intCmp]⟩
  case lss => exact ⟨_, .bool (x < y), h, fun θ => by rw [ltZ_eq]; rfl, fun t w => by simp [binOp, Op.intCmp]⟩
  case gtr => exact ⟨_, .bool (x > y), h, fun θ => by rw [ltZ_eq]; rfl, fun t w => by simp [binOp, Op.intCmp]⟩
  case leq => exact ⟨_, .bool (x ≤ y), h, fun θ => by rw [ltZ_eq]; simp only [Ev.conc, Option.some.injEq, Value.bool.injEq]; rw [← decide_not]; exact decide_eq_decide.2 (by omega), fun t w => by simp [binOp, Op.intCmp]⟩
  case geq => exact ⟨_, .bool (x ≥ y), h, fun θ => by rw [ltZ_eq]; simp only [Ev.conc, Option.some.injEq, Value.bool.injEq]; rw [← decide_not]; exact decide_eq_decide.2 (by omega), fun t w => by simp [binOp, Op.intCmp]⟩
noncomputable def AV.ckIS (a : AV) (f : IntKind → Int → Bool) (g : Nat → Nat → Nat → Int → Bool) : Bool :=
  AV.rec (motive_1 := fun _ => Bool) (motive_2 := fun _ => Bool) false (fun _ => false) f (fun _ _ => false) false (fun _ _ => false) false (fun _ _ _ _ => false) (fun _ _ _ _ => false) false (fun _ => false) (fun _ _ _ _ _ => false) false (fun _ _ _ => false) false (fun _ _ => false) (fun _ _ => false) (fun _ => false) (fun t => SymT.rec (motive := fun _ => Bool) g (fun _ _ _ _ _ _ => false) (fun _ _ _ _ _ _ => false) t) false (fun _ _ _ _ => false) a
theorem ckIS_iff {a : AV} {f : IntKind → Int → Bool} {g : Nat → Nat → Nat → Int → Bool} (h : a.ckIS f g = true) : (∃ k n, a = .int k n ∧ f k n = true) ∨ (∃ s lo hi c, a = .sym (.int s lo hi c) ∧ g s lo hi c = true) := by
  cases a <;> first | exact (Bool.false_ne_true h).elim | skip
  · exact .inl ⟨_, _, rfl, h⟩
  · rename_i t
    cases t with
    | int s lo hi c => exact .inr ⟨_, _, _, _, rfl, h⟩
    | spl => exact (Bool.false_ne_true h).elim
    | ptr => exact (Bool.false_ne_true h).elim
def symK (s lo hi : Nat) (c : Int) (k : AV → Bool) : Bool :=
  ifB (Bool.and (Nat.ble hi 1099511627776) (Bool.and (ltZ c (.ofNat 1099511627776)) (ltZ (.negSucc 1099511627776) c))) (forceZ c fun c => k (.sym (.int s lo hi c)))
def eqC (lower upper b : Int) (k : Bool → Bool) : Bool := Bool.rec (motive := fun _ => Bool) (ifB (Bool.and (eqZ lower b) (eqZ upper b)) (k true)) (k false) (Bool.or (ltZ upper b) (ltZ b lower))
theorem eqC_ok {lower upper b : Int} {k : Bool → Bool} (h : eqC lower upper b k = true) : ∃ r, k r = true ∧ (∀ k', eqC lower upper b k' = k' r) ∧ ∀ x : Int, lower ≤ x → x ≤ upper → (x == b) = r := by
  unfold eqC at h ⊢
  cases h1 : Bool.or (ltZ upper b) (ltZ b lower) with
  | true =>
    rw [h1] at h
    refine ⟨false, h, fun k' => rfl, fun x hl hu => ?_⟩
    simp only [ltZ_eq, Bool.or_eq_true, decide_eq_true_eq] at h1
    rw [beq_eq_false_iff_ne]
    omega
  | false =>
    rw [h1] at h
    obtain ⟨h2, h⟩ := ifB_iff.1 h
    refine ⟨true, h, fun k' => ?_, fun x hl hu => ?_⟩
    · show ifB _ _ = _
      rw [h2]; rfl
    · simp only [eqZ_eq, Bool.and_eq_true, beq_iff_eq] at h2
      rw [beq_iff_eq]
      omega
def relL (op : BinOp) (lower upper b : Int) (k : AV → Bool) : Bool :=
  match op with
  | .lss => Bool.rec (ifB (Bool.not (ltZ lower b)) (k (.bool false))) (k (.bool true)) (ltZ upper b)
  | .leq => Bool.rec (ifB (ltZ b lower) (k (.bool false))) (k (.bool true)) (Bool.not (ltZ b upper))
  | .gtr => Bool.rec (ifB (Bool.not (ltZ b upper)) (k (.bool false))) (k (.bool true)) (ltZ b lower)
  | .geq => Bool.rec (ifB (ltZ upper b) (k (.bool false))) (k (.bool true)) (Bool.not (ltZ lower b))
  | .eql => eqC lower upper b fun r => k (.bool r)
  | .neq => eqC lower upper b fun r => k (.bool (Bool.not r))
  | _ => false
def symL (op : BinOp) (s lo hi : Nat) (c b : Int) (k : AV → Bool) : Bool :=
  match op with
  | .add => symK s lo hi (Int.add c b) k
  | .sub => symK s lo hi (Int.sub c b) k
  | op => relL op (Int.add (.ofNat lo) c) (Int.add (.ofNat hi) c) b k
def flipOp : BinOp → BinOp
  | .lss => .gtr | .leq => .geq | .gtr => .lss | .geq => .leq | op => op
def symR (op : BinOp) (a : Int) (s lo hi : Nat) (c : Int) (k : AV → Bool) : Bool :=
  match op with
  | .add => symK s lo hi (Int.add a c) k
  | op => relL (flipOp op) (Int.add (.ofNat lo) c) (Int.add (.ofNat hi) c) a k
def symB (op : BinOp) (c d : Int) (k : AV → Bool) : Bool :=
  match op with
  | .sub => intK .i64 (Int.sub c d) k
  | .eql => boolK (eqZ c d) k
  | .neq => boolK (Bool.not (eqZ c d)) k
  | .lss => boolK (ltZ c d) k
  | .leq => boolK (Bool.not (ltZ d c)) k
  | .gtr => boolK (ltZ d c) k
  | .geq => boolK (Bool.not (ltZ c d)) k
  | _ => false
def intsE (op : BinOp) (x y : AV) (k : AV → Bool) : Bool :=
  x.ckIS (fun kd a => y.ckIS (fun kd' b => Bool.rec false (binInt op kd a b k) (kdEq kd kd')) (fun s lo hi c => Bool.rec false (symR op a s lo hi c k) (kdEq kd .i64)))
    (fun s lo hi c => y.ckIS (fun kd' b => Bool.rec false (symL op s lo hi c b k) (kdEq kd' .i64)) (fun s' _ _ d => Bool.rec false (symB op c d k) (Nat.beq s s')))
theorem bin_val {P : Program} {op : BinOp} {kd : IntKind} {x y : Int} {r : AV} (h : ∀ k, binInt op kd x y k = k r) : ∃ v', (∀ θ, Ev.conc θ r = some v') ∧ ∀ (t : TypeId) (w : World), (binOp op t (.int kd x) (.int kd y)).run P w = .ok v' w := by
  classical
  obtain ⟨v, v', hk, hc, hr⟩ := binInt_ok (P := P) (h := (h fun v => decide (v = r)).trans (by simp))
  have : v = r := by simpa using hk
  subst this
  exact ⟨v', hc, hr⟩
theorem symK_ok {s lo hi : Nat} {c : Int} {k : AV → Bool} (h : symK s lo hi c k = true) : k (.sym (.int s lo hi c)) = true ∧ hi ≤ 1099511627776 ∧ c < 1099511627776 ∧ -1099511627777 < c := by
  unfold symK at h
  rw [forceZ_eq] at h
  obtain ⟨h1, h⟩ := ifB_iff.1 h
  simp only [Bool.and_eq_true, ltZ_eq, decide_eq_true_eq] at h1
  obtain ⟨h1, h2, h3⟩ := h1
  have h1 : hi ≤ 1099511627776 := by simpa using h1
  have e1 : (Int.ofNat 1099511627776) = 1099511627776 := rfl
  have e2 : (Int.negSucc 1099511627776) = -1099511627777 := rfl
  rw [e1] at h2; rw [e2] at h3
  exact ⟨h, h1, h2, h3⟩
theorem relL_ok {op : BinOp} {lower upper b : Int} {k : AV → Bool} (h : relL op lower upper b k = true) : ∃ r, k (.bool r) = true ∧ ∀ u : Int, lower ≤ u → u ≤ upper → ∀ k', binInt op .i64 u b k' = k' (.bool r) := by
  cases op <;> simp only [relL, Bool.false_eq_true] at h
  case eql =>
    obtain ⟨r, h, _, hx⟩ := eqC_ok h
    refine ⟨_, h, fun u hl hu k' => ?_⟩
    simp only [binInt, boolK_eq, eqZ_eq]
    rw [hx u hl hu]
  case neq =>
    obtain ⟨r, h, _, hx⟩ := eqC_ok h
    refine ⟨_, h, fun u hl hu k' => ?_⟩
    simp only [binInt, boolK_eq, eqZ_eq]
    rw [hx u hl hu]
  case lss =>
    cases h1 : ltZ upper b with
    | true =>
      rw [h1] at h
      refine ⟨true, h, fun u hl hu k' => ?_⟩
      rw [ltZ_eq, decide_eq_true_eq] at h1
      simp only [binInt, boolK_eq, ltZ_eq]
      congr 2
      rw [decide_eq_true_eq]; omega
    | false =>
      rw [h1] at h
      obtain ⟨h2, h⟩ := ifB_iff.1 h
      refine ⟨false, h, fun u hl hu k' => ?_⟩
      simp only [ltZ_eq, Bool.not_eq_true', decide_eq_false_iff_not] at h2
      simp only [binInt, boolK_eq, ltZ_eq]
      congr 2
      rw [decide_eq_false_iff_not]; omega
  case gtr =>
    cases h1 : ltZ b lower with
    | true =>
      rw [h1] at h
      refine ⟨true, h, fun u hl hu k' => ?_⟩
      rw [ltZ_eq, decide_eq_true_eq] at h1
      simp only [binInt, boolK_eq, ltZ_eq]
      congr 2
      rw [decide_eq_true_eq]; omega
    | false =>
      rw [h1] at h
      obtain ⟨h2, h⟩ := ifB_iff.1 h
      refine ⟨false, h, fun u hl hu k' => ?_⟩
      simp only [ltZ_eq, Bool.not_eq_true', decide_eq_false_iff_not] at h2
      simp only [binInt, boolK_eq, ltZ_eq]
      congr 2
      rw [decide_eq_false_iff_not]; omega
  case leq =>
    cases h1 : Bool.not (ltZ b upper) with
    | true =>
      rw [h1] at h
      refine ⟨true, h, fun u hl hu k' => ?_⟩
      simp only [ltZ_eq, Bool.not_eq_true', decide_eq_false_iff_not] at h1
      simp only [binInt, boolK_eq, ltZ_eq]
      congr 2
      simp only [Bool.not_eq_true', decide_eq_false_iff_not]; omega
    | false =>
      rw [h1] at h
      obtain ⟨h2, h⟩ := ifB_iff.1 h
      refine ⟨false, h, fun u hl hu k' => ?_⟩
      rw [ltZ_eq, decide_eq_true_eq] at h2
      simp only [binInt, boolK_eq, ltZ_eq]
      congr 2
      simp only [Bool.not_eq_false', decide_eq_true_eq]; omega
  case geq =>
    cases h1 : Bool.not (ltZ lower b) with
    | true =>
      rw [h1] at h
      refine ⟨true, h, fun u hl hu k' => ?_⟩
      simp only [ltZ_eq, Bool.not_eq_true', decide_eq_false_iff_not] at h1
      simp only [binInt, boolK_eq, ltZ_eq]
      congr 2
      simp only [Bool.not_eq_true', decide_eq_false_iff_not]; omega
    | false =>
      rw [h1] at h
      obtain ⟨h2, h⟩ := ifB_iff.1 h
      refine ⟨false, h, fun u hl hu k' => ?_⟩
      rw [ltZ_eq, decide_eq_true_eq] at h2
      simp only [binInt, boolK_eq, ltZ_eq]
      congr 2
      simp only [Bool.not_eq_false', decide_eq_true_eq]; omega
theorem binInt_flip {op : BinOp} (h : op = .lss ∨ op = .leq ∨ op = .gtr ∨ op = .geq ∨ op = .eql ∨ op = .neq) (u a : Int) (k : AV → Bool) : binInt (flipOp op) .i64 u a k = binInt op .i64 a u k := by
  rcases h with rfl | rfl | rfl | rfl | rfl | rfl <;> simp only [flipOp, binInt]
  · simp only [eqZ_eq]; congr 1; rw [Bool.eq_iff_iff, beq_iff_eq, beq_iff_eq]; omega
  · simp only [eqZ_eq]; congr 2; rw [Bool.eq_iff_iff, beq_iff_eq, beq_iff_eq]; omega
theorem relL_op {op : BinOp} {lower upper b : Int} {k : AV → Bool} (h : relL op lower upper b k = true) : op = .lss ∨ op = .leq ∨ op = .gtr ∨ op = .geq ∨ op = .eql ∨ op = .neq := by
  cases op <;> simp_all [relL]
theorem flip_op {op : BinOp} (h : flipOp op = .lss ∨ flipOp op = .leq ∨ flipOp op = .gtr ∨ flipOp op = .geq ∨ flipOp op = .eql ∨ flipOp op = .neq) : op = .lss ∨ op = .leq ∨ op = .gtr ∨ op = .geq ∨ op = .eql ∨ op = .neq := by
  cases op <;> simp_all [flipOp]
theorem VR.symI {θ : Theta} {s lo hi : Nat} {c : Int} {v : Value} (h : VR θ (.sym (.int s lo hi c)) v) : ∃ z, θ.num s lo hi = some z ∧ v = .int .i64 (z + c) := by
  have h := h.conc (by simp)
  simp only [Ev.conc, SymT.conc, Option.map_eq_some_iff] at h
  obtain ⟨z, hz, h⟩ := h
  exact ⟨z, hz, h.symm⟩
theorem intsE_ok {P : Program} {op : BinOp} {x y : AV} {k : AV → Bool} (h : intsE op x y k = true) :
    ∃ v, k v = true ∧ ∀ θ xv yv, VR θ x xv → VR θ y yv → ∃ kd a b v', xv = .int kd a ∧ yv = .int kd b ∧ Ev.conc θ v = some v' ∧ ∀ (t : TypeId) (w : World), (binOp op t (.int kd a) (.int kd b)).run P w = .ok v' w := by
  have wrap : ∀ z : Int, -1099511627777 * 4 < z → z < 1099511627776 * 4 → IntKind.i64.wrap z = z := fun z h1 h2 => IntWalk.i64_in z (by omega)
  rcases ckIS_iff h with ⟨kd, a, ex, hx⟩ | ⟨s, lo, hi, c, ex, hx⟩
  · clear h
    subst ex
    rcases ckIS_iff hx with ⟨kd', b, ey, h⟩ | ⟨s, lo, hi, c, ey, h⟩
    · clear hx
      subst ey
      cases hk : kdEq kd kd' with
      | false => rw [hk] at h; cases h
      | true =>
        rw [hk] at h
        obtain rfl := kdEq_iff hk
        obtain ⟨v, v', hv, hc, hr⟩ := binInt_ok (P := P) h
        exact ⟨v, hv, fun θ xv yv hx hy => ⟨kd, a, b, v', hx.int, hy.int, hc θ, hr⟩⟩
    · clear hx
      subst ey
      cases hk : kdEq kd .i64 with
      | false => rw [hk] at h; cases h
      | true =>
        rw [hk] at h
        obtain rfl := kdEq_iff hk
        have rel : relL (flipOp op) (Int.add (.ofNat lo) c) (Int.add (.ofNat hi) c) a k = true → ∃ v, k v = true ∧ ∀ θ xv yv, VR θ (.int .i64 a) xv → VR θ (.sym (.int s lo hi c)) yv → ∃ kd a b v', xv = .int kd a ∧ yv = .int kd b ∧ Ev.conc θ v = some v' ∧ ∀ (t : TypeId) (w : World), (binOp op t (.int kd a) (.int kd b)).run P w = .ok v' w := by
          intro h
          have hop := flip_op (relL_op h)
          obtain ⟨r, hk, hr⟩ := relL_ok h
          refine ⟨_, hk, fun θ xv yv hx hy => ?_⟩
          obtain ⟨z, hz, hy⟩ := hy.symI
          obtain ⟨_, h1, h2⟩ := num_some hz
          obtain ⟨v', hc, hb⟩ := bin_val (P := P) (op := op) (kd := .i64) (x := a) (y := z + c) (r := .bool r) fun k' => by
            rw [← binInt_flip hop]
            exact hr (z + c) (by show (lo : Int) + c ≤ _; omega) (by show _ ≤ (hi : Int) + c; omega) k'
          exact ⟨.i64, a, z + c, v', hx.int, hy, hc θ, hb⟩
        unfold symR at h
        split at h
        · obtain ⟨hv, h1, h2, h3⟩ := symK_ok h
          refine ⟨_, hv, fun θ xv yv hx hy => ?_⟩
          obtain ⟨z, hz, hy⟩ := hy.symI
          obtain ⟨_, h4, h5⟩ := num_some hz
          have h2 : a + c < 1099511627776 := h2
          have h3 : -1099511627777 < a + c := h3
          obtain ⟨v', hc, hb⟩ := bin_val (P := P) (op := .add) (kd := .i64) (x := a) (y := z + c) (r := .int .i64 (z + (a + c))) fun k' => by
            simp only [binInt, intK_eq]
            have : Int.add a (z + c) = z + (a + c) := by show a + (z + c) = _; omega
            rw [this, wrap _ (by omega) (by omega)]
          refine ⟨.i64, a, z + c, v', hx.int, hy, ?_, hb⟩
          rw [← hc θ]
          simp only [Ev.conc, SymT.conc, hz, Option.map_some]
          rfl
        · exact rel h
  · clear h
    subst ex
    rcases ckIS_iff hx with ⟨kd', b, ey, h⟩ | ⟨s', lo', hi', d, ey, h⟩
    · clear hx
      subst ey
      cases hk : kdEq kd' .i64 with
      | false => rw [hk] at h; cases h
      | true =>
        rw [hk] at h
        obtain rfl := kdEq_iff hk
        have sum : ∀ e : Int, symK s lo hi e k = true → (∀ z : Int, (lo : Int) ≤ z → z ≤ hi → hi ≤ 1099511627776 → e < 1099511627776 → -1099511627777 < e → ∀ k', binInt op .i64 (z + c) b k' = k' (.int .i64 (z + e))) → ∃ v, k v = true ∧ ∀ θ xv yv, VR θ (.sym (.int s lo hi c)) xv → VR θ (.int .i64 b) yv → ∃ kd a b v', xv = .int kd a ∧ yv = .int kd b ∧ Ev.conc θ v = some v' ∧ ∀ (t : TypeId) (w : World), (binOp op t (.int kd a) (.int kd b)).run P w = .ok v' w := by
          intro e h hz'
          obtain ⟨hv, h1, h2, h3⟩ := symK_ok h
          refine ⟨_, hv, fun θ xv yv hx hy => ?_⟩
          obtain ⟨z, hz, hx⟩ := hx.symI
          obtain ⟨_, h4, h5⟩ := num_some hz
          obtain ⟨v', hc, hb⟩ := bin_val (P := P) (hz' z h4 h5 h1 h2 h3)
          refine ⟨.i64, z + c, b, v', hx, hy.int, ?_, hb⟩
          rw [← hc θ]
          simp only [Ev.conc, SymT.conc, hz, Option.map_some]
        unfold symL at h
        split at h
        · exact sum _ h fun z h1 h2 h3 h4 h5 k' => by
            have h4 : c + b < 1099511627776 := h4
            have h5 : -1099511627777 < c + b := h5
            simp only [binInt, intK_eq]
            have : Int.add (z + c) b = z + Int.add c b := by show (z + c) + b = z + (c + b); omega
            rw [this, wrap _ (by show _ < z + (c + b); omega) (by show z + (c + b) < _; omega)]
        · exact sum _ h fun z h1 h2 h3 h4 h5 k' => by
            have h4 : c - b < 1099511627776 := h4
            have h5 : -1099511627777 < c - b := h5
            simp only [binInt, intK_eq]
            have : Int.sub (z + c) b = z + Int.sub c b := by show (z + c) - b = z + (c - b); omega
            rw [this, wrap _ (by show _ < z + (c - b); omega) (by show z + (c - b) < _; omega)]
        · obtain ⟨r, hk, hr⟩ := relL_ok h
          refine ⟨_, hk, fun θ xv yv hx hy => ?_⟩
          obtain ⟨z, hz, hx⟩ := hx.symI
          obtain ⟨_, h1, h2⟩ := num_some hz
          obtain ⟨v', hc, hb⟩ := bin_val (P := P) (hr (z + c) (by show (lo : Int) + c ≤ _; omega) (by show _ ≤ (hi : Int) + c; omega))
          exact ⟨.i64, z + c, b, v', hx, hy.int, hc θ, hb⟩
    · clear hx
      subst ey
      cases hs : Nat.beq s s' with
      | false => rw [hs] at h; cases h
      | true =>
        rw [hs] at h
        have e : s = s' := Nat.eq_of_beq_eq_true hs
        subst e
        have h : symB op c d k = true := h
        have key : ∃ v, k v = true ∧ ∀ z : Int, ∀ k', binInt op .i64 (z + c) (z + d) k' = k' v := by
          unfold symB at h
          split at h
          · rw [intK_eq] at h
            refine ⟨_, h, fun z k' => ?_⟩
            simp only [binInt, intK_eq]
            have : Int.sub (z + c) (z + d) = Int.sub c d := by show (z + c) - (z + d) = c - d; omega
            rw [this]
          all_goals
            first
            | cases h; done
            | rw [boolK_eq] at h
              refine ⟨_, h, fun z k' => ?_⟩
              simp only [binInt, boolK_eq, ltZ_eq, eqZ_eq]
              congr 2
              rw [Bool.eq_iff_iff]
              simp
        obtain ⟨v, hv, hz'⟩ := key
        refine ⟨v, hv, fun θ xv yv hx hy => ?_⟩
        obtain ⟨z, hz, hx⟩ := hx.symI
        obtain ⟨y, hy', hy⟩ := hy.symI
        have hzy : y = z := by
          obtain ⟨e1, _⟩ := num_some hz
          obtain ⟨e2, _⟩ := num_some hy'
          rw [e1] at e2
          injection e2 with e2
          injection e2 with _ e2
          exact e2.symm
        subst hzy
        obtain ⟨v', hc, hb⟩ := bin_val (P := P) (hz' y)
        exact ⟨.i64, y + c, y + d, v', hx, hy, hc θ, hb⟩
noncomputable def AV.ckNum (a : AV) (y : Bool) : Bool := a.ckIS (fun _ _ => y) (fun _ _ _ _ => y)
theorem ckNum_ok {a : AV} {y : Bool} (h : a.ckNum y = true) : y = true ∧ a ≠ .bad ∧ ∀ θ v, Ev.conc θ a = some v → ∃ k x, v = .int k x := by
  rcases ckIS_iff h with ⟨k, n, e, h1⟩ | ⟨s, lo, hi, c, e, h1⟩
  · subst e
    exact ⟨h1, by simp, fun θ v hv => ⟨k, n, by simpa [Ev.conc] using hv.symm⟩⟩
  · subst e
    refine ⟨h1, by simp, fun θ v hv => ?_⟩
    obtain ⟨z, _, e⟩ := VR.symI (.inr hv)
    exact ⟨_, _, e⟩
def eqIS (a b : AV) (f : Bool → Bool) : Bool := intsE .eql a b fun r => r.ckBool f
theorem eqIS_ok {a b : AV} {f : Bool → Bool} (h : eqIS a b f = true) : ∃ e, f e = true ∧ ∀ θ xv yv, VR θ a xv → VR θ b yv → ∃ kd x y, xv = .int kd x ∧ yv = .int kd y ∧ (x == y) = e := by
  obtain ⟨v, hv, hq⟩ := intsE_ok (P := default) h
  obtain ⟨e, he, hf⟩ := ckBool_iff.1 hv
  subst he
  refine ⟨e, hf, fun θ xv yv hx hy => ?_⟩
  obtain ⟨kd, x, y, v', ex, ey, hc, hr⟩ := hq θ xv yv hx hy
  refine ⟨kd, x, y, ex, ey, ?_⟩
  have hr := hr 0 default
  simp only [Ev.conc, Option.some.injEq] at hc
  subst hc
  simp [binOp, Op.intCmp] at hr
  exact hr
theorem eqIS_all {a b : AV} {f : Bool → Bool} (h : eqIS a b f = true) : ∃ e, f e = true ∧ ∀ f', eqIS a b f' = f' e := by
  unfold eqIS at h ⊢
  unfold intsE at h ⊢
  rcases ckIS_iff h with ⟨kd, x, ex, hx⟩ | ⟨s, lo, hi, c, ex, hx⟩ <;> clear h <;> subst ex
  · rcases ckIS_iff hx with ⟨kd', y, ey, h⟩ | ⟨s, lo, hi, c, ey, h⟩ <;> clear hx <;> subst ey
    · cases hk : kdEq kd kd' with
      | false => rw [hk] at h; cases h
      | true =>
        rw [hk] at h
        simp only [binInt, boolK_eq] at h
        refine ⟨_, h, fun f' => ?_⟩
        show Bool.rec (motive := fun _ => Bool) false _ (kdEq kd kd') = _
        rw [hk]
        simp only [binInt, boolK_eq]
        rfl
    · cases hk : kdEq kd .i64 with
      | false => rw [hk] at h; cases h
      | true =>
        rw [hk] at h
        simp only [symR, flipOp, relL] at h
        obtain ⟨r, h, h1, _⟩ := eqC_ok h
        refine ⟨_, h, fun f' => ?_⟩
        show Bool.rec (motive := fun _ => Bool) false _ (kdEq kd .i64) = _
        rw [hk]
        simp only [symR, flipOp, relL]
        exact h1 _
  · rcases ckIS_iff hx with ⟨kd', y, ey, h⟩ | ⟨s', lo', hi', d, ey, h⟩ <;> clear hx <;> subst ey
    · cases hk : kdEq kd' .i64 with
      | false => rw [hk] at h; cases h
      | true =>
        rw [hk] at h
        simp only [symL, relL] at h
        obtain ⟨r, h, h1, _⟩ := eqC_ok h
        refine ⟨_, h, fun f' => ?_⟩
        show Bool.rec (motive := fun _ => Bool) false _ (kdEq kd' .i64) = _
        rw [hk]
        simp only [symL, relL]
        exact h1 _
    · cases hs : Nat.beq s s' with
      | false => rw [hs] at h; cases h
      | true =>
        rw [hs] at h
        simp only [symB, boolK_eq] at h
        refine ⟨_, h, fun f' => ?_⟩
        show Bool.rec (motive := fun _ => Bool) false _ (Nat.beq s s') = _
        rw [hs]
        simp only [symB, boolK_eq]
        rfl
def shiftE (op : BinOp) (x y : AV) (k : AV → Bool) : Bool :=
  x.ckInt fun kd a => y.ckInt fun _ z => natOf z fun b =>
    match op with
    | .shl => intK kd (Int.mul a (Int.pow 2 (min b kd.bits))) k
    | .shr => forceZ (Int.fdiv a (Int.pow 2 (min b kd.bits))) fun z => k (.int kd z)
    | _ => false
def catK (n c m d : Nat) (k : AV → Bool) : Bool :=
  ifB (Nat.ble (Nat.add n m) 9223372036854775807) (forceN (Nat.add n m) fun l => forceN (Nat.add (Nat.mod c (Nat.pow 256 n)) (Nat.mul (Nat.pow 256 n) d)) fun e => k (.str l e))
def eqStr (n c m d : Nat) : Bool := Bool.and (Nat.beq n m) (Nat.beq (Nat.mod c (Nat.pow 256 n)) (Nat.mod d (Nat.pow 256 n)))
theorem bytesOf_mod : ∀ n c, bytesOf n (c % 256 ^ n) = bytesOf n c
  | 0, _ => rfl
  | n + 1, c => by
    have h1 : c % 256 ^ (n + 1) % 256 = c % 256 := by
      rw [Nat.pow_succ, Nat.mul_comm, Nat.mod_mul_right_mod]
    have h2 : c % 256 ^ (n + 1) / 256 = c / 256 % 256 ^ n := by
      rw [Nat.pow_succ, Nat.mul_comm, Nat.mod_mul_right_div_self]
    simp only [bytesOf, h1, h2, bytesOf_mod n]
theorem codeOf_bytesOf : ∀ n c, codeOf (bytesOf n c) = c % 256 ^ n
  | 0, c => by simp [bytesOf, codeOf, Nat.mod_one]
  | n + 1, c => by
    have h : (UInt8.ofNat (c % 256)).toNat = c % 256 := by simp
    simp only [bytesOf, codeOf, h, codeOf_bytesOf n]
    rw [Nat.pow_succ, Nat.mul_comm (256 ^ n), Nat.mod_mul]
theorem eqStr_eq (n c m d : Nat) : eqStr n c m d = ((strOf n c).toList == (strOf m d).toList) := by
  rw [ByteArray.toList_eq, ByteArray.toList_eq]
  show Bool.and _ _ = (bytesOf n c == bytesOf m d)
  rw [Bool.eq_iff_iff, beq_iff_eq, Bool.and_eq_true, Nat.beq_eq, Nat.beq_eq]
  constructor
  · rintro ⟨rfl, h⟩
    have h : c % 256 ^ n = d % 256 ^ n := h
    rw [← bytesOf_mod n c, ← bytesOf_mod n d, h]
  · intro h
    have hl : n = m := by have := congrArg List.length h; simpa [bytesOf_length] using this
    subst hl
    refine ⟨rfl, ?_⟩
    have := congrArg codeOf h
    rwa [codeOf_bytesOf, codeOf_bytesOf] at this
theorem bytesOf_append : ∀ (n c m d : Nat), bytesOf (n + m) (c % 256 ^ n + 256 ^ n * d) = bytesOf n c ++ bytesOf m d
  | 0, c, m, d => by simp [bytesOf, Nat.mod_one]
  | n + 1, c, m, d => by
    have hp : 256 ^ (n + 1) = 256 * 256 ^ n := by rw [Nat.pow_succ, Nat.mul_comm]
    have h0 : c % 256 ^ (n + 1) = c % 256 + 256 * (c / 256 % 256 ^ n) := by rw [hp, Nat.mod_mul]
    have h1 : (c % 256 ^ (n + 1) + 256 ^ (n + 1) * d) % 256 = c % 256 := by rw [h0, hp]; rw [Nat.mul_assoc]; omega
    have h2 : (c % 256 ^ (n + 1) + 256 ^ (n + 1) * d) / 256 = c / 256 % 256 ^ n + 256 ^ n * d := by rw [h0, hp]; rw [Nat.mul_assoc]; omega
    have e : n + 1 + m = (n + m) + 1 := by omega
    rw [e]
    simp only [bytesOf, h1, h2, bytesOf_append n, List.cons_append]
theorem strOf_append (n c m d : Nat) : strOf (n + m) (c % 256 ^ n + 256 ^ n * d) = strOf n c ++ strOf m d := by
  apply ByteArray.ext
  rw [ByteArray.data_append]
  apply Array.ext'
  simp only [Array.toList_append]
  exact bytesOf_append n c m d
def ltStr : Nat → Nat → Nat → Nat → Bool
  | 0, _, 0, _ => false
  | 0, _, _ + 1, _ => true
  | _ + 1, _, 0, _ => false
  | n + 1, c, m + 1, d => bif Nat.blt (c % 256) (d % 256) then true else bif Nat.beq (c % 256) (d % 256) then ltStr n (c / 256) m (d / 256) else false
theorem ltStr_eq : ∀ (n c m d : Nat), ltStr n c m d = Op.bytesLess (bytesOf n c) (bytesOf m d)
  | 0, _, 0, _ => rfl
  | 0, _, _ + 1, _ => rfl
  | _ + 1, _, 0, _ => rfl
  | n + 1, c, m + 1, d => by
    have h1 : (UInt8.ofNat (c % 256) < UInt8.ofNat (d % 256)) ↔ c % 256 < d % 256 := by rw [UInt8.lt_iff_toNat_lt]; simp
    have h2 : (UInt8.ofNat (c % 256) = UInt8.ofNat (d % 256)) ↔ c % 256 = d % 256 := by rw [← UInt8.toNat_inj]; simp
    simp only [ltStr, bytesOf, Op.bytesLess]
    rw [← ltStr_eq n]
    by_cases hlt : c % 256 < d % 256
    · simp [h1, hlt, Nat.blt_eq]
    · by_cases he : c % 256 = d % 256
      · simp [he]
      · have hb : Nat.beq (c % 256) (d % 256) = false := by rw [← Bool.not_eq_true, Nat.beq_eq]; exact he
        simp [h1, hlt, blt_eq, hb, h2, he]
def binStr (op : BinOp) (n c m d : Nat) (k : AV → Bool) : Bool :=
  match op with
  | .add => catK n c m d k
  | .eql => boolK (eqStr n c m d) k
  | .neq => boolK (Bool.not (eqStr n c m d)) k
  | .lss => boolK (ltStr n c m d) k
  | .leq => boolK (Bool.or (ltStr n c m d) (eqStr n c m d)) k
  | .gtr => boolK (Bool.not (Bool.or (ltStr n c m d) (eqStr n c m d))) k
  | .geq => boolK (Bool.not (ltStr n c m d)) k
  | _ => false
theorem lessList (n c m d : Nat) : Op.bytesLess (strOf n c).toList (strOf m d).toList = ltStr n c m d := by
  rw [ByteArray.toList_eq, ByteArray.toList_eq, ltStr_eq]
  rfl
theorem binStr_ok {P : Program} {op : BinOp} {n c m d : Nat} {k : AV → Bool} (h : binStr op n c m d k = true) :
    ∃ v v', k v = true ∧ (∀ θ, Ev.conc θ v = some v') ∧ ∀ (t : TypeId) (w : World), (binOp op t (.string (strOf n c)) (.string (strOf m d))).run P w = .ok v' w := by
  cases op <;> simp only [binStr, boolK_eq] at h
  case add =>
    obtain ⟨hle, h⟩ := ifB_iff.1 h
    simp only [forceN_eq] at h
    have hle : n + m ≤ 9223372036854775807 := by simpa using hle
    refine ⟨_, .string (strOf n c ++ strOf m d), h, fun θ => ?_, fun t w => ?_⟩
    · simp only [Ev.conc]; congr 2; exact strOf_append n c m d
    · have hno : ¬ (((strOf n c).size + (strOf m d).size : Nat) : Int) > IntKind.i64.max := by
        rw [strOf_size, strOf_size]
        have : IntKind.i64.max = 9223372036854775807 := by decide
        omega
      simp only [binOp, Op.stringOp]
      rw [if_neg hno]
      rfl
  case eql => exact ⟨_, .bool ((strOf n c).toList == (strOf m d).toList), h, fun θ => by rw [eqStr_eq]; rfl, fun t w => by simp [binOp, Op.stringOp]⟩
  case neq => exact ⟨_, .bool (!((strOf n c).toList == (strOf m d).toList)), h, fun θ => by rw [eqStr_eq]; rfl, fun t w => by simp [binOp, Op.stringOp]⟩
  case lss => exact ⟨_, _, h, fun θ => rfl, fun t w => by simp only [binOp, Op.stringOp, lessList]; rfl⟩
  case leq => exact ⟨_, _, h, fun θ => rfl, fun t w => by simp only [binOp, Op.stringOp, lessList, eqStr_eq]; rfl⟩
  case gtr => exact ⟨_, _, h, fun θ => rfl, fun t w => by simp only [binOp, Op.stringOp, lessList, eqStr_eq]; rfl⟩
  case geq => exact ⟨_, _, h, fun θ => rfl, fun t w => by simp only [binOp, Op.stringOp, lessList]; rfl⟩
  all_goals cases h
end
end Ev
