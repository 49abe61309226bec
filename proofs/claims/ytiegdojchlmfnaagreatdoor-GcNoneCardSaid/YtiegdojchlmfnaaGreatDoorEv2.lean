/- A part of the proof that GcNone returns true: text Ev2. -/
import Derived.Test.YtiegdojchlmfnaaGreatDoorEv1
import Derived.IntWalk
namespace Ev
open Go
open Go.RowKit

/-! Looking into a value. -/

noncomputable def AV.ckBool (a : AV) (f : Bool → Bool) : Bool :=
  AV.casesOn (motive_1 := fun _ => Bool) a false f (fun _ _ => false) (fun _ _ => false) false (fun _ _ => false) false (fun _ _ _ _ => false) (fun _ _ _ _ => false) false (fun _ => false) (fun _ _ _ => false) false (fun _ _ => false) false (fun _ => false) (fun _ => false) (fun _ => false)
noncomputable def AV.ckInt (a : AV) (f : IntKind → Int → Bool) : Bool :=
  AV.casesOn (motive_1 := fun _ => Bool) a false (fun _ => false) f (fun _ _ => false) false (fun _ _ => false) false (fun _ _ _ _ => false) (fun _ _ _ _ => false) false (fun _ => false) (fun _ _ _ => false) false (fun _ _ => false) false (fun _ => false) (fun _ => false) (fun _ => false)
noncomputable def AV.ckStr (a : AV) (f : Nat → Nat → Bool) : Bool :=
  AV.casesOn (motive_1 := fun _ => Bool) a false (fun _ => false) (fun _ _ => false) f false (fun _ _ => false) false (fun _ _ _ _ => false) (fun _ _ _ _ => false) false (fun _ => false) (fun _ _ _ => false) false (fun _ _ => false) false (fun _ => false) (fun _ => false) (fun _ => false)
noncomputable def AV.ckPtr (a : AV) (f : Nat → Nat → Bool) : Bool :=
  AV.casesOn (motive_1 := fun _ => Bool) a false (fun _ => false) (fun _ _ => false) (fun _ _ => false) false f false (fun _ _ _ _ => false) (fun _ _ _ _ => false) false (fun _ => false) (fun _ _ _ => false) false (fun _ _ => false) false (fun _ => false) (fun _ => false) (fun _ => false)
noncomputable def AV.ckSl (a : AV) (n : Bool) (f : Nat → Nat → Nat → Cap → Bool) (e : Nat → Nat → Nat → Nat → Bool) : Bool :=
  AV.casesOn (motive_1 := fun _ => Bool) a false (fun _ => false) (fun _ _ => false) (fun _ _ => false) false (fun _ _ => false) n f e false (fun _ => false) (fun _ _ _ => false) false (fun _ _ => false) false (fun _ => false) (fun _ => false) (fun _ => false)
noncomputable def AV.ckMap (a : AV) (n : Bool) (f : Nat → Bool) : Bool :=
  AV.casesOn (motive_1 := fun _ => Bool) a false (fun _ => false) (fun _ _ => false) (fun _ _ => false) false (fun _ _ => false) false (fun _ _ _ _ => false) (fun _ _ _ _ => false) n f (fun _ _ _ => false) false (fun _ _ => false) false (fun _ => false) (fun _ => false) (fun _ => false)
noncomputable def AV.ckFn (a : AV) (f : Fn → List AV → List AV → Bool) : Bool :=
  AV.casesOn (motive_1 := fun _ => Bool) a false (fun _ => false) (fun _ _ => false) (fun _ _ => false) false (fun _ _ => false) false (fun _ _ _ _ => false) (fun _ _ _ _ => false) false (fun _ => false) f false (fun _ _ => false) false (fun _ => false) (fun _ => false) (fun _ => false)
noncomputable def AV.ckAgg (a : AV) (f : List AV → Bool) : Bool :=
  AV.casesOn (motive_1 := fun _ => Bool) a false (fun _ => false) (fun _ _ => false) (fun _ _ => false) false (fun _ _ => false) false (fun _ _ _ _ => false) (fun _ _ _ _ => false) false (fun _ => false) (fun _ _ _ => false) false (fun _ _ => false) false f (fun _ => false) (fun _ => false)
noncomputable def AV.ckTup (a : AV) (f : List AV → Bool) : Bool :=
  AV.casesOn (motive_1 := fun _ => Bool) a false (fun _ => false) (fun _ _ => false) (fun _ _ => false) false (fun _ _ => false) false (fun _ _ _ _ => false) (fun _ _ _ _ => false) false (fun _ => false) (fun _ _ _ => false) false (fun _ _ => false) false (fun _ => false) f (fun _ => false)
/-- A value of one cell that is known. -/
noncomputable def AV.ckOne (a : AV) (y : Bool) : Bool :=
  AV.casesOn (motive_1 := fun _ => Bool) a false (fun _ => y) (fun _ _ => y) (fun _ _ => y) y (fun _ _ => y) y (fun _ _ _ _ => y) (fun _ _ _ _ => y) y (fun _ => y) (fun _ _ _ => y) y (fun _ _ => y) y (fun _ => false) (fun _ => false) (fun _ => false)
/-- A value that is known. -/
noncomputable def AV.ckOk (a : AV) (y : Bool) : Bool :=
  AV.casesOn (motive_1 := fun _ => Bool) a false (fun _ => y) (fun _ _ => y) (fun _ _ => y) y (fun _ _ => y) y (fun _ _ _ _ => y) (fun _ _ _ _ => y) y (fun _ => y) (fun _ _ _ => y) y (fun _ _ => y) y (fun _ => y) (fun _ => y) (fun _ => y)

/-- What a guard looks at: a truth value, or nothing where the operation was passed over. -/
noncomputable def AV.ckGd (a : AV) (f : Bool → Bool) (s : Bool) : Bool :=
  AV.casesOn (motive_1 := fun _ => Bool) a false f (fun _ _ => false) (fun _ _ => false) false (fun _ _ => false) false (fun _ _ _ _ => false) (fun _ _ _ _ => false) false (fun _ => false) (fun _ _ _ => false) false (fun _ _ => false) false (fun _ => false) (fun _ => s) (fun _ => false)
theorem ckGd_iff {a : AV} {f : Bool → Bool} {s : Bool} : a.ckGd f s = true ↔ (∃ b, a = .bool b ∧ f b = true) ∨ (∃ l, a = .tup l ∧ s = true) := by cases a <;> simp [AV.ckGd]

theorem ckBool_iff {a : AV} {f : Bool → Bool} : a.ckBool f = true ↔ ∃ b, a = .bool b ∧ f b = true := by cases a <;> simp [AV.ckBool]
theorem ckInt_iff {a : AV} {f : IntKind → Int → Bool} : a.ckInt f = true ↔ ∃ k n, a = .int k n ∧ f k n = true := by
  cases a <;> simp [AV.ckInt]
  constructor
  · intro h; exact ⟨_, _, ⟨rfl, rfl⟩, h⟩
  · rintro ⟨_, _, ⟨rfl, rfl⟩, h⟩; exact h
theorem ckStr_iff {a : AV} {f : Nat → Nat → Bool} : a.ckStr f = true ↔ ∃ n c, a = .str n c ∧ f n c = true := by
  cases a <;> simp [AV.ckStr]
  constructor
  · intro h; exact ⟨_, _, ⟨rfl, rfl⟩, h⟩
  · rintro ⟨_, _, ⟨rfl, rfl⟩, h⟩; exact h
theorem ckPtr_iff {a : AV} {f : Nat → Nat → Bool} : a.ckPtr f = true ↔ ∃ b o, a = .ptr b o ∧ f b o = true := by
  cases a <;> simp [AV.ckPtr]
  constructor
  · intro h; exact ⟨_, _, ⟨rfl, rfl⟩, h⟩
  · rintro ⟨_, _, ⟨rfl, rfl⟩, h⟩; exact h
theorem ckSl_iff {a : AV} {n : Bool} {f e : _} : a.ckSl n f e = true ↔ (a = .nils ∧ n = true) ∨ (∃ b o len cap, a = .sl b o len cap ∧ f b o len cap = true) ∨ (∃ b o lo es, a = .sle b o lo es ∧ e b o lo es = true) := by
  cases a <;> simp [AV.ckSl]
  · constructor
    · intro h; exact ⟨_, _, _, _, ⟨rfl, rfl, rfl, rfl⟩, h⟩
    · rintro ⟨_, _, _, _, ⟨rfl, rfl, rfl, rfl⟩, h⟩; exact h
  · constructor
    · intro h; exact ⟨_, _, _, _, ⟨rfl, rfl, rfl, rfl⟩, h⟩
    · rintro ⟨_, _, _, _, ⟨rfl, rfl, rfl, rfl⟩, h⟩; exact h
theorem ckMap_iff {a : AV} {n : Bool} {f : Nat → Bool} : a.ckMap n f = true ↔ (a = .nilm ∧ n = true) ∨ ∃ b, a = .map b ∧ f b = true := by cases a <;> simp [AV.ckMap]
theorem ckFn_iff {a : AV} {f : Fn → List AV → List AV → Bool} : a.ckFn f = true ↔ ∃ g x y, a = .fn g x y ∧ f g x y = true := by
  cases a <;> simp [AV.ckFn]
  constructor
  · intro h; exact ⟨_, _, _, ⟨rfl, rfl, rfl⟩, h⟩
  · rintro ⟨_, _, _, ⟨rfl, rfl, rfl⟩, h⟩; exact h
theorem ckAgg_iff {a : AV} {f : List AV → Bool} : a.ckAgg f = true ↔ ∃ l, a = .agg l ∧ f l = true := by cases a <;> simp [AV.ckAgg]
theorem ckTup_iff {a : AV} {f : List AV → Bool} : a.ckTup f = true ↔ ∃ l, a = .tup l ∧ f l = true := by cases a <;> simp [AV.ckTup]
theorem ckOk_iff {a : AV} {y : Bool} : a.ckOk y = true ↔ a ≠ .bad ∧ y = true := by cases a <;> simp [AV.ckOk]
def AV.one : AV → Bool
  | .bad | .agg _ | .tup _ | .opq _ => false
  | _ => true
theorem ckOne_iff {a : AV} {y : Bool} : a.ckOne y = true ↔ a.one = true ∧ y = true := by cases a <;> simp [AV.ckOne, AV.one]

/-! Numbers. -/

noncomputable def forceN {β : Type} (n : Nat) (k : Nat → β) : β := Nat.rec (motive := fun _ => β) (k 0) (fun m _ => k (Nat.succ m)) n
theorem forceN_eq {β : Type} (n : Nat) (k : Nat → β) : forceN n k = k n := by cases n <;> rfl

def lim : IntKind → Nat
  | .i8 => 128 | .i16 => 32768 | .i32 => 2147483648 | .i64 => 9223372036854775808
  | .u8 => 256 | .u16 => 65536 | .u32 => 4294967296 | .u64 => 18446744073709551616

noncomputable def intK (kd : IntKind) (z : Int) (k : AV → Bool) : Bool :=
  Int.rec (motive := fun _ => Bool)
    (fun n => Bool.rec (k (.int kd (kd.wrap (.ofNat n)))) (forceN n fun n => k (.int kd (.ofNat n))) (Nat.blt n (lim kd)))
    (fun n => Bool.rec (k (.int kd (kd.wrap (.negSucc n)))) (forceN n fun n => k (.int kd (.negSucc n))) (Bool.and kd.signed (Nat.blt n (lim kd)))) z

theorem wrap_nat (kd : IntKind) (n : Nat) (h : n < lim kd) : kd.wrap (Int.ofNat n) = Int.ofNat n := by
  have h' : Int.ofNat n = (n : Int) := rfl
  rw [h']
  cases kd <;> simp only [lim] at h
  · exact IntWalk.i8_in _ (by omega)
  · exact IntWalk.i16_in _ (by omega)
  · exact IntWalk.i32_in _ (by omega)
  · exact IntWalk.i64_in _ (by omega)
  · exact IntWalk.u8_in _ (by omega)
  · exact IntWalk.u16_in _ (by omega)
  · exact IntWalk.u32_in _ (by omega)
  · exact IntWalk.u64_in _ (by omega)
theorem wrap_neg (kd : IntKind) (n : Nat) (hs : kd.signed = true) (h : n < lim kd) : kd.wrap (Int.negSucc n) = Int.negSucc n := by
  have h' : Int.negSucc n = -(n : Int) - 1 := by omega
  rw [h']
  cases kd <;> simp only [lim] at h <;> simp only [IntKind.signed, Bool.false_eq_true] at hs
  · exact IntWalk.i8_in _ (by omega)
  · exact IntWalk.i16_in _ (by omega)
  · exact IntWalk.i32_in _ (by omega)
  · exact IntWalk.i64_in _ (by omega)

theorem intK_eq (kd : IntKind) (z : Int) (k : AV → Bool) : intK kd z k = k (.int kd (kd.wrap z)) := by
  cases z with
  | ofNat n =>
    show Bool.rec (motive := fun _ => Bool) _ _ (Nat.blt n (lim kd)) = _
    cases h : Nat.blt n (lim kd) with
    | false => rfl
    | true =>
      have : n < lim kd := by simpa [Nat.blt_eq] using h
      simp only [forceN_eq, wrap_nat kd n this]
  | negSucc n =>
    show Bool.rec (motive := fun _ => Bool) _ _ (Bool.and kd.signed (Nat.blt n (lim kd))) = _
    cases h : Bool.and kd.signed (Nat.blt n (lim kd)) with
    | false => rfl
    | true =>
      have : kd.signed = true ∧ n < lim kd := by simpa [Nat.blt_eq] using h
      simp only [forceN_eq, wrap_neg kd n this.1 this.2]

noncomputable def kdEq (a b : IntKind) : Bool := Nat.beq (lim a) (lim b)
theorem kdEq_iff {a b : IntKind} : kdEq a b = true → a = b := by cases a <;> cases b <;> simp [kdEq, lim]

/-- Two integers of one kind. -/
noncomputable def AV.ckInts (a b : AV) (f : IntKind → Int → Int → Bool) : Bool := a.ckInt fun k x => b.ckInt fun k' y => Bool.rec false (f k x y) (kdEq k k')
theorem ckInts_iff {a b : AV} {f : IntKind → Int → Int → Bool} (h : a.ckInts b f = true) : ∃ k x y, a = .int k x ∧ b = .int k y ∧ f k x y = true := by
  obtain ⟨k, x, e1, h1⟩ := ckInt_iff.1 h
  obtain ⟨k', y, e2, h2⟩ := ckInt_iff.1 h1
  subst e1 e2
  cases hk : kdEq k k' with
  | false => simp [hk] at h2
  | true =>
    have := kdEq_iff hk
    subst this
    exact ⟨k, x, y, rfl, rfl, by simpa [hk] using h2⟩

noncomputable def ltZ (x y : Int) : Bool :=
  Int.rec (motive := fun _ => Bool) (fun m => Int.rec (motive := fun _ => Bool) (fun n => Nat.blt m n) (fun _ => false) y) (fun m => Int.rec (motive := fun _ => Bool) (fun _ => true) (fun n => Nat.blt n m) y) x
noncomputable def eqZ (x y : Int) : Bool :=
  Int.rec (motive := fun _ => Bool) (fun m => Int.rec (motive := fun _ => Bool) (fun n => Nat.beq m n) (fun _ => false) y) (fun m => Int.rec (motive := fun _ => Bool) (fun _ => false) (fun n => Nat.beq m n) y) x
theorem blt_eq (a b : Nat) : Nat.blt a b = decide (a < b) := by rw [Bool.eq_iff_iff]; simp [Nat.blt_eq]
theorem ltZ_eq (x y : Int) : ltZ x y = decide (x < y) := by
  cases x with
  | ofNat m =>
    cases y with
    | ofNat n => show Nat.blt m n = _; rw [blt_eq, decide_eq_decide]; show m < n ↔ (m : Int) < (n : Int); omega
    | negSucc n => show false = _; rw [eq_comm, decide_eq_false_iff_not]; show ¬ (m : Int) < _; omega
  | negSucc m =>
    cases y with
    | ofNat n => show true = _; rw [eq_comm, decide_eq_true_iff]; show _ < (n : Int); omega
    | negSucc n => show Nat.blt n m = _; rw [blt_eq, decide_eq_decide]; omega
theorem eqZ_eq (x y : Int) : eqZ x y = (x == y) := by
  rw [Bool.eq_iff_iff, beq_iff_eq]
  cases x with
  | ofNat m =>
    cases y with
    | ofNat n => show Nat.beq m n = true ↔ _; rw [Nat.beq_eq]; show m = n ↔ (m : Int) = (n : Int); omega
    | negSucc n => show false = true ↔ _; constructor <;> intro h <;> cases h
  | negSucc m =>
    cases y with
    | ofNat n => show false = true ↔ _; constructor <;> intro h <;> cases h
    | negSucc n => show Nat.beq m n = true ↔ _; rw [Nat.beq_eq]; omega

end Ev
