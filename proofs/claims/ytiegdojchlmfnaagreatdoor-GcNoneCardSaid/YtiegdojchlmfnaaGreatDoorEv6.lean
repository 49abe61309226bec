/- A part of the proof that GcNone returns true: text Ev6. -/
import Derived.Test.YtiegdojchlmfnaaGreatDoorEv5
namespace Ev
open Go
open Go.RowKit
noncomputable section

def boolK (b : Bool) (k : AV → Bool) : Bool := Bool.rec (k (.bool false)) (k (.bool true)) b
theorem boolK_eq (b : Bool) (k : AV → Bool) : boolK b k = k (.bool b) := by cases b <;> rfl

def forceZ (z : Int) (k : Int → Bool) : Bool := Int.rec (motive := fun _ => Bool) (fun n => forceN n fun n => k (.ofNat n)) (fun n => forceN n fun n => k (.negSucc n)) z
theorem forceZ_eq (z : Int) (k : Int → Bool) : forceZ z k = k z := by cases z <;> simp [forceZ, forceN_eq]

/-! ### Operations on integers -/

def binInt (op : BinOp) (kd : IntKind) (x y : Int) (k : AV → Bool) : Bool :=
  match op with
  | .add => intK kd (Int.add x y) k
  | .sub => intK kd (Int.sub x y) k
  | .mul => intK kd (Int.mul x y) k
  | .quo => Bool.rec (intK kd (Int.tdiv x y) k) false (eqZ y 0)
  | .rem => Bool.rec (forceZ (Int.tmod x y) fun z => k (.int kd z)) false (eqZ y 0)
  | .and => intK kd (Int.ofNat (BitVec.ofInt kd.bits x &&& BitVec.ofInt kd.bits y).toNat) k
  | .or => intK kd (Int.ofNat (BitVec.ofInt kd.bits x ||| BitVec.ofInt kd.bits y).toNat) k
  | .xor => intK kd (Int.ofNat (BitVec.ofInt kd.bits x ^^^ BitVec.ofInt kd.bits y).toNat) k
  | .andNot => intK kd (Int.ofNat (BitVec.ofInt kd.bits x &&& ~~~BitVec.ofInt kd.bits y).toNat) k
  | .eql => boolK (eqZ x y) k
  | .neq => boolK (Bool.not (eqZ x y)) k
  | .lss => boolK (ltZ x y) k
  | .leq => boolK (Bool.not (ltZ y x)) k
  | .gtr => boolK (ltZ y x) k
  | .geq => boolK (Bool.not (ltZ x y)) k
  | _ => false

theorem binInt_ok {P : Program} {op : BinOp} {kd : IntKind} {x y : Int} {k : AV → Bool} (h : binInt op kd x y k = true) :
    ∃ v v', k v = true ∧ (∀ θ, Ev.conc θ v = some v') ∧ ∀ (t : TypeId) (w : World), (binOp op t (.int kd x) (.int kd y)).run P w = .ok v' w := by
  cases op <;> simp only [binInt, intK_eq, boolK_eq, forceZ_eq] at h
  case quo =>
    rw [eqZ_eq] at h
    by_cases hy : y = 0
    · simp [hy] at h
    · simp only [beq_eq_false_iff_ne.2 hy] at h
      exact ⟨_, _, h, fun θ => rfl, fun t w => by simp [binOp, Op.intDiv, hy]⟩
  case rem =>
    rw [eqZ_eq] at h
    by_cases hy : y = 0
    · simp [hy] at h
    · simp only [beq_eq_false_iff_ne.2 hy] at h
      exact ⟨_, _, h, fun θ => rfl, fun t w => by simp [binOp, Op.intDiv, hy]⟩
  case add => exact ⟨_, _, h, fun θ => rfl, fun t w => by simp [binOp, Op.intArith]⟩
  case sub => exact ⟨_, _, h, fun θ => rfl, fun t w => by simp [binOp, Op.intArith]; rfl⟩
  case mul => exact ⟨_, _, h, fun θ => rfl, fun t w => by simp [binOp, Op.intArith]⟩
  case and => exact ⟨_, _, h, fun θ => rfl, fun t w => by simp only [binOp, Op.intBits, ne_eq, not_true_eq_false, if_false, Sem.run_pure]; rfl⟩
  case or => exact ⟨_, _, h, fun θ => rfl, fun t w => by simp only [binOp, Op.intBits, ne_eq, not_true_eq_false, if_false, Sem.run_pure]; rfl⟩
  case xor => exact ⟨_, _, h, fun θ => rfl, fun t w => by simp only [binOp, Op.intBits, ne_eq, not_true_eq_false, if_false, Sem.run_pure]; rfl⟩
  case andNot => exact ⟨_, _, h, fun θ => rfl, fun t w => by simp only [binOp, Op.intBits, ne_eq, not_true_eq_false, if_false, Sem.run_pure]; rfl⟩
  case shl => cases h
  case shr => cases h
  case eql => exact ⟨_, .bool (x == y), h, fun θ => by rw [eqZ_eq]; rfl, fun t w => by simp [binOp, Op.intCmp]⟩
  case neq => exact ⟨_, .bool (x != y), h, fun θ => by rw [eqZ_eq]; rfl, fun t w => by simp [binOp, Op.intCmp]⟩
  case lss => exact ⟨_, .bool (x < y), h, fun θ => by rw [ltZ_eq]; rfl, fun t w => by simp [binOp, Op.intCmp]⟩
  case gtr => exact ⟨_, .bool (x > y), h, fun θ => by rw [ltZ_eq]; rfl, fun t w => by simp [binOp, Op.intCmp]⟩
  case leq => exact ⟨_, .bool (x ≤ y), h, fun θ => by rw [ltZ_eq]; simp only [Ev.conc, Option.some.injEq, Value.bool.injEq]; rw [← decide_not]; exact decide_eq_decide.2 (by omega), fun t w => by simp [binOp, Op.intCmp]⟩
  case geq => exact ⟨_, .bool (x ≥ y), h, fun θ => by rw [ltZ_eq]; simp only [Ev.conc, Option.some.injEq, Value.bool.injEq]; rw [← decide_not]; exact decide_eq_decide.2 (by omega), fun t w => by simp [binOp, Op.intCmp]⟩

def shiftE (op : BinOp) (x y : AV) (k : AV → Bool) : Bool :=
  x.ckInt fun kd a => y.ckInt fun _ z => natOf z fun b =>
    match op with
    | .shl => intK kd (Int.mul a (Int.pow 2 (min b kd.bits))) k
    | .shr => forceZ (Int.fdiv a (Int.pow 2 (min b kd.bits))) fun z => k (.int kd z)
    | _ => false

/-! ### Operations on strings -/

def catK (n c m d : Nat) (k : AV → Bool) : Bool :=
  ifB (Nat.ble (Nat.add n m) 9223372036854775807) (forceN (Nat.add n m) fun l => forceN (Nat.add (Nat.mod c (Nat.pow 256 n)) (Nat.mul (Nat.pow 256 n) d)) fun e => k (.str l e))

def eqStr (n c m d : Nat) : Bool := Bool.and (Nat.beq n m) (Nat.beq (Nat.mod c (Nat.pow 256 n)) (Nat.mod d (Nat.pow 256 n)))

theorem bytesOf_mod : ∀ n c, bytesOf n (c % 256 ^ n) = bytesOf n c
  | 0, _ => rfl
  | n + 1, c => by
    have h1 : c % 256 ^ (n + 1) % 256 = c % 256 := by
      rw [Nat.pow_succ, Nat.mul_comm, Nat.mod_mul_right_mod]
    have h2 : c % 256 ^ (n + 1) / 256 = c / 256 % 256 ^ n := by
      rw [Nat.pow_succ, Nat.mul_comm, Nat.mod_mul_right_div_self]
    simp only [bytesOf, h1, h2, bytesOf_mod n]

theorem codeOf_bytesOf : ∀ n c, codeOf (bytesOf n c) = c % 256 ^ n
  | 0, c => by simp [bytesOf, codeOf, Nat.mod_one]
  | n + 1, c => by
    have h : (UInt8.ofNat (c % 256)).toNat = c % 256 := by simp
    simp only [bytesOf, codeOf, h, codeOf_bytesOf n]
    rw [Nat.pow_succ, Nat.mul_comm (256 ^ n), Nat.mod_mul]

theorem eqStr_eq (n c m d : Nat) : eqStr n c m d = ((strOf n c).toList == (strOf m d).toList) := by
  rw [ByteArray.toList_eq, ByteArray.toList_eq]
  show Bool.and _ _ = (bytesOf n c == bytesOf m d)
  rw [Bool.eq_iff_iff, beq_iff_eq, Bool.and_eq_true, Nat.beq_eq, Nat.beq_eq]
  constructor
  · rintro ⟨rfl, h⟩
    have h : c % 256 ^ n = d % 256 ^ n := h
    rw [← bytesOf_mod n c, ← bytesOf_mod n d, h]
  · intro h
    have hl : n = m := by have := congrArg List.length h; simpa [bytesOf_length] using this
    subst hl
    refine ⟨rfl, ?_⟩
    have := congrArg codeOf h
    rwa [codeOf_bytesOf, codeOf_bytesOf] at this

theorem bytesOf_append : ∀ (n c m d : Nat), bytesOf (n + m) (c % 256 ^ n + 256 ^ n * d) = bytesOf n c ++ bytesOf m d
  | 0, c, m, d => by simp [bytesOf, Nat.mod_one]
  | n + 1, c, m, d => by
    have hp : 256 ^ (n + 1) = 256 * 256 ^ n := by rw [Nat.pow_succ, Nat.mul_comm]
    have h0 : c % 256 ^ (n + 1) = c % 256 + 256 * (c / 256 % 256 ^ n) := by rw [hp, Nat.mod_mul]
    have h1 : (c % 256 ^ (n + 1) + 256 ^ (n + 1) * d) % 256 = c % 256 := by rw [h0, hp]; rw [Nat.mul_assoc]; omega
    have h2 : (c % 256 ^ (n + 1) + 256 ^ (n + 1) * d) / 256 = c / 256 % 256 ^ n + 256 ^ n * d := by rw [h0, hp]; rw [Nat.mul_assoc]; omega
    have e : n + 1 + m = (n + m) + 1 := by omega
    rw [e]
    simp only [bytesOf, h1, h2, bytesOf_append n, List.cons_append]

theorem strOf_append (n c m d : Nat) : strOf (n + m) (c % 256 ^ n + 256 ^ n * d) = strOf n c ++ strOf m d := by
  apply ByteArray.ext
  rw [ByteArray.data_append]
  apply Array.ext'
  simp only [Array.toList_append]
  exact bytesOf_append n c m d

/-- Less, byte by byte. -/
def ltStr : Nat → Nat → Nat → Nat → Bool
  | 0, _, 0, _ => false
  | 0, _, _ + 1, _ => true
  | _ + 1, _, 0, _ => false
  | n + 1, c, m + 1, d => bif Nat.blt (c % 256) (d % 256) then true else bif Nat.beq (c % 256) (d % 256) then ltStr n (c / 256) m (d / 256) else false

theorem ltStr_eq : ∀ (n c m d : Nat), ltStr n c m d = Op.bytesLess (bytesOf n c) (bytesOf m d)
  | 0, _, 0, _ => rfl
  | 0, _, _ + 1, _ => rfl
  | _ + 1, _, 0, _ => rfl
  | n + 1, c, m + 1, d => by
    have h1 : (UInt8.ofNat (c % 256) < UInt8.ofNat (d % 256)) ↔ c % 256 < d % 256 := by rw [UInt8.lt_iff_toNat_lt]; simp
    have h2 : (UInt8.ofNat (c % 256) = UInt8.ofNat (d % 256)) ↔ c % 256 = d % 256 := by rw [← UInt8.toNat_inj]; simp
    simp only [ltStr, bytesOf, Op.bytesLess]
    rw [← ltStr_eq n]
    by_cases hlt : c % 256 < d % 256
    · simp [h1, hlt, Nat.blt_eq]
    · by_cases he : c % 256 = d % 256
      · simp [he]
      · have hb : Nat.beq (c % 256) (d % 256) = false := by rw [← Bool.not_eq_true, Nat.beq_eq]; exact he
        simp [h1, hlt, blt_eq, hb, h2, he]

def binStr (op : BinOp) (n c m d : Nat) (k : AV → Bool) : Bool :=
  match op with
  | .add => catK n c m d k
  | .eql => boolK (eqStr n c m d) k
  | .neq => boolK (Bool.not (eqStr n c m d)) k
  | .lss => boolK (ltStr n c m d) k
  | .leq => boolK (Bool.or (ltStr n c m d) (eqStr n c m d)) k
  | .gtr => boolK (Bool.not (Bool.or (ltStr n c m d) (eqStr n c m d))) k
  | .geq => boolK (Bool.not (ltStr n c m d)) k
  | _ => false

theorem lessList (n c m d : Nat) : Op.bytesLess (strOf n c).toList (strOf m d).toList = ltStr n c m d := by
  rw [ByteArray.toList_eq, ByteArray.toList_eq, ltStr_eq]
  rfl

theorem binStr_ok {P : Program} {op : BinOp} {n c m d : Nat} {k : AV → Bool} (h : binStr op n c m d k = true) :
    ∃ v v', k v = true ∧ (∀ θ, Ev.conc θ v = some v') ∧ ∀ (t : TypeId) (w : World), (binOp op t (.string (strOf n c)) (.string (strOf m d))).run P w = .ok v' w := by
  cases op <;> simp only [binStr, boolK_eq] at h
  case add =>
    obtain ⟨hle, h⟩ := ifB_iff.1 h
    simp only [forceN_eq] at h
    have hle : n + m ≤ 9223372036854775807 := by simpa using hle
    refine ⟨_, .string (strOf n c ++ strOf m d), h, fun θ => ?_, fun t w => ?_⟩
    · simp only [Ev.conc]; congr 2; exact strOf_append n c m d
    · have hno : ¬ (((strOf n c).size + (strOf m d).size : Nat) : Int) > IntKind.i64.max := by
        rw [strOf_size, strOf_size]
        have : IntKind.i64.max = 9223372036854775807 := by decide
        omega
      simp only [binOp, Op.stringOp]
      rw [if_neg hno]
      rfl
  case eql => exact ⟨_, .bool ((strOf n c).toList == (strOf m d).toList), h, fun θ => by rw [eqStr_eq]; rfl, fun t w => by simp [binOp, Op.stringOp]⟩
  case neq => exact ⟨_, .bool (!((strOf n c).toList == (strOf m d).toList)), h, fun θ => by rw [eqStr_eq]; rfl, fun t w => by simp [binOp, Op.stringOp]⟩
  case lss => exact ⟨_, _, h, fun θ => rfl, fun t w => by simp only [binOp, Op.stringOp, lessList]; rfl⟩
  case leq => exact ⟨_, _, h, fun θ => rfl, fun t w => by simp only [binOp, Op.stringOp, lessList, eqStr_eq]; rfl⟩
  case gtr => exact ⟨_, _, h, fun θ => rfl, fun t w => by simp only [binOp, Op.stringOp, lessList, eqStr_eq]; rfl⟩
  case geq => exact ⟨_, _, h, fun θ => rfl, fun t w => by simp only [binOp, Op.stringOp, lessList]; rfl⟩
  all_goals cases h

end
end Ev
