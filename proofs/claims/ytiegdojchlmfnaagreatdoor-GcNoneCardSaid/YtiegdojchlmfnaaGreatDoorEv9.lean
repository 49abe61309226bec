/- A part of the proof that GcNone returns true: text Ev9. -/
import Derived.Test.YtiegdojchlmfnaaGreatDoorEv8
namespace Ev
open Go
open Go.RowKit
noncomputable section

/-! ### Unary operations, conversions -/

def unE (op : UnOp) (x : AV) (k : AV → Bool) : Bool :=
  match op with
  | .neg => x.ckInt fun kd a => intK kd (Int.sub 0 a) k
  | .not => x.ckBool fun b => boolK (Bool.not b) k
  | .xor => x.ckInt fun kd a => binInt .xor kd (Bool.rec kd.max (-1) kd.signed) a k
  | _ => false

theorem pure_un {P : Program} {env : List AV} {o : Oper} {op : UnOp} {t : Nat} {x : Operand} {k : AV → Bool} (ho : o.op = .unOp op t x)
    (h : unE op (ev P env x) k = true) : ∃ v, k v = true ∧ PureSpec P env o v := by
  have hox : x ∈ o.op.operands := by simp [ho, Op.operands]
  unfold unE at h
  split at h
  · obtain ⟨kd, a, hx, h⟩ := ckInt_iff.1 h
    rw [intK_eq] at h
    refine ⟨_, h, fun θ ac w hO => ⟨.int kd (kd.wrap (0 - a)), ?_, .inr rfl⟩⟩
    have vx := hO.at hox
    rw [hx] at vx
    simp [execOp, ho, vx.int, Op.unary, Op.intArith]
  · obtain ⟨b, hx, h⟩ := ckBool_iff.1 h
    rw [boolK_eq] at h
    refine ⟨_, h, fun θ ac w hO => ⟨.bool !b, ?_, .inr rfl⟩⟩
    have vx := hO.at hox
    rw [hx] at vx
    simp [execOp, ho, vx.bool, Op.unary]
  · obtain ⟨kd, a, hx, h⟩ := ckInt_iff.1 h
    obtain ⟨v, v', hk, hc, hr⟩ := binInt_ok (P := P) h
    refine ⟨v, hk, fun θ ac w hO => ⟨v', ?_, .inr (hc θ)⟩⟩
    have vx := hO.at hox
    rw [hx] at vx
    have e : (Bool.rec kd.max (-1) kd.signed : Int) = if kd.signed then -1 else kd.max := by cases kd.signed <;> rfl
    have hr := hr 0 w
    rw [e] at hr
    have e2 : (Op.intBits .xor kd (if kd.signed = true then -1 else kd.max) a).run P w = .ok v' w := by
      simpa [binOp] using hr
    simp [execOp, ho, vx.int, Op.unary, e2]
  · cases h

def convE (P : Program) (s d : Nat) (x : AV) (k : AV → Bool) : Bool :=
  match P.underlying s, P.underlying d with
  | some (.int _), some (.int kd) => x.ckInt fun _ a => intK kd a k
  | some .string, some .string => x.ckStr fun _ _ => k x
  | _, _ => false

theorem pure_conv {P : Program} {env : List AV} {o : Oper} {s d : Nat} {x : Operand} {k : AV → Bool} (ho : o.op = .convert s d x)
    (h : convE P s d (ev P env x) k = true) : ∃ v, k v = true ∧ PureSpec P env o v := by
  have hox : x ∈ o.op.operands := by simp [ho, Op.operands]
  unfold convE at h
  split at h
  · rename_i k1 kd h1 h2
    obtain ⟨kd', a, hx, h⟩ := ckInt_iff.1 h
    rw [intK_eq] at h
    refine ⟨_, h, fun θ ac w hO => ⟨.int kd (kd.wrap a), ?_, .inr rfl⟩⟩
    have vx := hO.at hox
    rw [hx] at vx
    simp [execOp, ho, vx.int, convert, run_underlying h1, run_underlying h2, Conv.intToInt]
  · rename_i h1 h2
    obtain ⟨n, c, hx, h⟩ := ckStr_iff.1 h
    refine ⟨_, h, fun θ ac w hO => ⟨.string (strOf n c), ?_, .inr (by rw [hx]; rfl)⟩⟩
    have vx := hO.at hox
    rw [hx] at vx
    simp [execOp, ho, vx.str, convert, run_underlying h1, run_underlying h2]
  · cases h

/-! ### Slicing -/

/-- A bound that may not be written. -/
def bnd (x : Option AV) (d : Nat) (f : Nat → Bool) : Bool :=
  match x with
  | none => f d
  | some a => a.ckInt fun _ z => natOf z f

def sliceK (es : Nat) (x : AV) (lo hi : Option AV) (k : AV → Bool) : Bool :=
  x.ckSl (bnd lo 0 fun l => bnd hi 0 fun h => ifB (Bool.and (Nat.beq l 0) (Nat.beq h 0)) (k .nils))
    (fun b o len cap => bnd lo 0 fun l => bnd hi len fun h => ifB (Nat.ble l h)
      (Cap.rec (motive := fun _ => Bool)
        (fun c => ifB (Nat.ble h c) (Bool.rec (forceN (Nat.add o (Nat.mul l es)) fun q => forceN (Nat.sub h l) fun n => forceN (Nat.sub c l) fun c => k (.sl b q n (.known c))) (k (.sl b o 0 (.known 0))) (Nat.beq c l)))
        (fun e => ifB (Bool.and (Nat.beq e es) (Bool.and (Nat.ble h len) (Bool.or (Nat.beq l 0) (Nat.blt l len)))) (forceN (Nat.add o (Nat.mul l es)) fun q => forceN (Nat.sub h l) fun n => k (.sl b q n (.opn e)))) cap))
    (fun _ _ _ _ => false)

def sliceStrK (x : AV) (lo hi : Option AV) (k : AV → Bool) : Bool :=
  x.ckStr fun n c => bnd lo 0 fun l => bnd hi n fun h => ifB (Bool.and (Nat.ble l h) (Nat.ble h n))
    (forceN (Nat.sub h l) fun m => forceN (Nat.mod (Nat.div c (Nat.pow 256 l)) (Nat.pow 256 m)) fun d => k (.str m d))

def sliceArrK (n es : Nat) (x : AV) (lo hi : Option AV) (k : AV → Bool) : Bool :=
  x.ckPtr fun b o => bnd lo 0 fun l => bnd hi n fun h => ifB (Bool.and (Nat.ble l h) (Nat.ble h n))
    (Bool.rec (forceN (Nat.add o (Nat.mul l es)) fun q => forceN (Nat.sub h l) fun m => forceN (Nat.sub n l) fun c => k (.sl b q m (.known c))) (k (.sl b o 0 (.known 0))) (Nat.beq n l))

def sliceE (P : Program) (t : Nat) (x : AV) (lo hi : Option AV) (k : AV → Bool) : Bool :=
  match P.underlying t with
  | some .string => sliceStrK x lo hi k
  | some (.slice e) => if P.cellsOf e = 0 then false else sliceK (P.cellsOf e) x lo hi k
  | some (.array n e) => if P.cellsOf e = 0 then false else sliceArrK n (P.cellsOf e) x lo hi k
  | _ => false

theorem bnd_ok {x : Option AV} {d : Nat} {f : Nat → Bool} (h : bnd x d f = true) :
    ∃ n : Nat, f n = true ∧ (x = none → n = d) ∧ ∀ (θ : Theta) (v : Value) (a : AV), x = some a → VR θ a v → ∃ kd, v = .int kd n := by
  unfold bnd at h
  cases x with
  | none => exact ⟨d, h, fun _ => rfl, fun θ v a e => by cases e⟩
  | some a =>
    obtain ⟨kd, z, rfl, h⟩ := ckInt_iff.1 h
    obtain ⟨n, rfl, h⟩ := natOf_iff.1 h
    refine ⟨n, h, (fun e => by cases e), fun θ v a e hv => ?_⟩
    injection e with e
    subst e
    exact ⟨kd, hv.int⟩

theorem run_sliceBound_nat {P : Program} (kd : IntKind) (n y : Nat) (code : BoundsCode) (w : World) (h : n ≤ y) : (Instr.sliceBound (.int kd n) y code).run P w = .ok n w := by
  have h1 : (0 : Int) ≤ (n : Int) ∧ (n : Int) ≤ (y : Int) := by omega
  simp [Instr.sliceBound, asIntOf, h]

theorem run_sliceBounds_nat {P : Program} (isS : Bool) (len cap l h : Nat) (lo hi : Option Value) (w : World)
    (hl : (lo = none ∧ l = 0) ∨ ∃ kd, lo = some (.int kd l)) (hh : (hi = none ∧ h = len) ∨ ∃ kd, hi = some (.int kd h)) (h1 : l ≤ h) (h2 : h ≤ cap) :
    (Instr.sliceBounds isS len cap lo hi none).run P w = .ok (l, h, cap) w := by
  rcases hl with ⟨rfl, rfl⟩ | ⟨kd, rfl⟩ <;> rcases hh with ⟨rfl, rfl⟩ | ⟨kd', rfl⟩ <;> simp [Instr.sliceBounds, run_sliceBound_nat, h1, h2]

theorem opt_bnd {P : Program} {θ : Theta} {env : List AV} {ac : Act} {lo : Option Operand} {d n : Nat} (hO : ∀ x, lo = some x → VR θ (ev P env x) (ac.eval x))
    (h1 : lo.map (ev P env) = none → n = d) (h2 : ∀ (v : Value) (a : AV), lo.map (ev P env) = some a → VR θ a v → ∃ kd, v = .int kd n) :
    (lo.map ac.eval = none ∧ n = d) ∨ ∃ kd, lo.map ac.eval = some (.int kd n) := by
  cases lo with
  | none => exact .inl ⟨rfl, h1 rfl⟩
  | some x =>
    obtain ⟨kd, e⟩ := h2 (ac.eval x) (ev P env x) rfl (hO x rfl)
    exact .inr ⟨kd, by simp [e]⟩

theorem strOf_extract (n c l h : Nat) (h2 : h ≤ n) (h1 : l ≤ h) : (strOf n c).extract l h = strOf (h - l) (c / 256 ^ l % 256 ^ (h - l)) := by
  apply ByteArray.ext
  apply Array.ext'
  have e : ((strOf n c).extract l h).data.toList = ((bytesOf n c).take h).drop l := by
    rw [ByteArray.data_extract]
    simp [strOf, List.drop_take]
  rw [e]
  show _ = bytesOf (h - l) (c / 256 ^ l % 256 ^ (h - l))
  rw [bytesOf_mod]
  apply List.ext_getElem?
  intro i
  by_cases hi : i < h - l
  · rw [bytesOf_get _ _ _ hi, List.getElem?_drop, List.getElem?_take, if_pos (by omega), bytesOf_get _ _ _ (by omega), Nat.div_div_eq_div_mul, ← Nat.pow_add]
  · rw [List.getElem?_eq_none (by simp [bytesOf_length]; omega), List.getElem?_eq_none (by simp [bytesOf_length]; omega)]

theorem pure_slice {P : Program} {env : List AV} {o : Oper} {t : Nat} {x : Operand} {lo hi : Option Operand} {k : AV → Bool} (ho : o.op = .slice t x lo hi none)
    (h : sliceE P t (ev P env x) (lo.map (ev P env)) (hi.map (ev P env)) k = true) : ∃ v, k v = true ∧ PureSpec P env o v := by
  have hox : x ∈ o.op.operands := by simp [ho, Op.operands]
  have hol : ∀ y, lo = some y → y ∈ o.op.operands := fun y e => by simp [ho, Op.operands, e]
  have hoh : ∀ y, hi = some y → y ∈ o.op.operands := fun y e => by simp [ho, Op.operands, e]
  unfold sliceE at h
  split at h
  · rename_i hu
    obtain ⟨n, c, hx, h⟩ := ckStr_iff.1 h
    obtain ⟨l, h, l1, l2⟩ := bnd_ok h
    obtain ⟨g, h, g1, g2⟩ := bnd_ok h
    obtain ⟨hb, h⟩ := ifB_iff.1 h
    simp only [forceN_eq] at h
    have hb : l ≤ g ∧ g ≤ n := by simpa using hb
    refine ⟨_, h, fun θ ac w hO => ⟨.string ((strOf n c).extract l g), ?_, .inr ?_⟩⟩
    · have vx := hO.at hox
      rw [hx] at vx
      have e1 := opt_bnd (fun y e => hO.at (hol y e)) l1 (l2 θ)
      have e2 := opt_bnd (fun y e => hO.at (hoh y e)) g1 (g2 θ)
      have e3 := run_sliceBounds_nat (P := P) false (strOf n c).size (strOf n c).size l g (lo.map ac.eval) (hi.map ac.eval) w e1 (by rw [strOf_size]; exact e2) hb.1 (by rw [strOf_size]; exact hb.2)
      simp [execOp, ho, vx.str, Instr.sliceAt, Instr.slice, run_underlying hu, e3]
    · simp only [Ev.conc]; congr 2; exact (strOf_extract n c l g hb.2 hb.1).symm
  · rename_i e hu
    split at h
    · cases h
    · rename_i hz
      obtain ⟨inf, hinf, _⟩ := info_of_cells hz
      rcases ckSl_iff.1 h with ⟨hx, h⟩ | ⟨b, q, len, cap, hx, h⟩ | ⟨_, _, _, _, _, h⟩
      · obtain ⟨l, h, l1, l2⟩ := bnd_ok h
        obtain ⟨g, h, g1, g2⟩ := bnd_ok h
        obtain ⟨hb, h⟩ := ifB_iff.1 h
        have hb : l = 0 ∧ g = 0 := by simpa using hb
        obtain ⟨rfl, rfl⟩ := hb
        refine ⟨_, h, fun θ ac w hO => ⟨.slice none 0 0, ?_, .inr rfl⟩⟩
        have vx := hO.at hox
        rw [hx] at vx
        have e1 := opt_bnd (fun y e => hO.at (hol y e)) l1 (l2 θ)
        have e2 := opt_bnd (fun y e => hO.at (hoh y e)) g1 (g2 θ)
        have e3 := run_sliceBounds_nat (P := P) true 0 0 0 0 (lo.map ac.eval) (hi.map ac.eval) w e1 e2 (Nat.le_refl _) (Nat.le_refl _)
        simp [execOp, ho, vx.nils, Instr.sliceAt, Instr.slice, run_underlying hu, e3, run_sizeOf w hinf]
      · obtain ⟨l, h, l1, l2⟩ := bnd_ok h
        obtain ⟨g, h, g1, g2⟩ := bnd_ok h
        obtain ⟨hlg, h⟩ := ifB_iff.1 h
        have hlg : l ≤ g := by simpa using hlg
        have run : ∀ (θ : Theta) (ac : Act) (w : World) (ad : Addr) (c : Nat), Opd P θ env o ac → ac.eval x = .slice (some ad) len c → g ≤ c →
            (execOp ac.eval o).run P w = .ok (.value (.slice (some (if c = l then ad else ad.add (l * P.cellsOf e))) (g - l) (c - l))) w := by
          intro θ ac w ad c hO vx hgc
          have e1 := opt_bnd (fun y e => hO.at (hol y e)) l1 (l2 θ)
          have e2 := opt_bnd (fun y e => hO.at (hoh y e)) g1 (g2 θ)
          have e3 := run_sliceBounds_nat (P := P) true len c l g (lo.map ac.eval) (hi.map ac.eval) w e1 e2 hlg hgc
          simp only [execOp, ho, vx, Instr.sliceAt, Instr.slice, Sem.run_bind, run_underlying hu, Result.andThen_ok, Option.map_none, e3, run_sizeOf w hinf, Sem.run_pure]
          congr 3
          split <;> simp
        cases cap with
        | known c =>
          obtain ⟨hgc, h⟩ := ifB_iff.1 h
          have hgc : g ≤ c := by simpa using hgc
          cases hcl : Nat.beq c l with
          | true =>
            have hcl' : c = l := by simpa using hcl
            simp only [hcl] at h
            refine ⟨_, h, fun θ ac w hO => ?_⟩
            have vx := hO.at hox
            rw [hx] at vx
            obtain ⟨lc, hlc, vx⟩ := vx.sl
            refine ⟨_, run θ ac w _ _ hO vx hgc, .inr ?_⟩
            have e0 : g - l = 0 := by omega
            have e1 : Cap.of (.known c) lc q - l = 0 := by show c - l = 0; omega
            have e2 : Cap.of (.known c) lc q = l := hcl'
            rw [if_pos e2, e0, e1, conc_slk hlc]
          | false =>
            have hcl' : c ≠ l := by intro e'; rw [e'] at hcl; simp at hcl
            simp only [hcl, forceN_eq] at h
            refine ⟨_, h, fun θ ac w hO => ?_⟩
            have vx := hO.at hox
            rw [hx] at vx
            obtain ⟨lc, hlc, vx⟩ := vx.sl
            refine ⟨_, run θ ac w _ _ hO vx hgc, .inr ?_⟩
            have e2 : Cap.of (.known c) lc q ≠ l := hcl'
            rw [if_neg e2, Loc.addr_add, conc_slk hlc]
            rfl
        | opn es =>
          obtain ⟨hc, h⟩ := ifB_iff.1 h
          have hc : es = P.cellsOf e ∧ g ≤ len ∧ (l = 0 ∨ l < len) := by simpa [blt_eq] using hc
          obtain ⟨rfl, hgl, hll⟩ := hc
          simp only [forceN_eq] at h
          refine ⟨_, h, fun θ ac w hO => ?_⟩
          have vx := hO.at hox
          rw [hx] at vx
          obtain ⟨lc, hlc, vx, hok⟩ := vx.sl'
          have hok : len ≤ (lc.size - q) / P.cellsOf e := hok
          have hpos : 0 < P.cellsOf e := by omega
          have hdiv : (lc.size - (q + l * P.cellsOf e)) / P.cellsOf e = (lc.size - q) / P.cellsOf e - l := by
            rw [← Nat.sub_sub, Nat.mul_comm, Nat.sub_mul_div]
          refine ⟨_, run θ ac w _ _ hO vx (by show g ≤ (lc.size - q) / P.cellsOf e; omega), .inr ?_⟩
          have hk : Cap.ok (.opn (P.cellsOf e)) lc (q + l * P.cellsOf e) (g - l) := by show g - l ≤ _; rw [hdiv]; omega
          have e4 : conc θ (.sl b (q.add (l.mul (P.cellsOf e))) (g.sub l) (.opn (P.cellsOf e))) = some (.slice (some (lc.addr (q + l * P.cellsOf e))) (g - l) ((lc.size - q) / P.cellsOf e - l)) := by
            rw [← hdiv]; exact conc_sl hlc hk
          rw [e4]
          congr 2
          split
          · rename_i hcl
            have hcl : (lc.size - q) / P.cellsOf e = l := hcl
            have : l = 0 := by omega
            subst this
            simp
          · rw [Loc.addr_add]
      · cases h
  · rename_i n e hu
    split at h
    · cases h
    · rename_i hz
      obtain ⟨inf, hinf, _⟩ := info_of_cells hz
      obtain ⟨b, q, hx, h⟩ := ckPtr_iff.1 h
      obtain ⟨l, h, l1, l2⟩ := bnd_ok h
      obtain ⟨g, h, g1, g2⟩ := bnd_ok h
      obtain ⟨hb, h⟩ := ifB_iff.1 h
      have hb : l ≤ g ∧ g ≤ n := by simpa using hb
      have run : ∀ (θ : Theta) (ac : Act) (w : World) (ad : Addr), Opd P θ env o ac → ac.eval x = .pointer (some ad) →
          (execOp ac.eval o).run P w = .ok (.value (.slice (some (if n = l then ad else ad.add (l * P.cellsOf e))) (g - l) (n - l))) w := by
        intro θ ac w ad hO vx
        have e1 := opt_bnd (fun y e => hO.at (hol y e)) l1 (l2 θ)
        have e2 := opt_bnd (fun y e => hO.at (hoh y e)) g1 (g2 θ)
        have e3 := run_sliceBounds_nat (P := P) false n n l g (lo.map ac.eval) (hi.map ac.eval) w e1 e2 hb.1 hb.2
        simp [execOp, ho, vx, Instr.sliceAt, Instr.sureAddr, run_underlying hu, e3, run_sizeOf w hinf]
      cases hcl : Nat.beq n l with
      | true =>
        have hcl' : n = l := by simpa using hcl
        simp only [hcl] at h
        refine ⟨_, h, fun θ ac w hO => ?_⟩
        have vx := hO.at hox
        rw [hx] at vx
        obtain ⟨lc, hlc, vx⟩ := vx.ptr
        refine ⟨_, run θ ac w _ hO vx, .inr ?_⟩
        have e0 : g - l = 0 := by omega
        have e1 : n - l = 0 := by omega
        rw [if_pos hcl', e0, e1, conc_slk hlc]
      | false =>
        have hcl' : n ≠ l := by intro e'; rw [e'] at hcl; simp at hcl
        simp only [hcl, forceN_eq] at h
        refine ⟨_, h, fun θ ac w hO => ?_⟩
        have vx := hO.at hox
        rw [hx] at vx
        obtain ⟨lc, hlc, vx⟩ := vx.ptr
        refine ⟨_, run θ ac w _ hO vx, .inr ?_⟩
        rw [if_neg hcl', Loc.addr_add, conc_slk hlc]
        rfl
  · cases h

end
end Ev
