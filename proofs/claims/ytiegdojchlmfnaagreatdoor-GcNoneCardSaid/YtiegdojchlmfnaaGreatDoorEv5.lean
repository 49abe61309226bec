/- A part of the proof that GcNone returns true: text Ev5. -/
import Derived.Test.YtiegdojchlmfnaaGreatDoorEv4
namespace Ev
open Go
open Go.RowKit
noncomputable section

/-! ### Fields and elements of values -/

def fieldE (P : Program) (t : Nat) (x : AV) (f : Nat) (k : AV → Bool) : Bool :=
  match P.underlying t with
  | some (.struct fields) => match fields[f]? with
    | some fl => x.ckAgg fun l => partE P fl.type fl.offset l k
    | none => false
  | _ => false

theorem pure_field {P : Program} {env : List AV} {o : Oper} {t f : Nat} {x : Operand} {k : AV → Bool} (ho : o.op = .field t x f)
    (h : fieldE P t (ev P env x) f k = true) : ∃ v, k v = true ∧ PureSpec P env o v := by
  unfold fieldE at h
  split at h
  · rename_i fields hu
    split at h
    · rename_i fl hfl
      obtain ⟨l, hx, h⟩ := ckAgg_iff.1 h
      obtain ⟨v, hk, hp⟩ := part_ok h
      refine ⟨v, hk, fun θ ac w hO => ?_⟩
      have hv := hO.at (x := x) (by simp [ho, Op.operands])
      rw [hx] at hv
      obtain ⟨vs, hc, hv⟩ := hv.agg
      obtain ⟨v', hr, hc'⟩ := hp θ vs w hc
      exact ⟨v', by simp [execOp, ho, hv, Instr.field, run_underlying hu, hfl, asAgg, hr], .inr hc'⟩
    · cases h
  · cases h

def indexStrK (x i : AV) (k : AV → Bool) : Bool :=
  x.ckStr fun n c => i.ckInt fun _ z => natOf z fun j => ifB (Nat.blt j n) (forceN (Nat.mod (Nat.div c (Nat.pow 256 j)) 256) fun b => k (.int .u8 (.ofNat b)))

theorem bytesOf_get : ∀ (n c j : Nat), j < n → (bytesOf n c)[j]? = some (UInt8.ofNat (c / 256 ^ j % 256))
  | 0, _, _, h => by omega
  | n + 1, c, 0, _ => by simp [bytesOf]
  | n + 1, c, j + 1, h => by
    simp only [bytesOf, List.getElem?_cons_succ]
    rw [bytesOf_get n (c / 256) j (by omega), Nat.div_div_eq_div_mul, Nat.pow_succ, Nat.mul_comm]

theorem strOf_size (n c : Nat) : (strOf n c).size = n := by
  show (bytesOf n c).toArray.size = n
  simp [bytesOf_length]

theorem strOf_get {n c j : Nat} (h : j < n) : (strOf n c)[j]? = some (UInt8.ofNat (c / 256 ^ j % 256)) := by
  have h1 : j < (strOf n c).size := by rw [strOf_size]; exact h
  have h2 := bytesOf_get n c j h
  have h3 : j < (bytesOf n c).length := by rw [bytesOf_length]; exact h
  rw [List.getElem?_eq_getElem h3] at h2
  injection h2 with h2
  rw [getElem?_pos (strOf n c) j h1]
  congr 1

def indexE (P : Program) (t : Nat) (x i : AV) (k : AV → Bool) : Bool :=
  match P.underlying t with
  | some .string => indexStrK x i k
  | some (.array n e) => if P.cellsOf e = 0 then false else x.ckAgg fun l => i.ckInt fun _ z => natOf z fun j => ifB (Nat.blt j n) (partE P e (j * P.cellsOf e) l k)
  | _ => false

theorem pure_index {P : Program} {env : List AV} {o : Oper} {t : Nat} {x i : Operand} {k : AV → Bool} (ho : o.op = .index t x i)
    (h : indexE P t (ev P env x) (ev P env i) k = true) : ∃ v, k v = true ∧ PureSpec P env o v := by
  unfold indexE at h
  split at h
  · rename_i hu
    obtain ⟨n, c, hx, h⟩ := ckStr_iff.1 h
    obtain ⟨kd, z, hi, h⟩ := ckInt_iff.1 h
    obtain ⟨j, rfl, h⟩ := natOf_iff.1 h
    obtain ⟨hlt, h⟩ := ifB_iff.1 h
    rw [forceN_eq] at h
    refine ⟨_, h, fun θ ac w hO => ?_⟩
    have hv := hO.at (x := x) (by simp [ho, Op.operands])
    have hn := hO.at (x := i) (by simp [ho, Op.operands])
    rw [hx] at hv; rw [hi] at hn
    have hv := hv.str
    have hn := hn.int
    have hlt : j < n := by simpa [Nat.blt_eq] using hlt
    have hm : c / 256 ^ j % 256 < 256 := Nat.mod_lt _ (by omega)
    refine ⟨.int .u8 ((c / 256 ^ j % 256 : Nat) : Int), ?_, .inr rfl⟩
    simp [execOp, ho, hv, hn, Instr.index, run_underlying hu, asIntOf, strOf_get hlt]
  · rename_i n e hu
    split at h
    · cases h
    · rename_i hz
      obtain ⟨l, hx, h⟩ := ckAgg_iff.1 h
      obtain ⟨kd, z, hi, h⟩ := ckInt_iff.1 h
      obtain ⟨j, rfl, h⟩ := natOf_iff.1 h
      obtain ⟨hlt, h⟩ := ifB_iff.1 h
      obtain ⟨v, hk, hp⟩ := part_ok h
      obtain ⟨inf, hinf, _⟩ := info_of_cells hz
      refine ⟨v, hk, fun θ ac w hO => ?_⟩
      have hv := hO.at (x := x) (by simp [ho, Op.operands])
      have hn := hO.at (x := i) (by simp [ho, Op.operands])
      rw [hx] at hv; rw [hi] at hn
      obtain ⟨vs, hc, hv⟩ := hv.agg
      have hn := hn.int
      obtain ⟨v', hr, hc'⟩ := hp θ vs w hc
      have hlt : j < n := by simpa [Nat.blt_eq] using hlt
      have h2 : ¬ n ≤ j := by omega
      exact ⟨v', by simp [execOp, ho, hv, hn, Instr.index, run_underlying hu, asIntOf, hlt, run_sizeOf w hinf, hr], .inr hc'⟩
  · cases h

theorem pure_extract {P : Program} {env : List AV} {o : Oper} {x : Operand} {i : Nat} {k : AV → Bool} (ho : o.op = .extract x i)
    (h : (ev P env x).ckTup (fun l => nthK i l k) = true) : ∃ v, k v = true ∧ PureSpec P env o v := by
  obtain ⟨l, hx, h⟩ := ckTup_iff.1 h
  obtain ⟨a, h1, h2⟩ := nthK_iff.1 h
  refine ⟨a, h2, fun θ ac w hO => ?_⟩
  have hv := hO.at (x := x) (by simp [ho, Op.operands])
  rw [hx] at hv
  obtain ⟨vs, hc, hv⟩ := hv.tup
  obtain ⟨v, hv', hc⟩ := concs_getElem hc h1
  exact ⟨v, by simp [execOp, ho, hv, Instr.extract, hv'], .inr hc⟩

/-! ### Making values -/

theorem pure_iface {P : Program} {env : List AV} {o : Oper} {t : Nat} {x : Operand} {k : AV → Bool} (ho : o.op = .makeInterface t x)
    (h : (match P.underlying t with | some (.interface _) | none => false | some _ => (ev P env x).ckOk (k (.iface t (ev P env x)))) = true) : ∃ v, k v = true ∧ PureSpec P env o v := by
  split at h
  · cases h
  · cases h
  · rename_i d hd hu
    obtain ⟨hb, h⟩ := ckOk_iff.1 h
    refine ⟨_, h, fun θ ac w hO => ?_⟩
    have hv := (hO.at (x := x) (by simp [ho, Op.operands])).conc hb
    refine ⟨.iface t (ac.eval x), ?_, .inr (by simp [Ev.conc, hv])⟩
    simp only [execOp, ho, Instr.makeInterface, Sem.run_bind, run_underlying hu, Result.andThen_ok]
    cases d <;> first | exact absurd hu (hd _) | rfl

/-- All of some values are known. -/
def okAll : List AV → Bool → Bool
  | [], y => hi y
  | a :: l, y => a.ckOk (okAll l y)

theorem okAll_iff : ∀ {l : List AV} {y : Bool}, okAll l y = true ↔ (∀ a ∈ l, a ≠ .bad) ∧ y = true
  | [], y => by simp [okAll, hi_eq]
  | a :: l, y => by simp [okAll, ckOk_iff, okAll_iff, and_assoc]

theorem concs_map {P : Program} {θ : Theta} {env : List AV} {ac : Act} : ∀ {xs : List Operand}, (∀ x ∈ xs, VR θ (ev P env x) (ac.eval x)) → (∀ a ∈ xs.map (ev P env), a ≠ .bad) →
    concs θ (xs.map (ev P env)) = some (xs.map ac.eval)
  | [], _, _ => rfl
  | x :: xs, h, hb => concs_cons.2 ⟨_, _, (h x (by simp)).conc (hb _ (by simp)), concs_map (fun y hy => h y (by simp [hy])) (fun a ha => hb a (by simp only [List.map_cons, List.mem_cons]; exact .inr ha)), rfl⟩

def mkFuncE (P : Program) (env : List AV) (f : Fn) (first cap : Array Operand) (k : AV → Bool) : Bool :=
  if fnOk f then okAll (first.toList.map (ev P env)) (okAll (cap.toList.map (ev P env)) (k (.fn f (first.toList.map (ev P env)) (cap.toList.map (ev P env))))) else false

theorem pure_makeFunc {P : Program} {env : List AV} {o : Oper} {f : Fn} {first cap : Array Operand} {k : AV → Bool} (ho : o.op = .makeFunc f first cap)
    (h : mkFuncE P env f first cap k = true) : ∃ v, k v = true ∧ PureSpec P env o v := by
  unfold mkFuncE at h
  split at h
  case isFalse => cases h
  rename_i hf
  obtain ⟨h1, h⟩ := okAll_iff.1 h
  obtain ⟨h2, h⟩ := okAll_iff.1 h
  refine ⟨_, h, fun θ ac w hO => ⟨.func f (first.map ac.eval) (cap.map ac.eval), by simp [execOp, ho, Instr.makeFunc], .inr ?_⟩⟩
  have e1 := concs_map (θ := θ) (ac := ac) (xs := first.toList) (fun x hx => hO.at (by simp [ho, Op.operands] at hx ⊢; exact .inl hx)) h1
  have e2 := concs_map (θ := θ) (ac := ac) (xs := cap.toList) (fun x hx => hO.at (by simp [ho, Op.operands] at hx ⊢; exact .inr hx)) h2
  simp only [Ev.conc, e1, e2, fnC_ok hf, Option.map_some]
  congr 2 <;> (apply Array.ext'; simp)

/-- A value that is not nil (a pointer, a function of the text, a value of an interface). -/
def nilK (x : AV) (k : Bool) : Bool :=
  AV.casesOn (motive_1 := fun _ => Bool) x false (fun _ => false) (fun _ _ => false) (fun _ _ => false) false (fun _ _ => k) false (fun _ _ _ _ => false) (fun _ _ _ _ => false) false (fun _ => false)
    (fun f _ _ => Fn.casesOn (motive := fun _ => Bool) f (fun _ => k) (fun _ => false) (fun _ _ => false) (fun _ _ _ _ => k) (fun _ => k)) false (fun _ _ => k) false (fun _ => false) (fun _ => false) (fun _ => false)

theorem pure_nilCheck {P : Program} {env : List AV} {o : Oper} {x : Operand} {k : AV → Bool} (ho : o.op = .nilCheck x)
    (h : nilK (ev P env x) (k (ev P env x)) = true) : ∃ v, k v = true ∧ PureSpec P env o v := by
  have key : k (ev P env x) = true ∧ ∀ (θ : Theta) (ac : Act) (w : World), VR θ (ev P env x) (ac.eval x) → (execOp ac.eval o).run P w = .ok (.value (ac.eval x)) w := by
    generalize hx : ev P env x = v at h
    cases v with
    | ptr b q => exact ⟨h, fun θ ac w hv => by obtain ⟨l, _, hv⟩ := hv.ptr; simp [execOp, ho, hv, Loc.addr]⟩
    | iface t y =>
      refine ⟨h, fun θ ac w hv => ?_⟩
      have := hv.conc (by simp); simp only [Ev.conc, Option.map_eq_some_iff] at this
      obtain ⟨y', _, e⟩ := this
      simp [execOp, ho, ← e]
    | fn f a b =>
      cases f with
      | func f => exact ⟨h, fun θ ac w hv => by obtain ⟨_, _, g, hg, _, _, hv⟩ := hv.fn; simp only [fnC, Option.some.injEq] at hg; subst hg; simp [execOp, ho, hv]⟩
      | via t p f q => exact ⟨h, fun θ ac w hv => by obtain ⟨_, _, g, hg, _, _, hv⟩ := hv.fn; simp only [fnC, Option.some.injEq] at hg; subst hg; simp [execOp, ho, hv]⟩
      | yield l =>
        refine ⟨h, fun θ ac w hv => ?_⟩
        obtain ⟨_, _, g, hg, _, _, hv⟩ := hv.fn
        simp only [fnC, Option.map_eq_some_iff] at hg
        obtain ⟨_, _, rfl⟩ := hg
        simp [execOp, ho, hv]
      | _ => cases h
    | _ => cases h
  exact ⟨_, key.1, fun θ ac w hO => ⟨_, key.2 θ ac w (hO.at (by simp [ho, Op.operands])), hO.at (by simp [ho, Op.operands])⟩⟩

end
end Ev
