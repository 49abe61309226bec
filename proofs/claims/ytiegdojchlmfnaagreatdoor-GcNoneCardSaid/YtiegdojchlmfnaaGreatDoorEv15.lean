/- A part of the proof that GcNone returns true: text Ev15. -/
import Derived.Test.YtiegdojchlmfnaaGreatDoorEv14
namespace Ev
open Go
open Go.RowKit
noncomputable section

/-! ### Are two pointers equal -/

/-- A row of cells of our own. -/
def ownK (H : Heap) (b : Nat) (y : Bool) : Bool := at_ H b fun bl => bl.ckCells fun ro _ _ _ => Bool.rec y false ro

theorem ownK_iff {H : Heap} {b : Nat} {y : Bool} (h : ownK H b y = true) : (∃ ex len c, hfn H b = .cells false ex len c) ∧ y = true := by
  obtain ⟨_, h⟩ := at_iff.1 h
  obtain ⟨ro, ex, len, c, hb, h⟩ := ckCells_iff.1 h
  cases ro with
  | false => exact ⟨⟨ex, len, c, hb⟩, h⟩
  | true => exact (Bool.false_ne_true h).elim

def ptrEqK (H : Heap) (x y : AV) (k : Bool → Bool) : Bool :=
  AV.casesOn (motive_1 := fun _ => Bool) x false (fun _ => false) (fun _ _ => false) (fun _ _ => false)
    (nilP y k)
    (fun b o => AV.casesOn (motive_1 := fun _ => Bool) y false (fun _ => false) (fun _ _ => false) (fun _ _ => false) (k false)
      (fun c p => Bool.rec (ownK H b (ownK H c (k false))) (k (Nat.beq o p)) (Nat.beq b c))
      false (fun _ _ _ _ => false) (fun _ _ _ _ => false) false (fun _ => false) (fun _ _ _ => false) false (fun _ _ => false) false (fun _ => false) (fun _ => false) (fun _ => false))
    false (fun _ _ _ _ => false) (fun _ _ _ _ => false) false (fun _ => false) (fun _ _ _ => false) false (fun _ _ => false) false (fun _ => false) (fun _ => false) (fun _ => false)

theorem addr_beq (l : Loc) (o p : Nat) : (l.addr o == l.addr p) = Nat.beq o p := by
  rw [Bool.eq_iff_iff, beq_iff_eq, Nat.beq_eq]
  constructor
  · intro h
    have := congrArg Addr.off h
    simp only [Loc.addr] at this
    omega
  · rintro rfl; rfl

theorem own_cells {P : Program} {θ : Theta} {B : Nat} {w : World} {l : Loc} {ex : Bool} {len : Nat} {c : Cells} (r : BRel P θ B w l (.cells false ex len c)) :
    ∃ cs e, w.heap[l.blk]? = some (.cells cs e (0, 0)) ∧ cs.size = l.off + l.size := let ⟨_, cs, e, h, hs, _⟩ := r.2.2 rfl; ⟨cs, e, h, hs⟩

theorem ptrEqK_ok {H : Heap} {x y : AV} {k : Bool → Bool} (h : ptrEqK H x y k = true) :
    ∃ r, k r = true ∧ ∀ (P : Program) (θ : Theta) (B : Nat) (w : World) (xv yv : Value), HRel P θ (hfn H) B w → VR θ x xv → VR θ y yv →
      ∃ p q, xv = .pointer p ∧ yv = .pointer q ∧ (samePointer p q).run P w = .ok r w := by
  cases x <;> first | exact (Bool.false_ne_true h).elim | skip
  · cases y <;> first | exact (Bool.false_ne_true h).elim | skip
    · exact ⟨true, h, fun P θ B w xv yv r hx hy => ⟨_, _, hx.nilp, hy.nilp, by simp [samePointer]⟩⟩
    · exact ⟨false, h, fun P θ B w xv yv r hx hy => by
        obtain ⟨l, _, hy⟩ := hy.ptr
        exact ⟨_, _, hx.nilp, hy, by simp [samePointer]⟩⟩
  · rename_i b o
    cases y <;> first | exact (Bool.false_ne_true h).elim | skip
    · exact ⟨false, h, fun P θ B w xv yv r hx hy => by
        obtain ⟨l, _, hx⟩ := hx.ptr
        exact ⟨_, _, hx, hy.nilp, by simp [samePointer]⟩⟩
    · rename_i c p
      have h2 : (Bool.rec (motive := fun _ => Bool) (ownK H b (ownK H c (k false))) (k (Nat.beq o p)) (Nat.beq b c)) = true := h
      cases hbc : Nat.beq b c with
      | true =>
        simp only [hbc] at h2
        have e : b = c := by simpa using hbc
        subst e
        refine ⟨_, h2, fun P θ B w xv yv r hx hy => ?_⟩
        obtain ⟨l, hl, hx⟩ := hx.ptr
        obtain ⟨l', hl', hy⟩ := hy.ptr
        rw [hl] at hl'; injection hl' with hl'; subst hl'
        refine ⟨_, _, hx, hy, ?_⟩
        have : ((l.addr o).block == (l.addr p).block) = true := by simp [Loc.addr]
        simp only [samePointer, sameAddr, this, if_true, addr_beq]
        rfl
      | false =>
        simp only [hbc] at h2
        obtain ⟨⟨ex, len, cc, hb⟩, h3⟩ := ownK_iff h2
        obtain ⟨⟨ex', len', cc', hc⟩, h4⟩ := ownK_iff h3
        refine ⟨_, h4, fun P θ B w xv yv r hx hy => ?_⟩
        obtain ⟨l, hl, hx⟩ := hx.ptr
        obtain ⟨l', hl', hy⟩ := hy.ptr
        refine ⟨_, _, hx, hy, ?_⟩
        have hne : l.blk ≠ l'.blk := by
          intro e
          have hbn : hfn H b ≠ .dead := by rw [hb]; simp
          have hcn : hfn H c ≠ .dead := by rw [hc]; simp
          have := r.inj b c l l' hbn hcn hl hl' e
          subst this
          simp at hbc
        have rb := r.at hl
        have rc := r.at hl'
        rw [hb] at rb; rw [hc] at rc
        obtain ⟨cs, e, hw, hs⟩ := own_cells rb
        obtain ⟨cs', e', hw', hs'⟩ := own_cells rc
        have h1 : ((l.addr o).block == (l'.addr p).block) = false := by simpa [Loc.addr] using hne
        have f1 : ∀ q, w.frozen? ⟨l.blk, q, none⟩ = false := fun q => by simp [World.frozen?, hw]
        have f2 : ∀ q, w.frozen? ⟨l'.blk, q, none⟩ = false := fun q => by simp [World.frozen?, hw']
        have s1 : w.shape? l.blk = some (e, cs.size) := by simp [World.shape?, hw]
        have s2 : w.shape? l'.blk = some (e', cs'.size) := by simp [World.shape?, hw']
        have h1' : (l.blk == l'.blk) = false := by simpa using hne
        simp [samePointer, sameAddr, h1', Loc.addr, f1, f2, noView, viewAt, mayBeOne, stringish, s1, s2, Sem.run_bind]
  all_goals exact (Bool.false_ne_true h).elim

def ptrBinE (P : Program) (t : Nat) (op : BinOp) (H : Heap) (x y : AV) (k : AV → Bool) : Bool :=
  match P.underlying t with
  | some (.pointer e) => if P.cellsOf e = 0 then false else ptrEqK H x y fun r => eqRes op r k
  | _ => false

theorem read_ptrBin {P : Program} {env : List AV} {o : Oper} {H : Heap} {op : BinOp} {t yt : Nat} {x y : Operand} {k : AV → Bool} (ho : o.op = .binOp op t x y yt)
    (h : ptrBinE P t op H (ev P env x) (ev P env y) k = true) : ∃ v, k v = true ∧ ReadSpec P env o H v := by
  unfold ptrBinE at h
  split at h
  · rename_i e hu
    split at h
    · cases h
    · rename_i hz
      obtain ⟨inf, hinf, hsz⟩ := info_of_cells hz
      obtain ⟨r, h, hq⟩ := ptrEqK_ok h
      obtain ⟨v, v', hk, hc, hr⟩ := eqRes_ok h
      refine ⟨v, hk, fun θ ac w B rr hO => ⟨v', ?_, .inr (hc θ)⟩⟩
      have hox := hO.at (x := x) (by simp [ho, Op.operands])
      have hoy := hO.at (x := y) (by simp [ho, Op.operands])
      obtain ⟨p, q, ep, eq, hs⟩ := hq P θ B w _ _ rr hox hoy
      have heq : ∀ d, (Op.equalIn (d + 1) t (.pointer p) (.pointer q)).run P w = .ok r w := by
        intro d
        simp only [Op.equalIn, Sem.run_bind, run_underlying hu, Result.andThen_ok]
        cases p with
        | none => simpa [samePointer] using hs
        | some a =>
          cases q with
          | none => simpa [samePointer] using hs
          | some b =>
            have hs : (sameAddr a b).run P w = .ok r w := hs
            simp only [Sem.run_bind, run_sizeOf w hinf, Result.andThen_ok]
            simp [hz, hs]
      have hres := run_eqRes (P := P) (w := w) (t := t) (xo := x) (yo := y) (x := .pointer p) (y := .pointer q) hr (by rcases hr with ⟨rfl, _⟩ | ⟨rfl, _⟩ <;> simp [eqGuard])
        (by cases p <;> cases q <;> rfl) (by cases p <;> cases q <;> rfl) (equal_of heq)
      simp only [execOp, ho, ep, eq, Sem.run_bind] at hres ⊢
      rw [hres]
      rfl
  · cases h

/-! ### Bytes to a string -/

/-- Some cells that are bytes, as a number. -/
def bytesK : List AV → (Nat → Bool) → Bool :=
  List.rec (motive := fun _ => (Nat → Bool) → Bool) (fun k => k 0) (fun a _ ih k => a.ckInt fun kd z => ifB (kdEq kd .u8) (natOf z fun n => ih fun c => forceN (Nat.add (Nat.mod n 256) (Nat.mul 256 c)) k))

theorem run_forBytes {P : Program} (w : World) {f : Value → ByteArray → Sem (ForInStep ByteArray)} (hf : ∀ n s, f (.int .u8 n) s = pure (.yield (s.push (UInt8.ofNat n.toNat)))) (ns : List Nat) (s : ByteArray) :
    (forIn (ns.map fun (n : Nat) => Value.int .u8 (n : Int)) s f).run P w = .ok ⟨s.data ++ (ns.map fun n => UInt8.ofNat n).toArray⟩ w := by
  induction ns generalizing s with
  | nil => simp
  | cons n ns ih =>
    simp only [List.map_cons, List.forIn_cons, hf, Sem.run_bind, Sem.run_pure, Result.andThen_ok, ih]
    congr 2
    simp [ByteArray.push]

theorem bytesK_ok : ∀ {l : List AV} {k : Nat → Bool}, bytesK l k = true → ∃ (c : Nat) (ns : List Nat), k c = true ∧ ns.length = l.length ∧ bytesOf l.length c = ns.map (fun n => UInt8.ofNat n) ∧ ∀ θ, concs θ l = some (ns.map fun (n : Nat) => Value.int .u8 (n : Int))
  | [], k, h => ⟨0, [], h, rfl, rfl, fun _ => rfl⟩
  | a :: l, k, h => by
    have h : (a.ckInt fun kd z => ifB (kdEq kd .u8) (natOf z fun n => bytesK l fun c => forceN (Nat.add (Nat.mod n 256) (Nat.mul 256 c)) k)) = true := h
    obtain ⟨kd, z, rfl, h⟩ := ckInt_iff.1 h
    obtain ⟨hk, h⟩ := ifB_iff.1 h
    obtain rfl := kdEq_iff hk
    obtain ⟨n, rfl, h⟩ := natOf_iff.1 h
    obtain ⟨c, ns, h, hl, hb, hc⟩ := bytesK_ok h
    rw [forceN_eq] at h
    refine ⟨_, n :: ns, h, by simp [hl], ?_, fun θ => concs_cons.2 ⟨_, _, rfl, hc θ, rfl⟩⟩
    have e1 : (Nat.add (Nat.mod n 256) (Nat.mul 256 c)) % 256 = n % 256 := by
      show (n % 256 + 256 * c) % 256 = _
      omega
    have e2 : (Nat.add (Nat.mod n 256) (Nat.mul 256 c)) / 256 = c := by
      show (n % 256 + 256 * c) / 256 = _
      omega
    show bytesOf (l.length + 1) _ = _
    simp only [bytesOf, e1, e2, hb, List.map_cons]
    have e3 : UInt8.ofNat (n % 256) = UInt8.ofNat n := by apply UInt8.toNat_inj.1; simp
    rw [e3]

def b2sE (P : Program) (s d : Nat) (H : Heap) (x : AV) (k : AV → Bool) : Bool :=
  match P.underlying s, P.underlying d with
  | some (.slice e), some .string => (match P.underlying e with
    | some (.int .u8) => x.ckSl (k (.str 0 0)) (fun b o len _ => at_ H b fun bl => bl.ckCells fun _ _ n c => ifB (Nat.ble (Nat.add o len) n) (bytesK (c.row o len) fun c => k (.str len c))) (fun _ _ _ _ => false)
    | _ => false)
  | _, _ => false

theorem read_b2s {P : Program} {env : List AV} {o : Oper} {H : Heap} {s d : Nat} {x : Operand} {k : AV → Bool} (ho : o.op = .convert s d x)
    (h : b2sE P s d H (ev P env x) k = true) : ∃ v, k v = true ∧ ReadSpec P env o H v := by
  unfold b2sE at h
  split at h
  · rename_i e hs hd
    split at h
    · rename_i he
      rcases ckSl_iff.1 h with ⟨hx, h⟩ | ⟨b, q, len, cap, hx, h⟩ | ⟨b, q, lo, es, hx, h⟩
      · refine ⟨_, h, fun θ ac w B r hO => ⟨.string .empty, ?_, .inr rfl⟩⟩
        have vx := hO.at (x := x) (by simp [ho, Op.operands])
        rw [hx] at vx
        simp [execOp, ho, convert, run_underlying hs, run_underlying hd, run_underlying he, vx.nils, Conv.bytesToString]
      · obtain ⟨hb, h⟩ := at_iff.1 h
        obtain ⟨ro, ex, n, c, hbl, h⟩ := ckCells_iff.1 h
        obtain ⟨hle, h⟩ := ifB_iff.1 h
        have hle : q + len ≤ n := by simpa using hle
        obtain ⟨cc, ns, h, hl, hbs, hc⟩ := bytesK_ok h
        refine ⟨_, h, fun θ ac w B r hO => ?_⟩
        have vx := hO.at (x := x) (by simp [ho, Op.operands])
        rw [hx] at vx
        obtain ⟨l, hl', vx⟩ := vx.sl
        have hr := r.at hl'
        rw [hbl] at hr
        obtain ⟨vs, h1, h2, h3⟩ := row_ok hr len q hle
        have hvs := (hc θ).symm.trans h1
        injection hvs with hvs
        have hll := run_loadCells_list (P := P) w (l.addr q) vs (fun j v hj => by rw [Loc.addr_add]; exact h3 j v hj)
        rw [h2] at hll
        refine ⟨.string (strOf len cc), ?_, .inr rfl⟩
        have hlen : (c.row q len).length = len := by rw [← concs_length h1, h2]
        simp [execOp, ho, convert, run_underlying hs, run_underlying hd, run_underlying he, vx, Conv.bytesToString, hll]
        rw [← hvs]
        rw [run_forBytes w (fun n s => rfl)]
        rw [hlen] at hbs
        simp only [strOf, hbs, Result.andThen_ok]
        congr 3
        simp
      · cases h
    · cases h
  · cases h

end
end Ev
