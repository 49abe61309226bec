/- A part of the proof that GcNone returns true: text Ev11. -/
import Derived.Test.YtiegdojchlmfnaaGreatDoorEv10
namespace Ev
open Go
open Go.RowKit
noncomputable section

/-! ### Memory, for the kernel's run -/

def hgt (h : Heap) (i : Nat) : Blk :=
  R.get (α := Blk) (R.get (α := R Blk) (R.get (α := R (R Blk)) (R.get (α := R (R (R Blk))) (R.get (α := R (R (R (R Blk)))) h (Nat.mod (Nat.div i 4096) 8)) (Nat.mod (Nat.div i 512) 8)) (Nat.mod (Nat.div i 64) 8)) (Nat.mod (Nat.div i 8) 8)) (Nat.mod (Nat.div i 1) 8)

theorem hgt_eq (h : Heap) (i : Nat) : hgt h i = Tr.get 5 h i := rfl

def hput (h : Heap) (i : Nat) (b : Blk) (k : Heap → Bool) : Bool :=
  (fun (h4 : R (R (R (R Blk)))) => (fun (h3 : R (R (R Blk))) => (fun (h2 : R (R Blk)) => (fun (h1 : R Blk) =>
    R.setK (α := Blk) h1 (Nat.mod (Nat.div i 1) 8) b fun n1 =>
    R.setK (α := R Blk) h2 (Nat.mod (Nat.div i 8) 8) n1 fun n2 =>
    R.setK (α := R (R Blk)) h3 (Nat.mod (Nat.div i 64) 8) n2 fun n3 =>
    R.setK (α := R (R (R Blk))) h4 (Nat.mod (Nat.div i 512) 8) n3 fun n4 =>
    R.setK (α := R (R (R (R Blk)))) h (Nat.mod (Nat.div i 4096) 8) n4 k)
    (R.get (α := R Blk) h2 (Nat.mod (Nat.div i 8) 8))) (R.get (α := R (R Blk)) h3 (Nat.mod (Nat.div i 64) 8))) (R.get (α := R (R (R Blk))) h4 (Nat.mod (Nat.div i 512) 8))) (R.get (α := R (R (R (R Blk)))) h (Nat.mod (Nat.div i 4096) 8))

theorem hput_eq (h : Heap) (i : Nat) (b : Blk) (k : Heap → Bool) : hput h i b k = k (Tr.put 5 h i b) := by
  unfold hput
  have lt : ∀ a, Nat.mod a 8 < 8 := fun a => Nat.mod_lt _ (by omega)
  simp only [R.setK_eq _ _ _ _ (lt _)]
  exact R.setK_eq (α := R (R (R (R Blk)))) h _ _ k (lt _)

/-- Numbers of blocks stay below this. -/
def maxBlk : Nat := 32768

theorem hgt_put (h : Heap) (b : Blk) {i j : Nat} (hi : i < 32768) (hj : j < 32768) : hgt (Tr.put 5 h i b) j = if i = j then b else hgt h j := by
  rw [hgt_eq, hgt_eq]
  exact Tr.get_put b 5 h i j hi hj

/-- Memory as a function: what lies beyond the numbers that there may be is not known. -/
def hfn (h : Heap) (i : Nat) : Blk := if i < 32768 then hgt h i else .dead

theorem hfn_put (h : Heap) (b : Blk) {i : Nat} (hi : i < 32768) : hfn (Tr.put 5 h i b) = setB (hfn h) i b := by
  funext j
  show (if j < 32768 then hgt (Tr.put 5 h i b) j else .dead) = if i = j then b else (if j < 32768 then hgt h j else .dead)
  by_cases hj : j < 32768
  · rw [if_pos hj, if_pos hj, hgt_put h b hi hj]
  · rw [if_neg hj, if_neg hj]
    by_cases e : i = j
    · subst e; exact absurd hi hj
    · rw [if_neg e]

def Blk.ckCells (b : Blk) (f : Bool → Bool → Nat → Cells → Bool) : Bool :=
  Blk.casesOn (motive := fun _ => Bool) b false f (fun _ _ => false) (fun _ _ _ _ => false) (fun _ _ _ => false) false
def Blk.ckMap (b : Blk) (f : Ents → Nat → Bool) : Bool :=
  Blk.casesOn (motive := fun _ => Bool) b false (fun _ _ _ _ => false) f (fun _ _ _ _ => false) (fun _ _ _ => false) false
def Blk.ckIter (b : Blk) (f : Nat → Nat → List Nat → Nat → Bool) : Bool :=
  Blk.casesOn (motive := fun _ => Bool) b false (fun _ _ _ _ => false) (fun _ _ => false) f (fun _ _ _ => false) false
def Blk.ckLoop (b : Blk) (f : Nat → List Nat → List AV → Bool) : Bool :=
  Blk.casesOn (motive := fun _ => Bool) b false (fun _ _ _ _ => false) (fun _ _ => false) (fun _ _ _ _ => false) f false
def Blk.ckDefd (b : Blk) (f : Bool) : Bool :=
  Blk.casesOn (motive := fun _ => Bool) b false (fun _ _ _ _ => false) (fun _ _ => false) (fun _ _ _ _ => false) (fun _ _ _ => false) f

theorem ckCells_iff {b : Blk} {f : _} : b.ckCells f = true ↔ ∃ ro ex len c, b = .cells ro ex len c ∧ f ro ex len c = true := by
  constructor
  · intro h
    cases b with
    | cells ro ex len c => exact ⟨ro, ex, len, c, rfl, h⟩
    | _ => exact (Bool.false_ne_true h).elim
  · rintro ⟨ro, ex, len, c, rfl, h⟩
    exact h
theorem ckMap'_iff {b : Blk} {f : _} : b.ckMap f = true ↔ ∃ es c, b = .map es c ∧ f es c = true := by
  constructor
  · intro h
    cases b with
    | map es c => exact ⟨es, c, rfl, h⟩
    | _ => exact (Bool.false_ne_true h).elim
  · rintro ⟨es, c, rfl, h⟩
    exact h
theorem ckIter_iff {b : Blk} {f : _} : b.ckIter f = true ↔ ∃ m s se la, b = .miter m s se la ∧ f m s se la = true := by
  constructor
  · intro h
    cases b with
    | miter m s se la => exact ⟨m, s, se, la, rfl, h⟩
    | _ => exact (Bool.false_ne_true h).elim
  · rintro ⟨m, s, se, la, rfl, h⟩
    exact h
theorem ckLoop_iff {b : Blk} {f : _} : b.ckLoop f = true ↔ ∃ g p e, b = .loop g p e ∧ f g p e = true := by
  constructor
  · intro h
    cases b with
    | loop g p e => exact ⟨g, p, e, rfl, h⟩
    | _ => exact (Bool.false_ne_true h).elim
  · rintro ⟨g, p, e, rfl, h⟩
    exact h
theorem ckDefd_iff {b : Blk} {f : Bool} : b.ckDefd f = true ↔ b = .defd ∧ f = true := by cases b <;> simp [Blk.ckDefd]

/-- A block of memory is looked at. -/
def at_ (h : Heap) (b : Nat) (f : Blk → Bool) : Bool := ifB (Nat.blt b 32768) (f (hgt h b))
theorem at_iff {h : Heap} {b : Nat} {f : Blk → Bool} : at_ h b f = true ↔ b < 32768 ∧ f (hfn h b) = true := by
  unfold at_ hfn
  rw [ifB_iff, Nat.blt_eq]
  constructor
  · rintro ⟨h1, h2⟩; exact ⟨h1, by rw [if_pos h1]; exact h2⟩
  · rintro ⟨h1, h2⟩; exact ⟨h1, by rw [if_pos h1] at h2; exact h2⟩

/-! ### Cells -/

def Cells.gt (c : Cells) (i : Nat) : AV :=
  Cells.rec (motive := fun _ => AV) (fun x => R.get (α := AV) x (Nat.mod (Nat.div i 1) 8)) (fun x => R.get (α := AV) (R.get (α := R AV) x (Nat.mod (Nat.div i 8) 8)) (Nat.mod (Nat.div i 1) 8))
   (fun x => R.get (α := AV) (R.get (α := R AV) (R.get (α := R (R AV)) x (Nat.mod (Nat.div i 64) 8)) (Nat.mod (Nat.div i 8) 8)) (Nat.mod (Nat.div i 1) 8))
   (fun x => R.get (α := AV) (R.get (α := R AV) (R.get (α := R (R AV)) (R.get (α := R (R (R AV))) x (Nat.mod (Nat.div i 512) 8)) (Nat.mod (Nat.div i 64) 8)) (Nat.mod (Nat.div i 8) 8)) (Nat.mod (Nat.div i 1) 8)) c

theorem Cells.gt_eq (c : Cells) (i : Nat) : c.gt i = c.get i := by cases c <;> rfl

def Cells.put (c : Cells) (i : Nat) (v : AV) : Cells :=
  match c with
  | .c1 x => .c1 (Tr.put 1 x i v)
  | .c2 x => .c2 (Tr.put 2 x i v)
  | .c3 x => .c3 (Tr.put 3 x i v)
  | .c4 x => .c4 (Tr.put 4 x i v)

def Cells.setK (c : Cells) (i : Nat) (v : AV) (k : Cells → Bool) : Bool :=
  Cells.rec (motive := fun _ => Bool)
    (fun x => R.setK (α := AV) x (Nat.mod (Nat.div i 1) 8) v fun y => k (.c1 y))
    (fun x => (fun x1 => R.setK (α := AV) x1 (Nat.mod (Nat.div i 1) 8) v fun y => R.setK (α := R AV) x (Nat.mod (Nat.div i 8) 8) y fun y => k (.c2 y)) (R.get (α := R AV) x (Nat.mod (Nat.div i 8) 8)))
    (fun x => (fun x2 => (fun x1 => R.setK (α := AV) x1 (Nat.mod (Nat.div i 1) 8) v fun y => R.setK (α := R AV) x2 (Nat.mod (Nat.div i 8) 8) y fun y => R.setK (α := R (R AV)) x (Nat.mod (Nat.div i 64) 8) y fun y => k (.c3 y))
      (R.get (α := R AV) x2 (Nat.mod (Nat.div i 8) 8))) (R.get (α := R (R AV)) x (Nat.mod (Nat.div i 64) 8)))
    (fun x => (fun x3 => (fun x2 => (fun x1 => R.setK (α := AV) x1 (Nat.mod (Nat.div i 1) 8) v fun y => R.setK (α := R AV) x2 (Nat.mod (Nat.div i 8) 8) y fun y => R.setK (α := R (R AV)) x3 (Nat.mod (Nat.div i 64) 8) y fun y =>
        R.setK (α := R (R (R AV))) x (Nat.mod (Nat.div i 512) 8) y fun y => k (.c4 y))
      (R.get (α := R AV) x2 (Nat.mod (Nat.div i 8) 8))) (R.get (α := R (R AV)) x3 (Nat.mod (Nat.div i 64) 8))) (R.get (α := R (R (R AV))) x (Nat.mod (Nat.div i 512) 8))) c

theorem Cells.setK_eq (c : Cells) (i : Nat) (v : AV) (k : Cells → Bool) : c.setK i v k = k (c.put i v) := by
  have lt : ∀ a, Nat.mod a 8 < 8 := fun a => Nat.mod_lt _ (by omega)
  cases c with
  | c1 x => exact R.setK_eq (α := AV) x _ _ _ (lt _)
  | c2 x =>
    unfold Cells.setK
    simp only [R.setK_eq _ _ _ _ (lt _)]
    exact R.setK_eq (α := R AV) x _ _ _ (lt _)
  | c3 x =>
    unfold Cells.setK
    simp only [R.setK_eq _ _ _ _ (lt _)]
    exact R.setK_eq (α := R (R AV)) x _ _ _ (lt _)
  | c4 x =>
    unfold Cells.setK
    simp only [R.setK_eq _ _ _ _ (lt _)]
    exact R.setK_eq (α := R (R (R AV))) x _ _ _ (lt _)

theorem Cells.dep_put (c : Cells) (i : Nat) (v : AV) : (c.put i v).dep = c.dep := by cases c <;> rfl

theorem Cells.get_put (c : Cells) (v : AV) {i j : Nat} (hi : i < c.dep) (hj : j < c.dep) : (c.put i v).get j = if i = j then v else c.get j := by
  cases c with
  | c1 x => exact Tr.get_put v 1 x i j hi hj
  | c2 x => exact Tr.get_put v 2 x i j hi hj
  | c3 x => exact Tr.get_put v 3 x i j hi hj
  | c4 x => exact Tr.get_put v 4 x i j hi hj

/-- Room for eight times as many. -/
def Cells.grow (c : Cells) : Cells :=
  Cells.rec (motive := fun _ => Cells)
    (fun x => .c2 ((fun e => R.mk x e e e e e e e : R AV → R (R AV)) (Tr.rep .bad 1)))
    (fun x => .c3 ((fun e => R.mk x e e e e e e e : R (R AV) → R (R (R AV))) (Tr.rep .bad 2)))
    (fun x => .c4 ((fun e => R.mk x e e e e e e e : R (R (R AV)) → R (R (R (R AV)))) (Tr.rep .bad 3)))
    (fun x => .c4 x) c

theorem Cells.dep_grow (c : Cells) : c.dep ≤ c.grow.dep := by cases c <;> simp [Cells.grow, Cells.dep]

theorem Cells.get_grow (c : Cells) {i : Nat} (hi : i < c.dep) : c.grow.get i = c.get i := by
  cases c with
  | c1 x => have h : i / 8 ^ 1 % 8 = 0 := by simp only [Cells.dep] at hi; omega
            show Tr.get 1 (R.get _ (i / 8 ^ 1 % 8)) i = _
            rw [h]; rfl
  | c2 x => have h : i / 8 ^ 2 % 8 = 0 := by simp only [Cells.dep] at hi; omega
            show Tr.get 2 (R.get _ (i / 8 ^ 2 % 8)) i = _
            rw [h]; rfl
  | c3 x => have h : i / 8 ^ 3 % 8 = 0 := by simp only [Cells.dep] at hi; omega
            show Tr.get 3 (R.get _ (i / 8 ^ 3 % 8)) i = _
            rw [h]; rfl
  | c4 x => rfl

/-! ### Loads -/

def loadK (H : Heap) (a : AV) (k : AV → Bool) : Bool := a.ckPtr fun b o => at_ H b fun x => x.ckCells fun _ _ len c => ifB (Nat.blt o len) (k (c.gt o))

/-- Some cells, one after the other. -/
def Cells.row (c : Cells) : Nat → Nat → List AV
  | _, 0 => []
  | o, n + 1 => c.gt o :: Cells.row c (o + 1) n

/-- A value of one cell, looked at once and for all. -/
def AV.forceOne (a : AV) (k : AV → Bool) : Bool :=
  AV.casesOn (motive_1 := fun _ => Bool) a false (fun b => k (.bool b)) (fun kd n => k (.int kd n)) (fun n c => k (.str n c)) (k .nilp) (fun b o => k (.ptr b o)) (k .nils) (fun b o n c => k (.sl b o n c)) (fun b o l e => k (.sle b o l e)) (k .nilm) (fun b => k (.map b))
    (fun f x y => k (.fn f x y)) (k .nilf) (fun t v => k (.iface t v)) (k .nili) (fun _ => false) (fun _ => false) (fun _ => false)

theorem forceOne_iff {a : AV} {k : AV → Bool} : a.forceOne k = true ↔ a.one = true ∧ k a = true := by cases a <;> simp [AV.forceOne, AV.one]

def Cells.rowK (c : Cells) (n : Nat) : Nat → (List AV → Bool) → Bool :=
  Nat.rec (motive := fun _ => Nat → (List AV → Bool) → Bool) (fun _ k => k []) (fun _ ih o k => (c.gt o).forceOne fun v => ih (Nat.succ o) fun l => k (v :: l)) n

theorem rowK_ok {c : Cells} : ∀ {n o : Nat} {k : List AV → Bool}, c.rowK n o k = true → (∀ a ∈ c.row o n, a.one = true) ∧ k (c.row o n) = true
  | 0, o, k, h => ⟨fun a ha => by simp [Cells.row] at ha, h⟩
  | n + 1, o, k, h => by
    have h : ((c.gt o).forceOne fun v => c.rowK n (o + 1) fun l => k (v :: l)) = true := h
    obtain ⟨h1, h⟩ := forceOne_iff.1 h
    obtain ⟨h2, h⟩ := rowK_ok h
    exact ⟨fun a ha => (List.mem_cons.1 ha).elim (fun e => e ▸ h1) (h2 a), h⟩

theorem row_length {c : Cells} : ∀ {n o : Nat}, (c.row o n).length = n
  | 0, _ => rfl
  | n + 1, o => by simp [Cells.row, row_length]

theorem row_get {c : Cells} : ∀ {n o i : Nat}, i < n → (c.row o n)[i]? = some (c.get (o + i))
  | 0, _, _, h => by omega
  | n + 1, o, 0, _ => by simp [Cells.row, Cells.gt_eq]
  | n + 1, o, i + 1, h => by simp only [Cells.row, List.getElem?_cons_succ]; rw [row_get (by omega), show o + 1 + i = o + (i + 1) from by omega]

def loadNK (n : Nat) (H : Heap) (a : AV) (k : AV → Bool) : Bool := a.ckPtr fun b o => at_ H b fun x => x.ckCells fun _ _ len c => ifB (Nat.ble (Nat.add o n) len) (c.rowK n o fun l => k (.agg l))

def ReadSpec (P : Program) (env : List AV) (o : Oper) (H : Heap) (v : AV) : Prop :=
  ∀ (θ : Theta) (ac : Act) (w : World) (B : Nat), HRel P θ (hfn H) B w → Opd P θ env o ac → ∃ v', (execOp ac.eval o).run P w = .ok (.value v') w ∧ VR θ v v'

theorem BRel.cell {P : Program} {θ : Theta} {B : Nat} {w : World} {l : Loc} {ro ex : Bool} {len : Nat} {c : Cells} (r : BRel P θ B w l (.cells ro ex len c)) {i : Nat} (hi : i < len) :
    ∃ v, Ev.conc θ (c.get i) = some v ∧ w.cell? (l.addr i) = some v := r.2.1 i hi

theorem row_ok {P : Program} {θ : Theta} {B : Nat} {w : World} {l : Loc} {ro ex : Bool} {len : Nat} {c : Cells} (r : BRel P θ B w l (.cells ro ex len c)) :
    ∀ (n o : Nat), o + n ≤ len → ∃ vs, concs θ (c.row o n) = some vs ∧ vs.length = n ∧ ∀ j v, vs[j]? = some v → w.cell? (l.addr (o + j)) = some v
  | 0, o, _ => ⟨[], rfl, rfl, fun j v h => by simp at h⟩
  | n + 1, o, h => by
    obtain ⟨v, hv, hc⟩ := r.cell (i := o) (by omega)
    obtain ⟨vs, h1, h2, h3⟩ := row_ok r n (o + 1) (by omega)
    refine ⟨v :: vs, concs_cons.2 ⟨v, vs, by rw [Cells.gt_eq]; exact hv, h1, rfl⟩, by simp [h2], fun j u hj => ?_⟩
    cases j with
    | zero => simp at hj; subst hj; exact hc
    | succ j => rw [show o + (j + 1) = o + 1 + j from by omega]; exact h3 j u (by simpa using hj)

def loadE (P : Program) (t : Nat) (H : Heap) (a : AV) (k : AV → Bool) : Bool :=
  match isAggT P t with
  | some true => if P.cellsOf t = 0 then false else loadNK (P.cellsOf t) H a k
  | some false => loadK H a k
  | none => false

theorem run_loadVar_cells {P : Program} {w : World} {t : TypeId} {a : Addr} {vs : List Value} (ha : isAggT P t = some true) (hz : P.cellsOf t ≠ 0) (hl : vs.length = P.cellsOf t)
    (hc : ∀ j v, vs[j]? = some v → w.cell? (a.add j) = some v) : (loadVar t a).run P w = .ok (.agg vs.toArray) w := by
  obtain ⟨i, hi, _⟩ := info_of_cells hz
  have := run_loadCells_list (P := P) w a vs hc
  rw [hl] at this
  simp [loadVar, run_isAggT ha, run_sizeOf w hi, this]

theorem run_loadVar_cell {P : Program} {w : World} {t : TypeId} {a : Addr} {v : Value} (ha : isAggT P t = some false) (hc : w.cell? a = some v) : (loadVar t a).run P w = .ok v w := by
  simp [loadVar, run_isAggT ha, hc]

theorem load_ok {P : Program} {t : Nat} {H : Heap} {a : AV} {k : AV → Bool} (h : loadE P t H a k = true) :
    ∃ v, k v = true ∧ ∀ (θ : Theta) (w : World) (B : Nat) (av : Value), HRel P θ (hfn H) B w → VR θ a av → ∃ ad v', av = .pointer (some ad) ∧ (loadVar t ad).run P w = .ok v' w ∧ Ev.conc θ v = some v' := by
  unfold loadE at h
  split at h
  · rename_i ha
    split at h
    · cases h
    · rename_i hz
      obtain ⟨b, o, rfl, h⟩ := ckPtr_iff.1 h
      obtain ⟨hb, h⟩ := at_iff.1 h
      obtain ⟨ro, ex, len, c, hx, h⟩ := ckCells_iff.1 h
      obtain ⟨hle, h⟩ := ifB_iff.1 h
      have hle : o + P.cellsOf t ≤ len := by simpa using hle
      have h := (rowK_ok h).2
      refine ⟨_, h, fun θ w B av r hv => ?_⟩
      obtain ⟨l, hl, rfl⟩ := hv.ptr
      have hr := r.at hl
      rw [hx] at hr
      obtain ⟨vs, h1, h2, h3⟩ := row_ok hr (P.cellsOf t) o hle
      exact ⟨_, .agg vs.toArray, rfl, run_loadVar_cells ha hz h2 (fun j v hj => by rw [Loc.addr_add]; exact h3 j v hj), by simp [Ev.conc, h1]⟩
  · rename_i ha
    obtain ⟨b, o, rfl, h⟩ := ckPtr_iff.1 h
    obtain ⟨hb, h⟩ := at_iff.1 h
    obtain ⟨ro, ex, len, c, hx, h⟩ := ckCells_iff.1 h
    obtain ⟨hlt, h⟩ := ifB_iff.1 h
    have hlt : o < len := by simpa [blt_eq] using hlt
    refine ⟨_, h, fun θ w B av r hv => ?_⟩
    obtain ⟨l, hl, rfl⟩ := hv.ptr
    have hr := r.at hl
    rw [hx] at hr
    obtain ⟨v, hv, hc⟩ := hr.cell hlt
    exact ⟨_, v, rfl, run_loadVar_cell ha hc, by rw [Cells.gt_eq]; exact hv⟩
  · cases h

theorem read_load {P : Program} {env : List AV} {o : Oper} {H : Heap} {t : Nat} {a : Operand} {k : AV → Bool} (ho : o.op = .load t a)
    (h : loadE P t H (ev P env a) k = true) : ∃ v, k v = true ∧ ReadSpec P env o H v := by
  obtain ⟨v, hk, hq⟩ := load_ok h
  refine ⟨v, hk, fun θ ac w B r hO => ?_⟩
  obtain ⟨ad, v', e, hr, hc⟩ := hq θ w B _ r (hO.at (x := a) (by simp [ho, Op.operands]))
  exact ⟨v', by simp [execOp, ho, e, Instr.loadAt, Instr.sureAddr, hr], .inr hc⟩

end
end Ev
