/- A part of the proof that GcRoom returns true: text EvC. -/
import Derived.Test.YtfhilpdbmfbbdaaGreatDoorEvB
namespace Ev
open Go
open Go.RowKit
noncomputable section
def hgt (h : Heap) (i : Nat) : Blk :=
  R.get (α := Blk) (R.get (α := R Blk) (R.get (α := R (R Blk)) (R.get (α := R (R (R Blk))) (R.get (α := R (R (R (R Blk)))) h (Nat.mod (Nat.div i 4096) 8)) (Nat.mod (Nat.div i 512) 8)) (Nat.mod (Nat.div i 64) 8)) (Nat.mod (Nat.div i 8) 8)) (Nat.mod (Nat.div i 1) 8)
theorem hgt_eq (h : Heap) (i : Nat) : hgt h i = Tr.get 5 h i := rfl
def hput (h : Heap) (i : Nat) (b : Blk) (k : Heap → Bool) : Bool :=
  (fun (h4 : R (R (R (R Blk)))) => (fun (h3 : R (R (R Blk))) => (fun (h2 : R (R Blk)) => (fun (h1 : R Blk) =>
    R.setK (α := Blk) h1 (Nat.mod (Nat.div i 1) 8) b fun n1 =>
    R.setK (α := R Blk) h2 (Nat.mod (Nat.div i 8) 8) n1 fun n2 =>
    R.setK (α := R (R Blk)) h3 (Nat.mod (Nat.div i 64) 8) n2 fun n3 =>
    R.setK (α := R (R (R Blk))) h4 (Nat.mod (Nat.div i 512) 8) n3 fun n4 =>
    R.setK (α := R (R (R (R Blk)))) h (Nat.mod (Nat.div i 4096) 8) n4 k)
    (R.get (α := R Blk) h2 (Nat.mod (Nat.div i 8) 8))) (R.get (α := R (R Blk)) h3 (Nat.mod (Nat.div i 64) 8))) (R.get (α := R (R (R Blk))) h4 (Nat.mod (Nat.div i 512) 8))) (R.get (α := R (R (R (R Blk)))) h (Nat.mod (Nat.div i 4096) 8))
theorem hput_eq (h : Heap) (i : Nat) (b : Blk) (k : Heap → Bool) : hput h i b k = k (Tr.put 5 h i b) := by
  unfold hput
  have lt : ∀ a, Nat.mod a 8 < 8 := fun a => Nat.mod_lt _ (by omega)
  simp only [R.setK_eq _ _ _ _ (lt _)]
  exact R.setK_eq (α := R (R (R (R Blk)))) h _ _ k (lt _)
theorem hgt_put (h : Heap) (b : Blk) {i j : Nat} (hi : i < 32768) (hj : j < 32768) : hgt (Tr.put 5 h i b) j = if i = j then b else hgt h j := by
  rw [hgt_eq, hgt_eq]
  exact Tr.get_put b 5 h i j hi hj
def hfn (h : Heap) (i : Nat) : Blk := if i < 32768 then hgt h i else .dead
theorem hfn_put (h : Heap) (b : Blk) {i : Nat} (hi : i < 32768) : hfn (Tr.put 5 h i b) = setB (hfn h) i b := by
  funext j
  show (if j < 32768 then hgt (Tr.put 5 h i b) j else .dead) = if i = j then b else (if j < 32768 then hgt h j else .dead)
  by_cases hj : j < 32768
  · rw [if_pos hj, if_pos hj, hgt_put h b hi hj]
  · rw [if_neg hj, if_neg hj]
    by_cases e : i = j
    · subst e; exact absurd hi hj
    · rw [if_neg e]
def Blk.ckCells (b : Blk) (f : Bool → Bool → Nat → Cells → Bool) : Bool :=
  Blk.rec (motive := fun _ => Bool) false f (fun _ _ => false) (fun _ _ _ _ => false) (fun _ _ _ => false) false (fun _ _ _ _ _ _ _ _ => false) b
def Blk.ckMap (b : Blk) (f : Ents → Nat → Bool) : Bool :=
  Blk.rec (motive := fun _ => Bool) false (fun _ _ _ _ => false) f (fun _ _ _ _ => false) (fun _ _ _ => false) false (fun _ _ _ _ _ _ _ _ => false) b
def Blk.ckIter (b : Blk) (f : Nat → Nat → List Nat → Nat → Bool) : Bool :=
  Blk.rec (motive := fun _ => Bool) false (fun _ _ _ _ => false) (fun _ _ => false) f (fun _ _ _ => false) false (fun _ _ _ _ _ _ _ _ => false) b
def Blk.ckLoop (b : Blk) (f : Nat → List Nat → List AV → Bool) : Bool :=
  Blk.rec (motive := fun _ => Bool) false (fun _ _ _ _ => false) (fun _ _ => false) (fun _ _ _ _ => false) f false (fun _ _ _ _ _ _ _ _ => false) b
theorem ckCells_iff {b : Blk} {f : _} : b.ckCells f = true ↔ ∃ ro ex len c, b = .cells ro ex len c ∧ f ro ex len c = true := by
  constructor
  · intro h
    cases b with
    | cells ro ex len c => exact ⟨ro, ex, len, c, rfl, h⟩
    | _ => exact (Bool.false_ne_true h).elim
  · rintro ⟨ro, ex, len, c, rfl, h⟩
    exact h
theorem ckMap'_iff {b : Blk} {f : _} : b.ckMap f = true ↔ ∃ es c, b = .map es c ∧ f es c = true := by
  constructor
  · intro h
    cases b with
    | map es c => exact ⟨es, c, rfl, h⟩
    | _ => exact (Bool.false_ne_true h).elim
  · rintro ⟨es, c, rfl, h⟩
    exact h
theorem ckIter_iff {b : Blk} {f : _} : b.ckIter f = true ↔ ∃ m s se la, b = .miter m s se la ∧ f m s se la = true := by
  constructor
  · intro h
    cases b with
    | miter m s se la => exact ⟨m, s, se, la, rfl, h⟩
    | _ => exact (Bool.false_ne_true h).elim
  · rintro ⟨m, s, se, la, rfl, h⟩
    exact h
theorem ckLoop_iff {b : Blk} {f : _} : b.ckLoop f = true ↔ ∃ g p e, b = .loop g p e ∧ f g p e = true := by
  constructor
  · intro h
    cases b with
    | loop g p e => exact ⟨g, p, e, rfl, h⟩
    | _ => exact (Bool.false_ne_true h).elim
  · rintro ⟨g, p, e, rfl, h⟩
    exact h
def at_ (h : Heap) (b : Nat) (f : Blk → Bool) : Bool := ifB (Nat.blt b 32768) (f (hgt h b))
theorem at_iff {h : Heap} {b : Nat} {f : Blk → Bool} : at_ h b f = true ↔ b < 32768 ∧ f (hfn h b) = true := by
  unfold at_ hfn
  rw [ifB_iff, Nat.blt_eq]
  constructor
  · rintro ⟨h1, h2⟩; exact ⟨h1, by rw [if_pos h1]; exact h2⟩
  · rintro ⟨h1, h2⟩; exact ⟨h1, by rw [if_pos h1] at h2; exact h2⟩
def Cells.gt (c : Cells) (i : Nat) : AV :=
  Cells.rec (motive := fun _ => AV) (fun x => R.get (α := AV) x (Nat.mod (Nat.div i 1) 8)) (fun x => R.get (α := AV) (R.get (α := R AV) x (Nat.mod (Nat.div i 8) 8)) (Nat.mod (Nat.div i 1) 8))
   (fun x => R.get (α := AV) (R.get (α := R AV) (R.get (α := R (R AV)) x (Nat.mod (Nat.div i 64) 8)) (Nat.mod (Nat.div i 8) 8)) (Nat.mod (Nat.div i 1) 8))
   (fun x => R.get (α := AV) (R.get (α := R AV) (R.get (α := R (R AV)) (R.get (α := R (R (R AV))) x (Nat.mod (Nat.div i 512) 8)) (Nat.mod (Nat.div i 64) 8)) (Nat.mod (Nat.div i 8) 8)) (Nat.mod (Nat.div i 1) 8)) c
theorem Cells.gt_eq (c : Cells) (i : Nat) : c.gt i = c.get i := by cases c <;> rfl
def Cells.put (c : Cells) (i : Nat) (v : AV) : Cells :=
  match c with
  | .c1 x => .c1 (Tr.put 1 x i v)
  | .c2 x => .c2 (Tr.put 2 x i v)
  | .c3 x => .c3 (Tr.put 3 x i v)
  | .c4 x => .c4 (Tr.put 4 x i v)
def Cells.setK (c : Cells) (i : Nat) (v : AV) (k : Cells → Bool) : Bool :=
  Cells.rec (motive := fun _ => Bool)
    (fun x => R.setK (α := AV) x (Nat.mod (Nat.div i 1) 8) v fun y => k (.c1 y))
    (fun x => (fun x1 => R.setK (α := AV) x1 (Nat.mod (Nat.div i 1) 8) v fun y => R.setK (α := R AV) x (Nat.mod (Nat.div i 8) 8) y fun y => k (.c2 y)) (R.get (α := R AV) x (Nat.mod (Nat.div i 8) 8)))
    (fun x => (fun x2 => (fun x1 => R.setK (α := AV) x1 (Nat.mod (Nat.div i 1) 8) v fun y => R.setK (α := R AV) x2 (Nat.mod (Nat.div i 8) 8) y fun y => R.setK (α := R (R AV)) x (Nat.mod (Nat.div i 64) 8) y fun y => k (.c3 y))
      (R.get (α := R AV) x2 (Nat.mod (Nat.div i 8) 8))) (R.get (α := R (R AV)) x (Nat.mod (Nat.div i 64) 8)))
    (fun x => (fun x3 => (fun x2 => (fun x1 => R.setK (α := AV) x1 (Nat.mod (Nat.div i 1) 8) v fun y => R.setK (α := R AV) x2 (Nat.mod (Nat.div i 8) 8) y fun y => R.setK (α := R (R AV)) x3 (Nat.mod (Nat.div i 64) 8) y fun y =>
        R.setK (α := R (R (R AV))) x (Nat.mod (Nat.div i 512) 8) y fun y => k (.c4 y))
      (R.get (α := R AV) x2 (Nat.mod (Nat.div i 8) 8))) (R.get (α := R (R AV)) x3 (Nat.mod (Nat.div i 64) 8))) (R.get (α := R (R (R AV))) x (Nat.mod (Nat.div i 512) 8))) c
theorem Cells.setK_eq (c : Cells) (i : Nat) (v : AV) (k : Cells → Bool) : c.setK i v k = k (c.put i v) := by
  have lt : ∀ a, Nat.mod a 8 < 8 := fun a => Nat.mod_lt _ (by omega)
  cases c with
  | c1 x => exact R.setK_eq (α := AV) x _ _ _ (lt _)
  | c2 x =>
    unfold Cells.setK
    simp only [R.setK_eq _ _ _ _ (lt _)]
    exact R.setK_eq (α := R AV) x _ _ _ (lt _)
  | c3 x =>
    unfold Cells.setK
    simp only [R.setK_eq _ _ _ _ (lt _)]
    exact R.setK_eq (α := R (R AV)) x _ _ _ (lt _)
  | c4 x =>
    unfold Cells.setK
    simp only [R.setK_eq _ _ _ _ (lt _)]
    exact R.setK_eq (α := R (R (R AV))) x _ _ _ (lt _)
theorem Cells.dep_put (c : Cells) (i : Nat) (v : AV) : (c.put i v).dep = c.dep := by cases c <;> rfl
theorem Cells.get_put (c : Cells) (v : AV) {i j : Nat} (hi : i < c.dep) (hj : j < c.dep) : (c.put i v).get j = if i = j then v else c.get j := by
  cases c with
  | c1 x => exact Tr.get_put v 1 x i j hi hj
  | c2 x => exact Tr.get_put v 2 x i j hi hj
  | c3 x => exact Tr.get_put v 3 x i j hi hj
  | c4 x => exact Tr.get_put v 4 x i j hi hj
def Cells.grow (c : Cells) : Cells :=
  Cells.rec (motive := fun _ => Cells)
    (fun x => .c2 ((fun e => R.mk x e e e e e e e : R AV → R (R AV)) (Tr.rep .bad 1)))
    (fun x => .c3 ((fun e => R.mk x e e e e e e e : R (R AV) → R (R (R AV))) (Tr.rep .bad 2)))
    (fun x => .c4 ((fun e => R.mk x e e e e e e e : R (R (R AV)) → R (R (R (R AV)))) (Tr.rep .bad 3)))
    (fun x => .c4 x) c
theorem Cells.dep_grow (c : Cells) : c.dep ≤ c.grow.dep := by cases c <;> simp [Cells.grow, Cells.dep]
theorem Cells.get_grow (c : Cells) {i : Nat} (hi : i < c.dep) : c.grow.get i = c.get i := by
  cases c with
  | c1 x => have h : i / 8 ^ 1 % 8 = 0 := by simp only [Cells.dep] at hi; omega
            show Tr.get 1 (R.get _ (i / 8 ^ 1 % 8)) i = _
            rw [h]; rfl
  | c2 x => have h : i / 8 ^ 2 % 8 = 0 := by simp only [Cells.dep] at hi; omega
            show Tr.get 2 (R.get _ (i / 8 ^ 2 % 8)) i = _
            rw [h]; rfl
  | c3 x => have h : i / 8 ^ 3 % 8 = 0 := by simp only [Cells.dep] at hi; omega
            show Tr.get 3 (R.get _ (i / 8 ^ 3 % 8)) i = _
            rw [h]; rfl
  | c4 x => rfl
def Blk.ckRd (b : Blk) (f : Nat → Cells → Bool) : Bool :=
  Blk.rec (motive := fun _ => Bool) false (fun _ _ len c => f len c) (fun _ _ => false) (fun _ _ _ _ => false) (fun _ _ _ => false) false (fun _ _ _ m es _ cp _ => f (Nat.mul m es) cp) b
def Blk.ckWin (b : Blk) (s es : Nat) (f : Nat → Cells → Bool) : Bool :=
  Blk.rec (motive := fun _ => Bool) false (fun _ _ _ _ => false) (fun _ _ => false) (fun _ _ _ _ => false) (fun _ _ _ => false) false (fun s' _ _ _ es' k _ cw => ifB (Nat.beq s s') (ifB (Nat.beq es es') (f (Nat.mul k es') cw))) b
theorem ckRd_ok {b : Blk} {f : Nat → Cells → Bool} (h : b.ckRd f = true) : ∃ len c, f len c = true ∧ ∀ (P : Program) (θ : Theta) (B : Nat) (w : World) (l : Loc), BRel P θ B w l b → ∀ i, i < len → ∃ v, Ev.conc θ (c.get i) = some v ∧ w.cell? (l.addr i) = some v := by
  cases b with
  | cells ro ex len c => exact ⟨len, c, h, fun P θ B w l r => r.2.1⟩
  | split s lo hi m es k cp cw =>
    refine ⟨_, _, h, fun P θ B w l r i hi => ?_⟩
    obtain ⟨_, z, cs, e, _, hw, _, _, _, _, _, _, h3, _, _⟩ := r
    obtain ⟨v, hv, hc⟩ := h3 i hi
    exact ⟨v, hv, by simp [World.cell?, Loc.addr, hw, hc]⟩
  | _ => exact (Bool.false_ne_true h).elim
theorem ckWin_ok {b : Blk} {s es : Nat} {f : Nat → Cells → Bool} (h : b.ckWin s es f = true) : ∃ len c, f len c = true ∧ ∀ (P : Program) (θ : Theta) (B : Nat) (w : World) (l : Loc) (lo hi z : Nat), BRel P θ B w l b → θ.num s lo hi = some (z : Int) → ∀ i, i < len → ∃ v, Ev.conc θ (c.get i) = some v ∧ w.cell? (l.addr (z * es + i)) = some v := by
  cases b with
  | split s' lo' hi' m es' k cp cw =>
    obtain ⟨h1, h3⟩ := ifB_iff.1 h
    obtain ⟨h2, h4⟩ := ifB_iff.1 h3
    clear h h3
    have e1 := Nat.eq_of_beq_eq_true h1
    have e2 := Nat.eq_of_beq_eq_true h2
    subst e1 e2
    refine ⟨_, _, h4, fun P θ B w l lo hi z r hz i hi => ?_⟩
    obtain ⟨_, y, cs, e, hy, hw, _, _, _, _, _, _, _, h4, _⟩ := r
    have hyz := num_same hz hy
    subst hyz
    obtain ⟨v, hv, hc⟩ := h4 i hi
    exact ⟨v, hv, by simpa [World.cell?, Loc.addr, hw] using hc⟩
  | _ => exact (Bool.false_ne_true h).elim
def loadK (H : Heap) (a : AV) (k : AV → Bool) : Bool := a.ckPS (fun b o => at_ H b fun x => x.ckRd fun len c => ifB (Nat.blt o len) (k (c.gt o)))
  fun t => t.ckP fun b s _ _ es o => at_ H b fun x => x.ckWin s es fun len c => ifB (Nat.blt o len) (k (c.gt o))
def Cells.row (c : Cells) : Nat → Nat → List AV
  | _, 0 => []
  | o, n + 1 => c.gt o :: Cells.row c (o + 1) n
def AV.forceOne (a : AV) (k : AV → Bool) : Bool :=
  AV.rec (motive_1 := fun _ => Bool) (motive_2 := fun _ => Bool) false (fun b => k (.bool b)) (fun kd n => k (.int kd n)) (fun n c => k (.str n c)) (k .nilp) (fun b o => k (.ptr b o)) (k .nils) (fun b o n c => k (.sl b o n c)) (fun b o l e => k (.sle b o l e)) (k .nilm) (fun b => k (.map b)) (fun f x y _ _ => k (.fn f x y)) (k .nilf) (fun t v _ => k (.iface t v)) (k .nili) (fun _ _ => false) (fun _ _ => false) (fun i => k (.opq i)) (fun i => k (.sym i)) false (fun _ _ _ _ => false) a
theorem forceOne_iff {a : AV} {k : AV → Bool} : a.forceOne k = true ↔ a.one = true ∧ k a = true := by cases a <;> simp [AV.forceOne, AV.one]
def Cells.rowK (c : Cells) (n : Nat) : Nat → (List AV → Bool) → Bool :=
  Nat.rec (motive := fun _ => Nat → (List AV → Bool) → Bool) (fun _ k => k []) (fun _ ih o k => (c.gt o).forceOne fun v => ih (Nat.succ o) fun l => k (v :: l)) n
theorem rowK_ok {c : Cells} : ∀ {n o : Nat} {k : List AV → Bool}, c.rowK n o k = true → (∀ a ∈ c.row o n, a.one = true) ∧ k (c.row o n) = true
  | 0, o, k, h => ⟨fun a ha => by simp [Cells.row] at ha, h⟩
  | n + 1, o, k, h => by
    have h : ((c.gt o).forceOne fun v => c.rowK n (o + 1) fun l => k (v :: l)) = true := h
    obtain ⟨h1, h⟩ := forceOne_iff.1 h
    obtain ⟨h2, h⟩ := rowK_ok h
    exact ⟨fun a ha => (List.mem_cons.1 ha).elim (fun e => e ▸ h1) (h2 a), h⟩
theorem row_length {c : Cells} : ∀ {n o : Nat}, (c.row o n).length = n
  | 0, _ => rfl
  | n + 1, o => by simp [Cells.row, row_length]
theorem row_get {c : Cells} : ∀ {n o i : Nat}, i < n → (c.row o n)[i]? = some (c.get (o + i))
  | 0, _, _, h => by omega
  | n + 1, o, 0, _ => by simp [Cells.row, Cells.gt_eq]
  | n + 1, o, i + 1, h => by simp only [Cells.row, List.getElem?_cons_succ]; rw [row_get (by omega), show o + 1 + i = o + (i + 1) from by omega]
def loadNK (n : Nat) (H : Heap) (a : AV) (k : AV → Bool) : Bool := a.ckPS (fun b o => at_ H b fun x => x.ckRd fun len c => ifB (Nat.ble (Nat.add o n) len) (c.rowK n o fun l => k (.agg l)))
  fun t => t.ckP fun b s _ _ es o => at_ H b fun x => x.ckWin s es fun len c => ifB (Nat.ble (Nat.add o n) len) (c.rowK n o fun l => k (.agg l))
def RowAt (H : Heap) (a : AV) (len : Nat) (c : Cells) (o : Nat) : Prop :=
  ∀ (P : Program) (θ : Theta) (B : Nat) (w : World) (av : Value), HRel P θ (hfn H) B w → VR θ a av → ∃ ad : Nat → Addr, (∀ i j, (ad i).add j = ad (i + j)) ∧ av = .pointer (some (ad o)) ∧ ∀ i, i < len → ∃ v, Ev.conc θ (c.get i) = some v ∧ w.cell? (ad i) = some v
theorem rowAt_of {H : Heap} {a : AV} {g : Nat → Cells → Nat → Bool}
    (h : (a.ckPS (fun b o => at_ H b fun x => x.ckRd fun len c => g len c o) fun t => t.ckP fun b s _ _ es o => at_ H b fun x => x.ckWin s es fun len c => g len c o) = true) :
    ∃ len c o, g len c o = true ∧ RowAt H a len c o := by
  rcases ckPS_iff h with ⟨t, ha, h0⟩ | h0
  · clear h
    obtain ⟨b, s, lo, hi, es, o, et, h1⟩ := SymT.ckP_iff h0
    clear h0
    subst et
    obtain ⟨hb, h2⟩ := at_iff.1 h1
    obtain ⟨len, c, h3, hr⟩ := ckWin_ok h2
    refine ⟨len, c, o, h3, fun P θ B w av r hv => ?_⟩
    rw [ha] at hv
    obtain ⟨z, l, hz, hl, _, rfl⟩ := hv.symP
    refine ⟨fun i => l.addr (z * es + i), fun i j => ?_, rfl, hr P θ B w l lo hi z (r.at hl) hz⟩
    rw [Loc.addr_add, Nat.add_assoc]
  · clear h
    obtain ⟨b, o, ha, h1⟩ := ckPtr_iff.1 h0
    clear h0
    obtain ⟨hb, h2⟩ := at_iff.1 h1
    obtain ⟨len, c, h3, hr⟩ := ckRd_ok h2
    refine ⟨len, c, o, h3, fun P θ B w av r hv => ?_⟩
    rw [ha] at hv
    obtain ⟨l, hl, rfl⟩ := hv.ptr
    exact ⟨fun i => l.addr i, fun i j => by rw [Loc.addr_add], rfl, hr P θ B w l (r.at hl)⟩
theorem row_gen {θ : Theta} {w : World} {ad : Nat → Addr} {len : Nat} {c : Cells} (r : ∀ i, i < len → ∃ v, Ev.conc θ (c.get i) = some v ∧ w.cell? (ad i) = some v) :
    ∀ (n o : Nat), o + n ≤ len → ∃ vs, concs θ (c.row o n) = some vs ∧ vs.length = n ∧ ∀ j v, vs[j]? = some v → w.cell? (ad (o + j)) = some v
  | 0, o, _ => ⟨[], rfl, rfl, fun j v h => by simp at h⟩
  | n + 1, o, h => by
    obtain ⟨v, hv, hc⟩ := r o (by omega)
    obtain ⟨vs, h1, h2, h3⟩ := row_gen r n (o + 1) (by omega)
    refine ⟨v :: vs, concs_cons.2 ⟨v, vs, by rw [Cells.gt_eq]; exact hv, h1, rfl⟩, by simp [h2], fun j u hj => ?_⟩
    cases j with
    | zero => simp at hj; subst hj; exact hc
    | succ j => rw [show o + (j + 1) = o + 1 + j from by omega]; exact h3 j u (by simpa using hj)
def ReadSpec (P : Program) (env : List AV) (o : Oper) (H : Heap) (v : AV) : Prop :=
  ∀ (θ : Theta) (ac : Act) (w : World) (B : Nat), HRel P θ (hfn H) B w → Opd P θ env o ac → ∃ v', (execOp ac.eval o).run P w = .ok (.value v') w ∧ VR θ v v'
theorem BRel.cell {P : Program} {θ : Theta} {B : Nat} {w : World} {l : Loc} {ro ex : Bool} {len : Nat} {c : Cells} (r : BRel P θ B w l (.cells ro ex len c)) {i : Nat} (hi : i < len) :
    ∃ v, Ev.conc θ (c.get i) = some v ∧ w.cell? (l.addr i) = some v := r.2.1 i hi
theorem row_ok {P : Program} {θ : Theta} {B : Nat} {w : World} {l : Loc} {ro ex : Bool} {len : Nat} {c : Cells} (r : BRel P θ B w l (.cells ro ex len c)) :
    ∀ (n o : Nat), o + n ≤ len → ∃ vs, concs θ (c.row o n) = some vs ∧ vs.length = n ∧ ∀ j v, vs[j]? = some v → w.cell? (l.addr (o + j)) = some v
  | 0, o, _ => ⟨[], rfl, rfl, fun j v h => by simp at h⟩
  | n + 1, o, h => by
    obtain ⟨v, hv, hc⟩ := r.cell (i := o) (by omega)
    obtain ⟨vs, h1, h2, h3⟩ := row_ok r n (o + 1) (by omega)
    refine ⟨v :: vs, concs_cons.2 ⟨v, vs, by rw [Cells.gt_eq]; exact hv, h1, rfl⟩, by simp [h2], fun j u hj => ?_⟩
    cases j with
    | zero => simp at hj; subst hj; exact hc
    | succ j => rw [show o + (j + 1) = o + 1 + j from by omega]; exact h3 j u (by simpa using hj)
def loadE (P : Program) (t : Nat) (H : Heap) (a : AV) (k : AV → Bool) : Bool :=
  match isAggT P t with
  | some true => iteS (P.cellsOf t = 0) false (loadNK (P.cellsOf t) H a k)
  | some false => loadK H a k
  | none => false
theorem run_loadVar_cells {P : Program} {w : World} {t : TypeId} {a : Addr} {vs : List Value} (ha : isAggT P t = some true) (hz : P.cellsOf t ≠ 0) (hl : vs.length = P.cellsOf t)
    (hc : ∀ j v, vs[j]? = some v → w.cell? (a.add j) = some v) : (loadVar t a).run P w = .ok (.agg vs.toArray) w := by
  obtain ⟨i, hi, _⟩ := info_of_cells hz
  have := run_loadCells_list (P := P) w a vs hc
  rw [hl] at this
  simp [loadVar, run_isAggT ha, run_sizeOf w hi, this]
theorem run_loadVar_cell {P : Program} {w : World} {t : TypeId} {a : Addr} {v : Value} (ha : isAggT P t = some false) (hc : w.cell? a = some v) : (loadVar t a).run P w = .ok v w := by
  simp [loadVar, run_isAggT ha, hc]
theorem load_ok {P : Program} {t : Nat} {H : Heap} {a : AV} {k : AV → Bool} (h : loadE P t H a k = true) :
    ∃ v, k v = true ∧ ∀ (θ : Theta) (w : World) (B : Nat) (av : Value), HRel P θ (hfn H) B w → VR θ a av → ∃ ad v', av = .pointer (some ad) ∧ (loadVar t ad).run P w = .ok v' w ∧ Ev.conc θ v = some v' := by
  unfold loadE at h
  simp only [iteS_eq] at h
  split at h
  · rename_i ha
    split at h
    · cases h
    · rename_i hz
      obtain ⟨len, c, o, h1, hr⟩ := rowAt_of (g := fun len c o => ifB (Nat.ble (Nat.add o (P.cellsOf t)) len) (c.rowK (P.cellsOf t) o fun l => k (.agg l))) h
      obtain ⟨hle, h2⟩ := ifB_iff.1 h1
      have hle : o + P.cellsOf t ≤ len := by simpa using hle
      have h3 := (rowK_ok h2).2
      refine ⟨_, h3, fun θ w B av r hv => ?_⟩
      obtain ⟨ad, had, rfl, hc⟩ := hr P θ B w av r hv
      obtain ⟨vs, h1, h2, h3⟩ := row_gen hc (P.cellsOf t) o hle
      exact ⟨_, .agg vs.toArray, rfl, run_loadVar_cells ha hz h2 (fun j v hj => by rw [had]; exact h3 j v hj), by simp [Ev.conc, h1]⟩
  · rename_i ha
    obtain ⟨len, c, o, h1, hr⟩ := rowAt_of (g := fun len c o => ifB (Nat.blt o len) (k (c.gt o))) h
    obtain ⟨hlt, h2⟩ := ifB_iff.1 h1
    have hlt : o < len := by simpa [blt_eq] using hlt
    refine ⟨_, h2, fun θ w B av r hv => ?_⟩
    obtain ⟨ad, had, rfl, hc⟩ := hr P θ B w av r hv
    obtain ⟨v, hv, hc⟩ := hc o hlt
    exact ⟨_, v, rfl, run_loadVar_cell ha hc, by rw [Cells.gt_eq]; exact hv⟩
  · cases h
theorem read_load {P : Program} {env : List AV} {o : Oper} {H : Heap} {t : Nat} {a : Operand} {k : AV → Bool} (ho : o.op = .load t a)
    (h : loadE P t H (ev P env a) k = true) : ∃ v, k v = true ∧ ReadSpec P env o H v := by
  obtain ⟨v, hk, hq⟩ := load_ok h
  refine ⟨v, hk, fun θ ac w B r hO => ?_⟩
  obtain ⟨ad, v', e, hr, hc⟩ := hq θ w B _ r (hO.at (x := a) (by simp [ho, Op.operands]))
  exact ⟨v', by simp [execOp, ho, e, Instr.loadAt, Instr.sureAddr, hr], .inr hc⟩
end
end Ev
namespace Ev
open Go
open Go.RowKit
noncomputable section
def row8 (l : List AV) (k : R AV → Bool) : Bool :=
  List.rec (motive := fun _ => Bool) (k (.mk .bad .bad .bad .bad .bad .bad .bad .bad)) (fun x0 l _ =>
  List.rec (motive := fun _ => Bool) (k (.mk x0 .bad .bad .bad .bad .bad .bad .bad)) (fun x1 l _ =>
  List.rec (motive := fun _ => Bool) (k (.mk x0 x1 .bad .bad .bad .bad .bad .bad)) (fun x2 l _ =>
  List.rec (motive := fun _ => Bool) (k (.mk x0 x1 x2 .bad .bad .bad .bad .bad)) (fun x3 l _ =>
  List.rec (motive := fun _ => Bool) (k (.mk x0 x1 x2 x3 .bad .bad .bad .bad)) (fun x4 l _ =>
  List.rec (motive := fun _ => Bool) (k (.mk x0 x1 x2 x3 x4 .bad .bad .bad)) (fun x5 l _ =>
  List.rec (motive := fun _ => Bool) (k (.mk x0 x1 x2 x3 x4 x5 .bad .bad)) (fun x6 l _ =>
  List.rec (motive := fun _ => Bool) (k (.mk x0 x1 x2 x3 x4 x5 x6 .bad)) (fun x7 l _ =>
  List.rec (motive := fun _ => Bool) (k (.mk x0 x1 x2 x3 x4 x5 x6 x7)) (fun _ _ _ => false) l) l) l) l) l) l) l) l) l
theorem row8_ok {l : List AV} {k : R AV → Bool} (h : row8 l k = true) : ∃ r : R AV, k r = true ∧ l.length ≤ 8 ∧ ∀ i, i < 8 → r.get i = l.getD i .bad := by
  match l, h with
  | [], h => exact ⟨_, h, by simp, cases8 rfl rfl rfl rfl rfl rfl rfl rfl⟩
  | [a], h => exact ⟨_, h, by simp, cases8 rfl rfl rfl rfl rfl rfl rfl rfl⟩
  | [a, b], h => exact ⟨_, h, by simp, cases8 rfl rfl rfl rfl rfl rfl rfl rfl⟩
  | [a, b, c], h => exact ⟨_, h, by simp, cases8 rfl rfl rfl rfl rfl rfl rfl rfl⟩
  | [a, b, c, d], h => exact ⟨_, h, by simp, cases8 rfl rfl rfl rfl rfl rfl rfl rfl⟩
  | [a, b, c, d, e], h => exact ⟨_, h, by simp, cases8 rfl rfl rfl rfl rfl rfl rfl rfl⟩
  | [a, b, c, d, e, f], h => exact ⟨_, h, by simp, cases8 rfl rfl rfl rfl rfl rfl rfl rfl⟩
  | [a, b, c, d, e, f, g], h => exact ⟨_, h, by simp, cases8 rfl rfl rfl rfl rfl rfl rfl rfl⟩
  | [a, b, c, d, e, f, g, i], h => exact ⟨_, h, by simp, cases8 rfl rfl rfl rfl rfl rfl rfl rfl⟩
  | a :: b :: c :: d :: e :: f :: g :: i :: j :: l, h => exact (Bool.false_ne_true h).elim
def fillK : List AV → Cells → Nat → (Cells → Bool) → Bool :=
  List.rec (motive := fun _ => Cells → Nat → (Cells → Bool) → Bool) (fun c _ k => k c) (fun a _ ih c i k => c.setK i a fun c => ih c (Nat.succ i) k)
theorem fillK_ok {k : Cells → Bool} : ∀ {l : List AV} {c : Cells} {i : Nat}, fillK l c i k = true → i + l.length ≤ c.dep →
    ∃ c' : Cells, k c' = true ∧ c'.dep = c.dep ∧ ∀ j, j < c.dep → c'.get j = if i ≤ j ∧ j < i + l.length then l.getD (j - i) .bad else c.get j
  | [], c, i, h, _ => ⟨c, h, rfl, fun j _ => by rw [if_neg (fun e => by have := e.2; simp at this; omega)]⟩
  | a :: l, c, i, h, hd => by
    have h : (c.setK i a fun c => fillK l c (i + 1) k) = true := h
    rw [Cells.setK_eq] at h
    simp only [List.length_cons] at hd
    obtain ⟨c', hk, hdep, hg⟩ := fillK_ok h (by rw [Cells.dep_put]; omega)
    rw [Cells.dep_put] at hdep
    refine ⟨c', hk, hdep, fun j hj => ?_⟩
    rw [hg j (by rw [Cells.dep_put]; exact hj), Cells.get_put c a (by omega) hj]
    simp only [List.length_cons]
    by_cases e : i = j
    · subst e
      rw [if_neg (by omega), if_pos rfl, if_pos (by omega), Nat.sub_self]
      rfl
    · by_cases h1 : i + 1 ≤ j ∧ j < i + 1 + l.length
      · rw [if_pos h1, if_pos (by omega)]
        obtain ⟨m, rfl⟩ : ∃ m, j = i + 1 + m := ⟨j - (i + 1), by omega⟩
        rw [show i + 1 + m - (i + 1) = m from by omega, show i + 1 + m - i = m + 1 from by omega]
        rfl
      · rw [if_neg h1, if_neg e, if_neg (by omega)]
def repK (a : AV) (n : Nat) (k : Cells → Bool) : Bool :=
  Bool.rec (Bool.rec (Bool.rec (Bool.rec false (k (.c4 (Tr.rep a 4))) (Nat.ble n 4096)) (k (.c3 (Tr.rep a 3))) (Nat.ble n 512)) (k (.c2 (Tr.rep a 2))) (Nat.ble n 64)) (k (.c1 (Tr.rep a 1))) (Nat.ble n 8)
theorem repK_ok {a : AV} {n : Nat} {k : Cells → Bool} (h : repK a n k = true) : ∃ c : Cells, k c = true ∧ n ≤ c.dep ∧ ∀ i, c.get i = a := by
  unfold repK at h
  cases h1 : Nat.ble n 8 with
  | true => rw [h1] at h; exact ⟨_, h, show n ≤ 8 from by simpa using h1, fun i => Tr.get_rep a 1 i⟩
  | false =>
    simp only [h1] at h
    cases h2 : Nat.ble n 64 with
    | true => rw [h2] at h; exact ⟨_, h, show n ≤ 64 from by simpa using h2, fun i => Tr.get_rep a 2 i⟩
    | false =>
      simp only [h2] at h
      cases h3 : Nat.ble n 512 with
      | true => rw [h3] at h; exact ⟨_, h, show n ≤ 512 from by simpa using h3, fun i => Tr.get_rep a 3 i⟩
      | false =>
        simp only [h3] at h
        cases h4 : Nat.ble n 4096 with
        | true => rw [h4] at h; exact ⟨_, h, show n ≤ 4096 from by simpa using h4, fun i => Tr.get_rep a 4 i⟩
        | false => simp [h4] at h
def cellsK (l : List AV) (k : Cells → Bool) : Bool :=
  Bool.rec (repK .bad l.length fun c => fillK l c 0 k) (row8 l fun r => k (.c1 r)) (Nat.ble l.length 8)
theorem cellsK_ok {l : List AV} {k : Cells → Bool} (h : cellsK l k = true) : ∃ c : Cells, k c = true ∧ l.length ≤ c.dep ∧ ∀ i, i < l.length → c.get i = l.getD i .bad := by
  unfold cellsK at h
  cases h1 : Nat.ble l.length 8 with
  | true =>
    rw [h1] at h
    obtain ⟨r, hk, hl, hg⟩ := row8_ok h
    refine ⟨_, hk, hl, fun i hi => ?_⟩
    have : i / 8 ^ 0 % 8 = i := by simp; omega
    show Tr.get 0 (R.get r (i / 8 ^ 0 % 8)) i = _
    rw [this]
    exact hg i (by omega)
  | false =>
    simp only [h1] at h
    obtain ⟨c, h2, hd, _⟩ := repK_ok h
    obtain ⟨c', hk, hdep, hg⟩ := fillK_ok h2 (by omega)
    refine ⟨c', hk, by omega, fun i hi => ?_⟩
    rw [hg i (by omega), if_pos (by omega)]
    rfl
def AllocSpec (P : Program) (env : List AV) (o : Oper) (id : Nat) (v : AV) (b : Blk) : Prop :=
  ∀ (θ : Theta) (ac : Act) (w : World) (B : Nat) (h : Nat → Blk), HRel P θ h B w → θ.blk id = none → B ≤ w.heap.size → Opd P θ env o ac →
    ∃ (v' : Value) (ob : Obj) (sz : Nat) (w' : World), (execOp ac.eval o).run P w = .ok (.value v') w' ∧ w'.heap = w.heap.push ob ∧ w'.os = w.os ∧ w'.tape = w.tape ∧ w'.output = w.output ∧
      BRel P (θ.add id ⟨w.heap.size, 0, sz⟩) B (w.alloc ob) ⟨w.heap.size, 0, sz⟩ b ∧ VR (θ.add id ⟨w.heap.size, 0, sz⟩) v v'
theorem BRel.cells_new {P : Program} {θ : Theta} {B : Nat} {w : World} (hB : B ≤ w.heap.size) {l : List AV} {vs : List Value} {c : Cells} (id : Nat) (hi : θ.blk id = none) (e : TypeId) (extra : List Value) (ex : Bool) (hex : ex = true → extra = [])
    (hc : concs θ l = some vs) (hd : l.length ≤ c.dep) (hg : ∀ i, i < l.length → c.get i = l.getD i .bad) :
    BRel P (θ.add id ⟨w.heap.size, 0, l.length + extra.length⟩) B (w.alloc (.cells (vs ++ extra).toArray e)) ⟨w.heap.size, 0, l.length + extra.length⟩ (.cells false ex l.length c) := by
  have hlen := concs_length hc
  refine ⟨hd, fun i hi' => ?_, fun _ => ⟨hB, _, e, heap_alloc_self _ _, ?_, ?_, ?_⟩⟩
  · have ha : l[i]? = some l[i] := List.getElem?_eq_getElem hi'
    obtain ⟨v, hv, hcv⟩ := concs_getElem hc ha
    refine ⟨v, ?_, ?_⟩
    · rw [hg i hi', List.getD_eq_getElem?_getD, ha]
      exact conc_le (Theta.le_add hi _) _ _ hcv
    · simp only [World.cell?, Loc.addr, heap_alloc_self]
      have : (vs ++ extra)[i]? = some v := by rw [List.getElem?_append_left (by omega)]; exact hv
      simpa using this
  · simp [hlen]
  · simp
  · intro h; simp [hex h]
def newK (l : List AV) (H : Heap) (id : Nat) (k : Heap → Bool) : Bool := ifB (Nat.blt id 32768) (cellsK l fun c => hput H id (.cells false true l.length c) k)
theorem newK_ok {l : List AV} {H : Heap} {id : Nat} {k : Heap → Bool} (h : newK l H id k = true) :
    ∃ c : Cells, id < 32768 ∧ k (Tr.put 5 H id (.cells false true l.length c)) = true ∧ l.length ≤ c.dep ∧ ∀ i, i < l.length → c.get i = l.getD i .bad := by
  obtain ⟨hid, h⟩ := ifB_iff.1 h
  obtain ⟨c, h, hd, hg⟩ := cellsK_ok h
  rw [hput_eq] at h
  exact ⟨c, by simpa [blt_eq] using hid, h, hd, hg⟩
def allocE (P : Program) (t : Nat) (H : Heap) (id : Nat) (k : AV → Heap → Bool) : Bool :=
  match zeroA P t with
  | some l => newK l H id fun H => k (.ptr id 0) H
  | none => false
theorem alloc_new {P : Program} {θ : Theta} {B : Nat} {w : World} (hB : B ≤ w.heap.size) {id : Nat} (hi : θ.blk id = none) {l : List AV} {vs : List Value} {c : Cells}
    (hc : concs θ l = some vs) (hd : l.length ≤ c.dep) (hg : ∀ i, i < l.length → c.get i = l.getD i .bad) (e : TypeId) :
    BRel P (θ.add id ⟨w.heap.size, 0, l.length⟩) B (w.alloc (.cells vs.toArray e)) ⟨w.heap.size, 0, l.length⟩ (.cells false true l.length c) := by
  have := BRel.cells_new (P := P) hB id hi e [] true (fun _ => rfl) hc hd hg
  simp only [List.append_nil, List.length_nil, Nat.add_zero] at this
  exact this
theorem alloc_alloc {P : Program} {env : List AV} {o : Oper} {t : Nat} {H : Heap} {id : Nat} {k : AV → Heap → Bool} (ho : o.op = .alloc t)
    (h : allocE P t H id k = true) : ∃ v b, id < 32768 ∧ k v (Tr.put 5 H id b) = true ∧ AllocSpec P env o id v b := by
  unfold allocE at h
  split at h
  · rename_i l hz
    obtain ⟨c, hid, hk, hd, hg⟩ := newK_ok h
    refine ⟨_, _, hid, hk, fun θ ac w B hh r hi hB hO => ?_⟩
    obtain ⟨_, zv, hzr, hzc⟩ := zeroA_ok hz
    obtain ⟨vs, hvs, hcells⟩ := hzc θ
    refine ⟨.pointer (some ⟨w.heap.size, 0, none⟩), .cells vs.toArray t, l.length, w.alloc (.cells vs.toArray t), ?_, rfl, rfl, rfl, rfl, alloc_new hB hi hvs hd hg t, .inr ?_⟩
    · simp [execOp, ho, Instr.alloc, hzr, newVar, newRow, hcells]
      try rfl
    · simp [Ev.conc, Theta.add_self, Loc.addr]
  · cases h
def cellsOfK (x : AV) (k : List AV → Bool) : Bool :=
  AV.rec (motive_1 := fun _ => Bool) (motive_2 := fun _ => Bool) false (fun _ => k [x]) (fun _ _ => k [x]) (fun _ _ => k [x]) (k [x]) (fun _ _ => k [x]) (k [x]) (fun _ _ _ _ => k [x]) (fun _ _ _ _ => k [x]) (k [x]) (fun _ => k [x]) (fun _ _ _ _ _ => k [x]) (k [x]) (fun _ _ _ => k [x]) (k [x]) (fun l _ => k l) (fun _ _ => false) (fun _ => k [x]) (fun _ => k [x]) false (fun _ _ _ _ => false) x
theorem cellsOfK_ok {x : AV} {k : List AV → Bool} (h : cellsOfK x k = true) : ∃ l, k l = true ∧ x ≠ .bad ∧ ∀ θ v, Ev.conc θ x = some v → ∃ vs, concs θ l = some vs ∧ v.cells = vs.toArray := by
  have one : x.one = true → k [x] = true → ∃ l, k l = true ∧ x ≠ .bad ∧ ∀ θ v, Ev.conc θ x = some v → ∃ vs, concs θ l = some vs ∧ v.cells = vs.toArray := by
    intro h1 h2
    refine ⟨_, h2, by intro e; rw [e] at h1; simp [AV.one] at h1, fun θ v hv => ⟨[v], concs_cons.2 ⟨v, [], hv, rfl, rfl⟩, (one_cells h1 hv).1⟩⟩
  cases x
  case bad => exact (Bool.false_ne_true h).elim
  case tup l => exact (Bool.false_ne_true h).elim
  case agg l =>
    refine ⟨l, h, by simp, fun θ v hv => ?_⟩
    obtain ⟨vs, hvs, rfl⟩ := VR.agg (.inr hv)
    exact ⟨vs, hvs, rfl⟩
  all_goals exact one rfl h
def boxE (x : AV) (H : Heap) (id : Nat) (k : AV → Heap → Bool) : Bool := cellsOfK x fun l => newK l H id fun H => k (.ptr id 0) H
theorem alloc_box {P : Program} {env : List AV} {o : Oper} {t : Nat} {x : Operand} {H : Heap} {id : Nat} {k : AV → Heap → Bool} (ho : o.op = .box t x)
    (h : boxE (ev P env x) H id k = true) : ∃ v b, id < 32768 ∧ k v (Tr.put 5 H id b) = true ∧ AllocSpec P env o id v b := by
  obtain ⟨l, h, hb, hl⟩ := cellsOfK_ok h
  obtain ⟨c, hid, hk, hd, hg⟩ := newK_ok h
  refine ⟨_, _, hid, hk, fun θ ac w B hh r hi hB hO => ?_⟩
  have hv := (hO.at (x := x) (by simp [ho, Op.operands])).conc hb
  obtain ⟨vs, hvs, hcells⟩ := hl θ _ hv
  refine ⟨.pointer (some ⟨w.heap.size, 0, none⟩), .cells vs.toArray t, l.length, w.alloc (.cells vs.toArray t), ?_, rfl, rfl, rfl, rfl, alloc_new hB hi hvs hd hg t, .inr ?_⟩
  · simp [execOp, ho, Instr.box, newVar, newRow, hcells]
    try rfl
  · simp [Ev.conc, Theta.add_self, Loc.addr]
def repL (z : List AV) : Nat → List AV
  | 0 => []
  | n + 1 => z ++ repL z n
theorem repL_length (z : List AV) : ∀ n, (repL z n).length = n * z.length
  | 0 => by simp [repL]
  | n + 1 => by simp [repL, repL_length z n, Nat.succ_mul]; omega
theorem repL_conc {θ : Theta} {z : List AV} {vs : List Value} (h : concs θ z = some vs) : ∀ n, concs θ (repL z n) = some ((List.replicate n vs).flatten)
  | 0 => by simp [repL, concs]
  | n + 1 => by
    simp only [repL, List.replicate_succ, List.flatten_cons]
    exact concs_append h (repL_conc h n)
theorem range_mod (vs : List Value) (n : Nat) (hv : vs ≠ []) : ((Array.range (n * vs.length)).map fun i => vs.toArray[i % vs.toArray.size]!).toList = (List.replicate n vs).flatten := by
  have hpos : 0 < vs.length := List.length_pos_iff.2 hv
  apply List.ext_getElem?
  intro i
  have hlen : ((List.replicate n vs).flatten).length = n * vs.length := by simp
  by_cases hi : i < n * vs.length
  · have h1 : ((Array.range (n * vs.length)).map fun i => vs.toArray[i % vs.toArray.size]!).toList[i]? = some (vs.toArray[i % vs.length]!) := by simp [hi]
    rw [h1]
    have hm : i % vs.length < vs.length := Nat.mod_lt _ hpos
    have h2 : ∀ (n i : Nat), i < n * vs.length → ((List.replicate n vs).flatten)[i]? = some (vs[i % vs.length]'(Nat.mod_lt _ hpos)) := by
      intro n
      induction n with
      | zero => intro i h; omega
      | succ n ih =>
        intro i h
        simp only [List.replicate_succ, List.flatten_cons]
        by_cases hlt : i < vs.length
        · rw [List.getElem?_append_left hlt, List.getElem?_eq_getElem hlt]
          simp [Nat.mod_eq_of_lt hlt]
        · rw [List.getElem?_append_right (by omega), ih (i - vs.length) (by rw [Nat.succ_mul] at h; omega)]
          have : (i - vs.length) % vs.length = i % vs.length := by rw [← Nat.mod_eq_sub_mod (by omega)]
          simp [this]
    rw [h2 n i hi]
    simp [hm]
  · rw [List.getElem?_eq_none (by simp; omega), List.getElem?_eq_none (by rw [hlen]; omega)]
end
end Ev
namespace Ev
open Go
open Go.RowKit
noncomputable section
theorem zeroA_info {P : Program} {t : Nat} {l : List AV} (h : zeroA P t = some l) : ∃ i zv, P.info? t = some i ∧ i.zero = some zv ∧ i.size = P.cellsOf t ∧ ∀ θ, ∃ vs, concs θ l = some vs ∧ zv.cells = vs.toArray := by
  obtain ⟨_, zv, hr, hc⟩ := zeroA_ok h
  unfold zeroA at h
  split at h
  · rename_i v hz
    have := run_zeroValue_of hz
    cases hi : P.info? t with
    | none => simp [hi] at hz
    | some i =>
      simp only [hi, Option.bind_some] at hz
      have w : World := default
      have e := (hr w).symm.trans (this w)
      injection e with e
      subst e
      exact ⟨i, _, rfl, hz, by simp [Program.cellsOf, hi], hc⟩
  · cases h
theorem Cells.dep_le (c : Cells) : c.dep ≤ 4096 := by cases c <;> simp [Cells.dep]
def bsliceE2 (P : Program) (t len : Nat) (ps : List (Nat × AV)) (H : Heap) (id : Nat) (k : AV → Heap → Bool) : Bool :=
  match P.underlying t with
  | some (.slice e) => (match zeroA P e with
    | some (z :: zs) => layAll (elemPl P e) ps (repL (z :: zs) len) fun l => newK l H id fun H => k (.sl id 0 len (.known len)) H
    | _ => false)
  | _ => false
def bsliceE (P : Program) (env : List AV) (t len : Nat) (parts : Array (Nat × Operand)) (H : Heap) (id : Nat) (k : AV → Heap → Bool) : Bool :=
  match P.underlying t with
  | some (.slice e) => (match zeroA P e with
    | some (z :: zs) => layAll (elemPl P e) (parts.toList.map fun p => (p.1, ev P env p.2)) (repL (z :: zs) len) fun l => newK l H id fun H => k (.sl id 0 len (.known len)) H
    | _ => false)
  | _ => false
theorem alloc_bslice {P : Program} {env : List AV} {o : Oper} {t len : Nat} {parts : Array (Nat × Operand)} {H : Heap} {id : Nat} {k : AV → Heap → Bool} (ho : o.op = .buildSlice t len parts)
    (h : bsliceE P env t len parts H id k = true) : ∃ v b, id < 32768 ∧ k v (Tr.put 5 H id b) = true ∧ AllocSpec P env o id v b := by
  have hop : ∀ p ∈ parts.toList, p.2 ∈ o.op.operands := fun p hp => by
    simp only [ho, Op.operands, List.mem_toArray, List.mem_map]
    exact ⟨p, hp, rfl⟩
  unfold bsliceE at h
  split at h
  · rename_i e hu
    split at h
    · rename_i z zs hz
      obtain ⟨out, h, hl, hq⟩ := layAll_ok (rp := fun i => some (i * P.cellsOf e, P.cellsOf e)) (fun i off size agg e => (elemPl_ok e).1) h
      obtain ⟨c, hid, hk, hd, hg⟩ := newK_ok h
      refine ⟨_, _, hid, hk, fun θ ac w B hh r hi hB hO => ?_⟩
      obtain ⟨hlen, zv, hzr, hzc⟩ := zeroA_ok hz
      obtain ⟨zvs, hzvs, hcells⟩ := hzc θ
      have hne : P.cellsOf e ≠ 0 := by rw [← hlen]; simp
      obtain ⟨inf, hinf, _⟩ := info_of_cells hne
      have hzl := concs_length hzvs
      have hzl' : zvs.length = P.cellsOf e := by rw [hzl, hlen]
      obtain ⟨vs, hvs, hfill⟩ := hq θ ac _ (repL_conc hzvs len) (fun p hp => hO.at (hop p hp))
      have hll : out.length = len * P.cellsOf e := by rw [hl, repL_length, hlen]
      have hsmall : len * P.cellsOf e ≤ 4096 := by have := Cells.dep_le c; omega
      refine ⟨.slice (some ⟨w.heap.size, 0, none⟩) len len, .cells vs.toArray e, out.length, w.alloc (.cells vs.toArray e), ?_, rfl, rfl, rfl, rfl, alloc_new hB hi hvs hd hg e, .inr ?_⟩
      · have hpl : (parts.map fun (p : Nat × Operand) => (p.1, ac.eval p.2)).toList = parts.toList.map fun p => (p.1, ac.eval p.2) := by simp
        have hrow : (Array.range (len * P.cellsOf e)).map (fun i => zv.cells[i % zv.cells.size]!) = ((List.replicate len zvs).flatten).toArray := by
          apply Array.ext'
          have := range_mod zvs len (by intro e'; rw [e'] at hzl'; simp at hzl'; omega)
          rw [hzl'] at this
          rw [hcells]
          simpa using this
        have h24 : ¬ (len * P.cellsOf e > 2 ^ 24) := by omega
        simp only [execOp, ho, Instr.buildSlice, Sem.run_bind, run_underlying hu, Result.andThen_ok, run_sizeOf w hinf, h24, if_false, Sem.run_pure]
        by_cases h0 : len * P.cellsOf e = 0
        · have hz0 : len = 0 := (Nat.mul_eq_zero.1 h0).resolve_right hne
          subst hz0
          simp only [h0, if_true]
          simp only [List.replicate_zero, List.flatten_nil] at hfill
          have hr0 : ∀ zz : Array Value, (Array.range 0).map (fun i => zz[i % zz.size]!) = [].toArray := fun _ => Array.eq_empty_of_size_eq_zero (by simp)
          simp only [hr0, hpl, hfill, newRow]
          simp
          try rfl
        · simp only [h0, if_false, Sem.run_bind, hzr, Result.andThen_ok, Sem.run_pure, hrow, hpl, hfill, newRow]
          simp
          try rfl
      · exact conc_slk (l := ⟨w.heap.size, 0, out.length⟩) (Theta.add_self _ _ _)
    · cases h
  · cases h
def mkmapE (H : Heap) (id : Nat) (k : AV → Heap → Bool) : Bool := ifB (Nat.blt id 32768) (hput H id (.map .nil 0) fun H => k (.map id) H)
theorem alloc_mkmap {P : Program} {env : List AV} {o : Oper} {t : Nat} {H : Heap} {id : Nat} {k : AV → Heap → Bool} (ho : o.op = .makeMap t none)
    (h : mkmapE H id k = true) : ∃ v b, id < 32768 ∧ k v (Tr.put 5 H id b) = true ∧ AllocSpec P env o id v b := by
  obtain ⟨hid, h⟩ := ifB_iff.1 h
  rw [hput_eq] at h
  refine ⟨_, _, by simpa [blt_eq] using hid, h, fun θ ac w B hh r hi hB hO => ?_⟩
  refine ⟨.map (some w.heap.size), .map #[] 0, 0, w.alloc (.map #[] 0), ?_, rfl, rfl, rfl, rfl, ⟨hB, #[], heap_alloc_self _ _, .nil⟩, .inr ?_⟩
  · simp [execOp, ho, Instr.makeMap]
    try rfl
  · simp [Ev.conc, Theta.add_self]
theorem alloc_mkmap' {P : Program} {env : List AV} {o : Oper} {t kt vt : Nat} {x : Operand} {H : Heap} {id : Nat} {k : AV → Heap → Bool} (ho : o.op = .makeMap t (some x)) (hu : P.underlying t = some (.map kt vt))
    (h : ((ev P env x).ckInt fun _ _ => mkmapE H id k) = true) : ∃ v b, id < 32768 ∧ k v (Tr.put 5 H id b) = true ∧ AllocSpec P env o id v b := by
  obtain ⟨kd, n, hx, h⟩ := ckInt_iff.1 h
  obtain ⟨hid, h⟩ := ifB_iff.1 h
  rw [hput_eq] at h
  refine ⟨_, _, by simpa [blt_eq] using hid, h, fun θ ac w B hh r hi hB hO => ?_⟩
  have vx := hO.at (x := x) (by simp [ho, Op.operands])
  rw [hx] at vx
  refine ⟨.map (some w.heap.size), .map #[] 0, 0, w.alloc (.map #[] 0), ?_, rfl, rfl, rfl, rfl, ⟨hB, #[], heap_alloc_self _ _, .nil⟩, .inr ?_⟩
  · simp [execOp, ho, Instr.makeMap, vx.int, run_underlying hu, asInt, asIntOf]
    try rfl
  · simp [Ev.conc, Theta.add_self]
def mksliceE (P : Program) (t : Nat) (l c : AV) (H : Heap) (id : Nat) (k : AV → Heap → Bool) : Bool :=
  match P.underlying t with
  | some (.slice e) => (match zeroA P e with
    | some (z :: zs) => if (P.info? e).any (fun i => decide (i.bytes ≤ 100000)) then
        l.ckInt fun _ l => natOf l fun l => c.ckInt fun _ c => natOf c fun c => ifB (Bool.and (Nat.ble l c) (Nat.ble c 4096)) (newK (repL (z :: zs) c) H id fun H => k (.sl id 0 l (.known c)) H)
      else false
    | _ => false)
  | _ => false
theorem alloc_mkslice {P : Program} {env : List AV} {o : Oper} {t : Nat} {x y : Operand} {H : Heap} {id : Nat} {k : AV → Heap → Bool} (ho : o.op = .makeSlice t x y)
    (h : mksliceE P t (ev P env x) (ev P env y) H id k = true) : ∃ v b, id < 32768 ∧ k v (Tr.put 5 H id b) = true ∧ AllocSpec P env o id v b := by
  unfold mksliceE at h
  split at h
  · rename_i e hu
    split at h
    · rename_i z zs hz
      split at h
      · rename_i hby
        obtain ⟨k1, l', hx, h⟩ := ckInt_iff.1 h
        obtain ⟨l, rfl, h⟩ := natOf_iff.1 h
        obtain ⟨k2, c', hy, h⟩ := ckInt_iff.1 h
        obtain ⟨c, rfl, h⟩ := natOf_iff.1 h
        obtain ⟨hb, h⟩ := ifB_iff.1 h
        have hb : l ≤ c ∧ c ≤ 4096 := by simpa using hb
        obtain ⟨hlc, hc4⟩ := hb
        obtain ⟨cc, hid, hk, hd, hg⟩ := newK_ok h
        refine ⟨_, _, hid, hk, fun θ ac w B hh r hi hB hO => ?_⟩
        have vx := hO.at (x := x) (by simp [ho, Op.operands])
        have vy := hO.at (x := y) (by simp [ho, Op.operands])
        rw [hx] at vx; rw [hy] at vy
        obtain ⟨hlen, _⟩ := zeroA_ok hz
        obtain ⟨inf, zv, hinf, hzero, hsz, hzc⟩ := zeroA_info hz
        obtain ⟨zvs, hzvs, hcells⟩ := hzc θ
        have hne : P.cellsOf e ≠ 0 := by rw [← hlen]; simp
        have hby' : inf.bytes ≤ 100000 := by simpa [hinf] using hby
        have hzl' : zvs.length = P.cellsOf e := by rw [concs_length hzvs, hlen]
        have hvs := repL_conc hzvs c
        have hll : (repL (z :: zs) c).length = c * P.cellsOf e := by rw [repL_length, hlen]
        refine ⟨.slice (some ⟨w.heap.size, 0, none⟩) l c, .cells ((List.replicate c zvs).flatten).toArray e, _, w.alloc (.cells ((List.replicate c zvs).flatten).toArray e), ?_, rfl, rfl, rfl, rfl, alloc_new hB hi hvs hd hg e, .inr ?_⟩
        · have hrow : madeCells zv.cells (c * P.cellsOf e) = ((List.replicate c zvs).flatten).toArray := by
            apply Array.ext'
            have := range_mod zvs c (by intro e'; rw [e'] at hzl'; simp at hzl'; omega)
            rw [hzl'] at this
            rw [hcells]
            simpa [madeCells] using this
          have m1 : (inf.bytes : Int) * (c : Int) ≤ 281474976710656 := by
            have : inf.bytes * c ≤ 100000 * 4096 := Nat.mul_le_mul hby' hc4
            have h2 := Int.ofNat_le.2 this
            rw [Int.natCast_mul] at h2
            omega
          have hr := run_make (P := P) w t e inf zv hu hinf hzero k1 k2 (l : Int) (c : Int) (by omega) (by omega) m1 (by omega)
          rw [hsz] at hr
          simp only [Int.toNat_natCast, hrow] at hr
          simp only [execOp, ho, vx.int, vy.int, Sem.run_bind, hr, Result.andThen_ok, Sem.run_pure]
        · exact conc_slk (l := ⟨w.heap.size, 0, _⟩) (Theta.add_self _ _ _)
      · cases h
    · cases h
  · cases h
end
end Ev
namespace Ev
open Go
open Go.RowKit
noncomputable section
def ownK (H : Heap) (b : Nat) (y : Bool) : Bool := at_ H b fun bl => bl.ckCells fun ro _ _ _ => Bool.rec y false ro
theorem ownK_iff {H : Heap} {b : Nat} {y : Bool} (h : ownK H b y = true) : (∃ ex len c, hfn H b = .cells false ex len c) ∧ y = true := by
  obtain ⟨_, h⟩ := at_iff.1 h
  obtain ⟨ro, ex, len, c, hb, h⟩ := ckCells_iff.1 h
  cases ro with
  | false => exact ⟨⟨ex, len, c, hb⟩, h⟩
  | true => exact (Bool.false_ne_true h).elim
def ptrEqK (H : Heap) (x y : AV) (k : Bool → Bool) : Bool :=
  AV.rec (motive_1 := fun _ => Bool) (motive_2 := fun _ => Bool) false (fun _ => false) (fun _ _ => false) (fun _ _ => false) (nilP y k) (fun b o => AV.rec (motive_1 := fun _ => Bool) (motive_2 := fun _ => Bool) false (fun _ => false) (fun _ _ => false) (fun _ _ => false) (k false) (fun c p => Bool.rec (ownK H b (ownK H c (k false))) (k (Nat.beq o p)) (Nat.beq b c)) false (fun _ _ _ _ => false) (fun _ _ _ _ => false) false (fun _ => false) (fun _ _ _ _ _ => false) false (fun _ _ _ => false) false (fun _ _ => false) (fun _ _ => false) (fun _ => false) (fun _ => false) false (fun _ _ _ _ => false) y) false (fun _ _ _ _ => false) (fun _ _ _ _ => false) false (fun _ => false) (fun _ _ _ _ _ => false) false (fun _ _ _ => false) false (fun _ _ => false) (fun _ _ => false) (fun _ => false) (fun _ => false) false (fun _ _ _ _ => false) x
theorem addr_beq (l : Loc) (o p : Nat) : (l.addr o == l.addr p) = Nat.beq o p := by
  rw [Bool.eq_iff_iff, beq_iff_eq, Nat.beq_eq]
  constructor
  · intro h
    have := congrArg Addr.off h
    simp only [Loc.addr] at this
    omega
  · rintro rfl; rfl
theorem own_cells {P : Program} {θ : Theta} {B : Nat} {w : World} {l : Loc} {ex : Bool} {len : Nat} {c : Cells} (r : BRel P θ B w l (.cells false ex len c)) :
    ∃ cs e, w.heap[l.blk]? = some (.cells cs e (0, 0)) ∧ cs.size = l.off + l.size := let ⟨_, cs, e, h, hs, _⟩ := r.2.2 rfl; ⟨cs, e, h, hs⟩
theorem ptrEqK_ok {H : Heap} {x y : AV} {k : Bool → Bool} (h : ptrEqK H x y k = true) :
    ∃ r, k r = true ∧ ∀ (P : Program) (θ : Theta) (B : Nat) (w : World) (xv yv : Value), HRel P θ (hfn H) B w → VR θ x xv → VR θ y yv →
      ∃ p q, xv = .pointer p ∧ yv = .pointer q ∧ (samePointer p q).run P w = .ok r w := by
  cases x <;> first | exact (Bool.false_ne_true h).elim | skip
  · cases y <;> first | exact (Bool.false_ne_true h).elim | skip
    · exact ⟨true, h, fun P θ B w xv yv r hx hy => ⟨_, _, hx.nilp, hy.nilp, by simp [samePointer]⟩⟩
    · exact ⟨false, h, fun P θ B w xv yv r hx hy => by
        obtain ⟨l, _, hy⟩ := hy.ptr
        exact ⟨_, _, hx.nilp, hy, by simp [samePointer]⟩⟩
  · rename_i b o
    cases y <;> first | exact (Bool.false_ne_true h).elim | skip
    · exact ⟨false, h, fun P θ B w xv yv r hx hy => by
        obtain ⟨l, _, hx⟩ := hx.ptr
        exact ⟨_, _, hx, hy.nilp, by simp [samePointer]⟩⟩
    · rename_i c p
      have h2 : (Bool.rec (motive := fun _ => Bool) (ownK H b (ownK H c (k false))) (k (Nat.beq o p)) (Nat.beq b c)) = true := h
      cases hbc : Nat.beq b c with
      | true =>
        simp only [hbc] at h2
        have e : b = c := by simpa using hbc
        subst e
        refine ⟨_, h2, fun P θ B w xv yv r hx hy => ?_⟩
        obtain ⟨l, hl, hx⟩ := hx.ptr
        obtain ⟨l', hl', hy⟩ := hy.ptr
        rw [hl] at hl'; injection hl' with hl'; subst hl'
        refine ⟨_, _, hx, hy, ?_⟩
        have : ((l.addr o).block == (l.addr p).block) = true := by simp [Loc.addr]
        simp only [samePointer, sameAddr, this, if_true, addr_beq]
        rfl
      | false =>
        simp only [hbc] at h2
        obtain ⟨⟨ex, len, cc, hb⟩, h3⟩ := ownK_iff h2
        obtain ⟨⟨ex', len', cc', hc⟩, h4⟩ := ownK_iff h3
        refine ⟨_, h4, fun P θ B w xv yv r hx hy => ?_⟩
        obtain ⟨l, hl, hx⟩ := hx.ptr
        obtain ⟨l', hl', hy⟩ := hy.ptr
        refine ⟨_, _, hx, hy, ?_⟩
        have hne : l.blk ≠ l'.blk := by
          intro e
          have hbn : hfn H b ≠ .dead := by rw [hb]; simp
          have hcn : hfn H c ≠ .dead := by rw [hc]; simp
          have := r.inj b c l l' hbn hcn hl hl' e
          subst this
          simp at hbc
        have rb := r.at hl
        have rc := r.at hl'
        rw [hb] at rb; rw [hc] at rc
        obtain ⟨cs, e, hw, hs⟩ := own_cells rb
        obtain ⟨cs', e', hw', hs'⟩ := own_cells rc
        have h1 : ((l.addr o).block == (l'.addr p).block) = false := by simpa [Loc.addr] using hne
        have f1 : ∀ q, w.frozen? ⟨l.blk, q, none⟩ = false := fun q => by simp [World.frozen?, hw]
        have f2 : ∀ q, w.frozen? ⟨l'.blk, q, none⟩ = false := fun q => by simp [World.frozen?, hw']
        have s1 : w.shape? l.blk = some (e, cs.size) := by simp [World.shape?, hw]
        have s2 : w.shape? l'.blk = some (e', cs'.size) := by simp [World.shape?, hw']
        have h1' : (l.blk == l'.blk) = false := by simpa using hne
        simp [samePointer, sameAddr, h1', Loc.addr, f1, f2, noView, viewAt, mayBeOne, stringish, s1, s2, Sem.run_bind]
  all_goals exact (Bool.false_ne_true h).elim
theorem ptrEqK_same {H : Heap} {x y : AV} {k : Bool → Bool} (h : ptrEqK H x y k = true) :
    ∃ r, k r = true ∧ (r = true → x = y) ∧ ∀ (P : Program) (θ : Theta) (B : Nat) (w : World) (xv yv : Value), HRel P θ (hfn H) B w → VR θ x xv → VR θ y yv →
      ∃ p q, xv = .pointer p ∧ yv = .pointer q ∧ (samePointer p q).run P w = .ok r w := by
  have hx : ptrEqK H x y (fun r => Bool.and (k r) (Bool.rec (motive := fun _ => Bool) true true r)) = ptrEqK H x y k := by
    congr 1; funext r; cases r <;> simp
  by_cases hxy : x = y
  · obtain ⟨r, h1, h2⟩ := ptrEqK_ok h
    exact ⟨r, h1, fun _ => hxy, h2⟩
  · have h' : ptrEqK H x y (fun r => Bool.and (k r) (Bool.not r)) = true := by
      cases x <;> first | exact (Bool.false_ne_true h).elim | skip
      · cases y <;> first | exact (Bool.false_ne_true h).elim | skip
        · exact absurd rfl hxy
        · show Bool.and (k false) (Bool.not false) = true
          have h : k false = true := h
          rw [h]; rfl
      · rename_i b o
        cases y <;> first | exact (Bool.false_ne_true h).elim | skip
        · show Bool.and (k false) (Bool.not false) = true
          have h : k false = true := h
          rw [h]; rfl
        · rename_i c p
          have h2 : (Bool.rec (motive := fun _ => Bool) (ownK H b (ownK H c (k false))) (k (Nat.beq o p)) (Nat.beq b c)) = true := h
          show (Bool.rec (motive := fun _ => Bool) (ownK H b (ownK H c (Bool.and (k false) (Bool.not false)))) (Bool.and (k (Nat.beq o p)) (Bool.not (Nat.beq o p))) (Nat.beq b c)) = true
          cases hbc : Nat.beq b c with
          | true =>
            rw [hbc] at h2
            have h2 : k (Nat.beq o p) = true := h2
            have e : b = c := Nat.eq_of_beq_eq_true hbc
            have hop : Nat.beq o p = false := by
              cases hop : Nat.beq o p with
              | false => rfl
              | true => exact absurd (by rw [e, Nat.eq_of_beq_eq_true hop]) hxy
            show Bool.and (k (Nat.beq o p)) (Bool.not (Nat.beq o p)) = true
            rw [hop] at h2 ⊢
            rw [h2]; rfl
          | false =>
            rw [hbc] at h2
            have h2 : ownK H b (ownK H c (k false)) = true := h2
            have e : Bool.and (k false) (Bool.not false) = k false := by cases k false <;> rfl
            show ownK H b (ownK H c (Bool.and (k false) (Bool.not false))) = true
            rw [e]; exact h2
    obtain ⟨r, h1, h2⟩ := ptrEqK_ok h'
    cases r with
    | true => cases hk : k true <;> simp [hk] at h1
    | false => exact ⟨false, by simpa using h1, fun e => Bool.noConfusion e, h2⟩
theorem strOf_beq (n c m d : Nat) : eqStr n c m d = (strOf n c == strOf m d) := by
  rw [eqStr_eq, ByteArray.toList_eq, ByteArray.toList_eq]
  show (bytesOf n c == bytesOf m d) = ((bytesOf n c).toArray == (bytesOf m d).toArray)
  rw [Bool.eq_iff_iff, beq_iff_eq, beq_iff_eq]
  constructor
  · intro h; rw [h]
  · intro h; simpa using h
noncomputable def AV.ckPN (a : AV) (y : Bool) : Bool :=
  AV.rec (motive_1 := fun _ => Bool) (motive_2 := fun _ => Bool) false (fun _ => false) (fun _ _ => false) (fun _ _ => false) y (fun _ _ => y) false (fun _ _ _ _ => false) (fun _ _ _ _ => false) false (fun _ => false) (fun _ _ _ _ _ => false) false (fun _ _ _ => false) false (fun _ _ => false) (fun _ _ => false) (fun _ => false) (fun _ => false) false (fun _ _ _ _ => false) a
theorem ckPN_iff {a : AV} {y : Bool} : a.ckPN y = true ↔ (a = .nilp ∨ ∃ b o, a = .ptr b o) ∧ y = true := by cases a <;> simp [AV.ckPN]
def keyEq (is : List Nat) (H : Heap) (a b : AV) (yes no : Bool) : Bool :=
  AV.rec (motive_1 := fun _ => Bool) (motive_2 := fun _ => Bool) false (fun _ => false) (fun k x => eqIS (.int k x) b fun e => Bool.rec no yes e) (fun n c => b.ckStr fun m d => Bool.rec no yes (eqStr n c m d)) (ptrEqK H .nilp b fun r => Bool.rec no yes r) (fun p o => ptrEqK H (.ptr p o) b fun r => Bool.rec no yes r) false (fun _ _ _ _ => false) (fun _ _ _ _ => false) false (fun _ => false) (fun _ _ _ _ _ => false) false (fun _ _ _ => false) false (fun l _ => b.ckAgg fun m => ifB (Nat.beq m.length l.length) (eqOffs is l m fun r => Bool.rec no yes r)) (fun _ _ => false) (fun _ => false) (fun t => eqIS (.sym t) b fun e => Bool.rec no yes e) false (fun _ _ _ _ => false) a
def keyIs (P : Program) (kt : Nat) : List Nat := match P.underlying kt with | some (.struct fields) => (intOffs P fields.toList).getD [] | some (.array m _) => List.range m | _ => []
def hasInts : List Nat → List AV → Bool → Bool
  | [], _, y => y
  | i :: is, l, y => nthK i l fun a => a.ckNum (hasInts is l y)
def keyOk (P : Program) (kt : Nat) (a : AV) (y : Bool) : Bool :=
  match P.underlying kt with
  | some (.int _) => a.ckNum y
  | some .string => a.ckStr fun _ _ => y
  | some (.pointer e) => iteS (P.cellsOf e = 0) false (a.ckPN y)
  | some (.struct fields) => iteS (P.stoodInHeld kt = true) false (iteS (intOffs P fields.toList = some (List.range fields.size) ∧ (fields.toList.all fun f => f.name != "_") = true)
      (a.ckAgg fun l => ifB (Nat.beq l.length fields.size) (hasInts (List.range fields.size) l y)) false)
  | some (.array m e) => (match P.underlying e with
    | some (.int _) => iteS (P.cellsOf e = 1) (a.ckAgg fun l => ifB (Nat.beq l.length m) (hasInts (List.range m) l y)) false
    | _ => false)
  | _ => false
def EqAt (P : Program) (w : World) (kt : Nat) (fl : Bool) (va vb : Value) (r : Bool) : Prop :=
  if fl then ∃ d, P.underlying kt = some d ∧ Instr.sameNow d va vb = some r else (Op.equal kt va vb).run P w = .ok r w
structure KeyOk (P : Program) (kt : Nat) (fl : Bool) (a : AV) : Prop where
  bad : a ≠ .bad
  und : ∃ d, P.underlying kt = some d ∧ (fl = false → ∀ x y, Instr.sameNow d x y = none)
  chk : ∀ θ kv b w, Ev.conc θ a = some kv → (Instr.checkKey b 10000 kt kv).run P w = .ok () w
  bits : ∀ θ kv, Ev.conc θ a = some kv → Instr.sameBits 10000 kv kv = true
  eq : ∀ (H : Heap) (b : AV) (yes no : Bool), keyEq (keyIs P kt) H a b yes no = true →
    (yes = true ∧ ∀ θ B w va vb, HRel P θ (hfn H) B w → Ev.conc θ a = some va → Ev.conc θ b = some vb → EqAt P w kt fl va vb true ∧ vb = va) ∨
    (no = true ∧ ∀ θ B w va vb, HRel P θ (hfn H) B w → Ev.conc θ a = some va → Ev.conc θ b = some vb → EqAt P w kt fl va vb false)
theorem keyOk_int {P : Program} {kt : Nat} {k0 : IntKind} (hu : P.underlying kt = some (.int k0)) {a : AV} (ha : a ≠ .bad) (hv : ∀ θ v, Ev.conc θ a = some v → ∃ k x, v = .int k x) (he : ∀ is H b yes no, keyEq is H a b yes no = eqIS a b fun e => Bool.rec no yes e) : KeyOk P kt true a := by
  refine ⟨ha, ⟨_, hu, fun h => by cases h⟩, fun θ kv b w hk => ?_, fun θ kv hk => ?_, fun H b yes no h => ?_⟩
  · obtain ⟨k, x, rfl⟩ := hv θ kv hk
    rw [show (10000 : Nat) = 9999 + 1 from rfl, Instr.checkKey]
    simp only [Sem.run_bind, run_underlying hu, Result.andThen_ok, Sem.run_pure]
  · obtain ⟨k, x, rfl⟩ := hv θ kv hk
    show (k == k && x == x) = true
    simp
  · rw [he] at h
    obtain ⟨e, h, hq⟩ := eqIS_ok h
    cases e with
    | true =>
      refine .inl ⟨h, fun θ B w va vb _ ha hb => ?_⟩
      obtain ⟨kd, x, y, rfl, rfl, hxy⟩ := hq θ va vb (.inr ha) (.inr hb)
      have e : x = y := by simpa using hxy
      subst e
      exact ⟨⟨_, hu, by simp [Instr.sameNow]⟩, rfl⟩
    | false =>
      refine .inr ⟨h, fun θ B w va vb _ ha hb => ?_⟩
      obtain ⟨kd, x, y, rfl, rfl, hxy⟩ := hq θ va vb (.inr ha) (.inr hb)
      exact ⟨_, hu, by simp [Instr.sameNow, hxy]⟩
theorem num_keyEq {a : AV} {y : Bool} (h : a.ckNum y = true) : ∀ is H b yes no, keyEq is H a b yes no = eqIS a b fun e => Bool.rec no yes e := by
  rcases ckIS_iff h with ⟨k, n, e, h1⟩ | ⟨s, lo, hi, c, e, h1⟩ <;> subst e <;> intros <;> rfl
theorem keyOk_str {P : Program} {kt : Nat} (hu : P.underlying kt = some .string) (n c : Nat) : KeyOk P kt true (.str n c) := by
  refine ⟨by simp, ⟨_, hu, fun h => by cases h⟩, fun θ kv b w hk => ?_, fun θ kv hk => ?_, fun H b yes no h => ?_⟩
  · simp only [Ev.conc, Option.some.injEq] at hk
    subst hk
    rw [show (10000 : Nat) = 9999 + 1 from rfl, Instr.checkKey]
    simp only [Sem.run_bind, run_underlying hu, Result.andThen_ok, Sem.run_pure]
  · simp only [Ev.conc, Option.some.injEq] at hk
    subst hk
    show ((bytesOf n c).toArray == (bytesOf n c).toArray) = true
    simp
  · have h2 : (b.ckStr fun m d => Bool.rec (motive := fun _ => Bool) no yes (eqStr n c m d)) = true := h
    clear h
    obtain ⟨m, e, rfl, h⟩ := ckStr_iff.1 h2
    clear h2
    rw [strOf_beq] at h
    cases hs : (strOf n c == strOf m e) with
    | true =>
      simp only [hs] at h
      refine .inl ⟨h, fun θ B w va vb _ ha hb => ?_⟩
      simp only [Ev.conc, Option.some.injEq] at ha hb
      subst ha; subst hb
      refine ⟨⟨_, hu, by simp [Instr.sameNow, hs]⟩, ?_⟩
      have hs' : (bytesOf n c).toArray = (bytesOf m e).toArray := by
        have : ((bytesOf n c).toArray == (bytesOf m e).toArray) = true := hs
        exact beq_iff_eq.1 this
      simp only [strOf, hs']
    | false =>
      simp only [hs] at h
      refine .inr ⟨h, fun θ B w va vb _ ha hb => ?_⟩
      simp only [Ev.conc, Option.some.injEq] at ha hb
      subst ha; subst hb
      exact ⟨_, hu, by simp [Instr.sameNow, hs]⟩
theorem keyOk_ptr {P : Program} {kt e : Nat} (hu : P.underlying kt = some (.pointer e)) (hz : P.cellsOf e ≠ 0) {a : AV} (ha : a = .nilp ∨ ∃ b o, a = .ptr b o) : KeyOk P kt false a := by
  have hp : ∀ θ kv, Ev.conc θ a = some kv → ∃ p, kv = .pointer p := by
    intro θ kv h
    rcases ha with rfl | ⟨b, o, rfl⟩
    · simp only [Ev.conc, Option.some.injEq] at h
      exact ⟨_, h.symm⟩
    · simp only [Ev.conc, Option.map_eq_some_iff] at h
      obtain ⟨_, _, h⟩ := h
      exact ⟨_, h.symm⟩
  refine ⟨by rcases ha with rfl | ⟨b, o, rfl⟩ <;> simp, ⟨_, hu, fun _ x y => by cases x <;> cases y <;> rfl⟩, fun θ kv b w hk => ?_, fun θ kv hk => ?_, fun H b yes no h => ?_⟩
  · obtain ⟨p, rfl⟩ := hp θ kv hk
    rw [show (10000 : Nat) = 9999 + 1 from rfl, Instr.checkKey]
    simp only [Sem.run_bind, run_underlying hu, Result.andThen_ok, Sem.run_pure]
  · obtain ⟨p, rfl⟩ := hp θ kv hk
    show (p == p) = true
    simp
  · have h2 : ptrEqK H a b (fun r => Bool.rec (motive := fun _ => Bool) no yes r) = true := by
      rcases ha with rfl | ⟨b', o, rfl⟩ <;> exact h
    obtain ⟨inf, hinf, hsz⟩ := info_of_cells hz
    obtain ⟨r, h3, hsame, hq⟩ := ptrEqK_same h2
    have main : ∀ θ B w va vb, HRel P θ (hfn H) B w → Ev.conc θ a = some va → Ev.conc θ b = some vb → EqAt P w kt false va vb r := by
      intro θ B w va vb hr h1 h2
      obtain ⟨p, q, rfl, rfl, hs⟩ := hq P θ B w va vb hr (.inr h1) (.inr h2)
      have heq : ∀ d, (Op.equalIn (d + 1) kt (.pointer p) (.pointer q)).run P w = .ok r w := by
        intro d
        simp only [Op.equalIn, Sem.run_bind, run_underlying hu, Result.andThen_ok]
        cases p with
        | none => simpa [samePointer] using hs
        | some a =>
          cases q with
          | none => simpa [samePointer] using hs
          | some b =>
            have hs : (sameAddr a b).run P w = .ok r w := hs
            simp only [Sem.run_bind, run_sizeOf w hinf, Result.andThen_ok]
            simp [hz, hs]
      exact equal_of heq
    cases r with
    | true =>
      refine .inl ⟨h3, fun θ B w va vb hr h1 h2 => ⟨main θ B w va vb hr h1 h2, ?_⟩⟩
      rw [← hsame rfl, h1] at h2
      exact (Option.some.inj h2).symm
    | false => exact .inr ⟨h3, main⟩
theorem hasInts_ok {l : List AV} {y : Bool} : ∀ {is : List Nat}, hasInts is l y = true → (∀ i ∈ is, ∃ a, l[i]? = some a ∧ ∀ θ v, Ev.conc θ a = some v → ∃ k x, v = .int k x) ∧ y = true
  | [], h => ⟨fun i hi => by simp at hi, h⟩
  | i :: is, h => by
    obtain ⟨a, ha, h⟩ := nthK_iff.1 h
    obtain ⟨h, _, hv⟩ := ckNum_ok h
    obtain ⟨h1, h2⟩ := hasInts_ok h
    refine ⟨fun j hj => ?_, h2⟩
    rcases List.mem_cons.1 hj with rfl | hj
    · exact ⟨a, ha, hv⟩
    · exact h1 j hj
theorem eqOffs_same {l m : List AV} {k : Bool → Bool} : ∀ {is : List Nat}, eqOffs is l m k = true → ∃ r, k r = true ∧ (∀ k' : Bool → Bool, eqOffs is l m k' = k' r) ∧
    (r = true → ∀ i ∈ is, ∃ a b, l[i]? = some a ∧ m[i]? = some b ∧ ∀ θ u v, Ev.conc θ a = some u → Ev.conc θ b = some v → v = u)
  | [], h => ⟨true, h, fun _ => rfl, fun _ i hi => by simp at hi⟩
  | i :: is, h => by
    simp only [eqOffs] at h
    obtain ⟨a, ha, h⟩ := nthK_iff.1 h
    obtain ⟨b, hb, h⟩ := nthK_iff.1 h
    obtain ⟨e, h3, hall⟩ := eqIS_all h
    have hsem : ∀ θ xv yv, VR θ a xv → VR θ b yv → ∃ kd x y, xv = .int kd x ∧ yv = .int kd y ∧ (x == y) = e := by
      obtain ⟨e', he', hq⟩ := eqIS_ok ((hall fun r => r == e).trans (by simp))
      rw [beq_iff_eq] at he'
      subst he'
      exact hq
    have hstep : ∀ k' : Bool → Bool, eqOffs (i :: is) l m k' = Bool.rec (motive := fun _ => Bool) (k' false) (eqOffs is l m k') e := by
      intro k'
      have e1 : (nthK i l fun a => nthK i m fun b => eqIS a b fun e => Bool.rec (motive := fun _ => Bool) (k' false) (eqOffs is l m k') e) = eqIS a b fun e => Bool.rec (motive := fun _ => Bool) (k' false) (eqOffs is l m k') e := by
        rw [Bool.eq_iff_iff]
        constructor
        · intro h0
          obtain ⟨a', h1, h2⟩ := nthK_iff.1 h0
          obtain ⟨b', h4, h3⟩ := nthK_iff.1 h2
          have e1 : a' = a := Option.some.inj (h1.symm.trans ha)
          have e2 : b' = b := Option.some.inj (h4.symm.trans hb)
          rw [e1, e2] at h3
          exact h3
        · intro h
          exact nthK_iff.2 ⟨_, ha, nthK_iff.2 ⟨_, hb, h⟩⟩
      rw [eqOffs, e1, hall]
    cases e with
    | false =>
      have h3 : k false = true := h3
      exact ⟨false, h3, fun k' => by rw [hstep], fun h => by cases h⟩
    | true =>
      have h3 : eqOffs is l m k = true := h3
      obtain ⟨r, h1, h2, h4⟩ := eqOffs_same h3
      refine ⟨r, h1, fun k' => by rw [hstep]; exact h2 k', fun hr j hj => ?_⟩
      rcases List.mem_cons.1 hj with rfl | hj
      · refine ⟨a, b, ha, hb, fun θ u v hu hv => ?_⟩
        obtain ⟨kd, x, y, rfl, rfl, hxy⟩ := hsem θ u v (.inr hu) (.inr hv)
        have : x = y := by simpa using hxy
        rw [this]
      · exact h4 hr j hj
theorem ints_of {θ : Theta} {l : List AV} {m : Nat} (hl : l.length = m) (hi : ∀ i ∈ List.range m, ∃ a, l[i]? = some a ∧ ∀ θ v, Ev.conc θ a = some v → ∃ k x, v = .int k x) {xs : List Value} (hx : concs θ l = some xs) : xs.length = m ∧ ∀ i, i < m → ∃ k x, xs[i]? = some (.int k x) := by
  refine ⟨(concs_length hx).trans hl, fun i hlt => ?_⟩
  obtain ⟨a, e, hn⟩ := hi i (List.mem_range.2 hlt)
  obtain ⟨v, hv, hc⟩ := concs_getElem hx e
  obtain ⟨k, x, rfl⟩ := hn θ v hc
  exact ⟨k, x, hv⟩
theorem keyOk_agg {P : Program} {kt m : Nat} {d : TypeDesc} (hu : P.underlying kt = some d) (hslow : ∀ x y, Instr.sameNow d x y = none) (ha : aggOffs P kt = some (List.range m)) (his : keyIs P kt = List.range m) {l : List AV} (hl : l.length = m)
    (hi : ∀ i ∈ List.range m, ∃ a, l[i]? = some a ∧ ∀ θ v, Ev.conc θ a = some v → ∃ k x, v = .int k x)
    (hchk : ∀ (xs : List Value) (b : Bool) (w : World), xs.length = m → (∀ i, i < m → ∃ k x, xs[i]? = some (.int k x)) → (Instr.checkKey b 10000 kt (.agg xs.toArray)).run P w = .ok () w) : KeyOk P kt false (.agg l) := by
  refine ⟨by simp, ⟨_, hu, fun _ => hslow⟩, fun θ kv b w hk => ?_, fun θ kv hk => ?_, fun H b yes no h => ?_⟩
  · simp only [Ev.conc, Option.map_eq_some_iff] at hk
    obtain ⟨xs, hx, rfl⟩ := hk
    obtain ⟨hlen, hint⟩ := ints_of hl hi hx
    exact hchk xs b w hlen hint
  · simp only [Ev.conc, Option.map_eq_some_iff] at hk
    obtain ⟨xs, hx, rfl⟩ := hk
    obtain ⟨hlen, hint⟩ := ints_of hl hi hx
    show ((xs.toArray.size == xs.toArray.size) && ((xs.toArray.toList.zip xs.toArray.toList).all fun (x, y) => Instr.sameBits 9999 x y)) = true
    have key : ∀ (ys : List Value), (∀ i, i < ys.length → ∃ k x, ys[i]? = some (.int k x)) → ((ys.zip ys).all fun (x, y) => Instr.sameBits 9999 x y) = true := by
      intro ys
      induction ys with
      | nil => intro _; rfl
      | cons y ys ih =>
        intro h
        obtain ⟨k, x, h0⟩ := h 0 (by simp)
        have h0 : y = .int k x := by simpa using h0
        subst h0
        have := ih fun i hi => by have := h (i + 1) (by simp; omega); simpa using this
        simp only [List.zip_cons_cons, List.all_cons, this, Bool.and_true]
        show (k == k && x == x) = true
        simp
    simpa using key xs (fun i hi => hint i (by omega))
  · have h2 : (b.ckAgg fun m => ifB (Nat.beq m.length l.length) (eqOffs (keyIs P kt) l m fun r => Bool.rec (motive := fun _ => Bool) no yes r)) = true := h
    clear h
    obtain ⟨m', rfl, h⟩ := ckAgg_iff.1 h2
    clear h2
    obtain ⟨hlen, h⟩ := ifB_iff.1 h
    have hlen : m'.length = l.length := by simpa using hlen
    rw [his] at h
    obtain ⟨r, h1, h2, h3⟩ := eqOffs_same h
    obtain ⟨r', h4, h5⟩ := agg_equal ha ((h2 fun r' => r' == r).trans (by simp)) 9998
    have hrr : r' = r := by simpa using h4
    subst hrr
    have main : ∀ (θ : Theta) (B : Nat) (w : World) (va vb : Value), HRel P θ (hfn H) B w → Ev.conc θ (.agg l) = some va → Ev.conc θ (.agg m') = some vb → EqAt P w kt false va vb r' := by
      intro θ B w va vb _ e1 e2
      simp only [Ev.conc, Option.map_eq_some_iff] at e1 e2
      obtain ⟨xs, e1, rfl⟩ := e1
      obtain ⟨ys, e2, rfl⟩ := e2
      exact h5 θ xs ys w e1 e2
    cases r' with
    | true =>
      refine .inl ⟨h1, fun θ B w va vb hr e1 e2 => ⟨main θ B w va vb hr e1 e2, ?_⟩⟩
      simp only [Ev.conc, Option.map_eq_some_iff] at e1 e2
      obtain ⟨xs, e1, rfl⟩ := e1
      obtain ⟨ys, e2, rfl⟩ := e2
      have l1 := concs_length e1
      have l2 := concs_length e2
      congr 2
      apply List.ext_getElem?
      intro i
      by_cases hlt : i < m
      · obtain ⟨a, b, ha', hb', hab⟩ := h3 rfl i (List.mem_range.2 hlt)
        obtain ⟨u, hu', hc1⟩ := concs_getElem e1 ha'
        obtain ⟨v, hv', hc2⟩ := concs_getElem e2 hb'
        rw [hu', hv', hab θ u v hc1 hc2]
      · rw [List.getElem?_eq_none (by omega), List.getElem?_eq_none (by omega)]
    | false => exact .inr ⟨h1, main⟩
theorem keyOk_struct {P : Program} {kt : Nat} {fields : Array Field} (hu : P.underlying kt = some (.struct fields)) (hs : P.stoodInHeld kt = false) (ho : intOffs P fields.toList = some (List.range fields.size))
    (hn : ∀ f ∈ fields.toList, f.name ≠ "_") {l : List AV} (hl : l.length = fields.size) (hi : ∀ i ∈ List.range fields.size, ∃ a, l[i]? = some a ∧ ∀ θ v, Ev.conc θ a = some v → ∃ k x, v = .int k x) : KeyOk P kt false (.agg l) := by
  refine keyOk_agg hu (fun x y => by cases x <;> cases y <;> rfl) (by simp [aggOffs, hu, hs, ho]) (by simp [keyIs, hu, ho]) hl hi fun xs b w hlen hint => ?_
  rw [show (10000 : Nat) = 9999 + 1 from rfl, Instr.checkKey]
  simp only [Sem.run_bind, run_underlying hu, Result.andThen_ok]
  rw [← Array.forIn_toList]
  have key : ∀ (fs : List Field) (is : List Nat), intOffs P fs = some is → (∀ f ∈ fs, f.name ≠ "_") → (∀ i ∈ is, i < fields.size) →
      (forIn fs PUnit.unit fun f _ => (do
        if f.name ≠ "_" then Instr.checkKey b 9999 f.type (← part f.type xs.toArray f.offset)
        pure (ForInStep.yield PUnit.unit) : Sem (ForInStep PUnit))).run P w = .ok PUnit.unit w := by
    intro fs
    induction fs with
    | nil => intro is _ _ _; simp
    | cons f fs ih =>
      intro is hio hnn hlt
      simp only [intOffs] at hio
      split at hio
      · cases hio
      · rename_i is' his
        rw [if_pos (hnn f (by simp))] at hio
        split at hio
        · rename_i kd huf
          injection hio with hio
          subst hio
          obtain ⟨k, x, hx⟩ := hint f.offset (hlt _ (by simp))
          have hagg : isAggT P f.type = some false := by simp [isAggT, huf]
          have p1 : (part f.type xs.toArray f.offset).run P w = .ok (.int k x) w := by simp [part, run_isAggT hagg, hx]
          have p2 : (Instr.checkKey b 9999 f.type (.int k x)).run P w = .ok () w := by
            rw [show (9999 : Nat) = 9998 + 1 from rfl, Instr.checkKey]
            simp only [Sem.run_bind, run_underlying huf, Result.andThen_ok, Sem.run_pure]
          have p3 := ih is' his (fun g hg => hnn g (by simp [hg])) (fun i hi => hlt i (by simp [hi]))
          simp only [List.forIn_cons, Sem.run_bind, hnn f (by simp), ne_eq, not_false_eq_true, if_true, Result.andThen_ok, p1, p2, Sem.run_pure]
          exact p3
        · cases hio
  have h3 := key fields.toList _ ho hn (fun i hi => List.mem_range.1 hi)
  simp at h3 ⊢
  rw [h3]
  rfl
theorem keyOk_array {P : Program} {kt m e : Nat} {kd : IntKind} (hu : P.underlying kt = some (.array m e)) (hue : P.underlying e = some (.int kd)) (hc : P.cellsOf e = 1)
    {l : List AV} (hl : l.length = m) (hi : ∀ i ∈ List.range m, ∃ a, l[i]? = some a ∧ ∀ θ v, Ev.conc θ a = some v → ∃ k x, v = .int k x) : KeyOk P kt false (.agg l) := by
  refine keyOk_agg hu (fun x y => by cases x <;> cases y <;> rfl) (by simp [aggOffs, hu, hue, hc]) (by simp [keyIs, hu]) hl hi fun xs b w hlen hint => ?_
  obtain ⟨inf, hinf, _⟩ := info_of_cells (P := P) (t := e) (by omega)
  have hagg : isAggT P e = some false := by simp [isAggT, hue]
  rw [show (10000 : Nat) = 9999 + 1 from rfl, Instr.checkKey]
  simp only [Sem.run_bind, run_underlying hu, Result.andThen_ok]
  simp only [Std.Legacy.Range.forIn_eq_forIn_range', Std.Legacy.Range.size, Nat.sub_zero, Nat.add_one_sub_one, Nat.div_one]
  have hlt : ∀ i ∈ List.range' 0 m, i < m := fun i h => by have := List.mem_range'.1 h; omega
  generalize List.range' 0 m = is at hlt
  induction is with
  | nil => simp
  | cons i is ih =>
    obtain ⟨k, x, hx⟩ := hint i (hlt i (by simp))
    have p1 : (part e xs.toArray i).run P w = .ok (.int k x) w := by simp [part, run_isAggT hagg, hx]
    have p2 : (Instr.checkKey b 9999 e (.int k x)).run P w = .ok () w := by
      rw [show (9999 : Nat) = 9998 + 1 from rfl, Instr.checkKey]
      simp only [Sem.run_bind, run_underlying hue, Result.andThen_ok, Sem.run_pure]
    simp only [List.forIn_cons, Sem.run_bind, run_sizeOf w hinf, hc, Nat.mul_one, Result.andThen_ok, p1, p2, Sem.run_pure]
    exact ih (fun j hj => hlt j (by simp [hj]))
theorem keyOk_iff {P : Program} {kt : Nat} {a : AV} {y : Bool} (h : keyOk P kt a y = true) : (∃ fl, KeyOk P kt fl a) ∧ y = true := by
  unfold keyOk at h
  split at h
  · rename_i k hu
    obtain ⟨hy, hb, hv⟩ := ckNum_ok h
    exact ⟨⟨_, keyOk_int hu hb hv (num_keyEq h)⟩, hy⟩
  · rename_i hu
    obtain ⟨n, c, rfl, hy⟩ := ckStr_iff.1 h
    exact ⟨⟨_, keyOk_str hu n c⟩, hy⟩
  · rename_i e hu
    rw [iteS_eq] at h
    split at h
    · cases h
    · rename_i hz
      obtain ⟨ha, hy⟩ := ckPN_iff.1 h
      exact ⟨⟨_, keyOk_ptr hu hz ha⟩, hy⟩
  · rename_i fields hu
    rw [iteS_eq] at h
    split at h
    · cases h
    · rename_i hs
      rw [iteS_eq] at h
      split at h
      · rename_i ho
        obtain ⟨ho, hn⟩ := ho
        obtain ⟨l, rfl, h⟩ := ckAgg_iff.1 h
        obtain ⟨hl, h⟩ := ifB_iff.1 h
        obtain ⟨hi, hy⟩ := hasInts_ok h
        refine ⟨⟨_, keyOk_struct hu (by simpa using hs) ho (fun f hf => ?_) (by simpa using hl) hi⟩, hy⟩
        have := List.all_eq_true.1 hn f hf
        simpa using this
      · cases h
  · rename_i m e hu
    split at h
    · rename_i kd hue
      rw [iteS_eq] at h
      split at h
      · rename_i hc
        obtain ⟨l, rfl, h⟩ := ckAgg_iff.1 h
        obtain ⟨hl, h⟩ := ifB_iff.1 h
        obtain ⟨hi, hy⟩ := hasInts_ok h
        exact ⟨⟨_, keyOk_array hu hue hc (by simpa using hl) hi⟩, hy⟩
      · cases h
    · cases h
  · cases h
def FindAt (P : Program) (w : World) (kt : Nat) (fl : Bool) (kv : Value) (l : List MapEntry) (i : Nat) (r : Option (Nat × Value)) : Prop :=
  if fl then ∃ d, P.underlying kt = some d ∧ Instr.findNow d kv l i = some r else (Instr.findAsking kt kv l i).run P w = .ok r w
theorem KeyOk.nil {P : Program} {kt : Nat} {fl : Bool} {a : AV} (h : KeyOk P kt fl a) (w : World) (kv : Value) (i : Nat) : FindAt P w kt fl kv [] i none := by
  obtain ⟨d, hd, _⟩ := h.und
  cases fl with
  | true => exact ⟨d, hd, rfl⟩
  | false => show (Instr.findAsking kt kv [] i).run P w = .ok none w; simp [Instr.findAsking]
theorem FindAt.hit {P : Program} {w : World} {kt : Nat} {fl : Bool} {kv : Value} {e : MapEntry} {l : List MapEntry} {i : Nat} (h : EqAt P w kt fl kv e.key true) : FindAt P w kt fl kv (e :: l) i (some (i, e.val)) := by
  cases fl with
  | true =>
    obtain ⟨d, hd, h⟩ := h
    exact ⟨d, hd, by simp [Instr.findNow, h]⟩
  | false =>
    have h : (Op.equal kt kv e.key).run P w = .ok true w := h
    show (Instr.findAsking kt kv (e :: l) i).run P w = .ok _ w
    simp [Instr.findAsking, h]
theorem FindAt.miss {P : Program} {w : World} {kt : Nat} {fl : Bool} {kv : Value} {e : MapEntry} {l : List MapEntry} {i : Nat} {r : Option (Nat × Value)} (h : EqAt P w kt fl kv e.key false) (hr : FindAt P w kt fl kv l (i + 1) r) : FindAt P w kt fl kv (e :: l) i r := by
  cases fl with
  | true =>
    obtain ⟨d, hd, h⟩ := h
    obtain ⟨d', hd', hr⟩ := hr
    rw [hd] at hd'; cases hd'
    exact ⟨d, hd, by simp [Instr.findNow, h, hr]⟩
  | false =>
    have h : (Op.equal kt kv e.key).run P w = .ok false w := h
    have hr : (Instr.findAsking kt kv l (i + 1)).run P w = .ok r w := hr
    show (Instr.findAsking kt kv (e :: l) i).run P w = .ok _ w
    simp [Instr.findAsking, h, hr]
theorem KeyOk.find {P : Program} {kt : Nat} {fl : Bool} {a : AV} (hK : KeyOk P kt fl a) {kv : Value} {l : List MapEntry} {r : Option (Nat × Value)} {w : World} (h : FindAt P w kt fl kv l 0 r) : (Instr.findKey kt kv l).run P w = .ok r w := by
  obtain ⟨d, hd, hn⟩ := hK.und
  cases fl with
  | true =>
    obtain ⟨d', hd', h⟩ := h
    rw [hd] at hd'; cases hd'
    simp [Instr.findKey, run_underlying hd, h]
  | false =>
    have h : (Instr.findAsking kt kv l 0).run P w = .ok r w := h
    cases l with
    | nil =>
      have : r = none := by
        simp [Instr.findAsking] at h
        exact h.symm
      subst this
      simp [Instr.findKey, run_underlying hd, Instr.findNow]
    | cons e l => simp [Instr.findKey, run_underlying hd, Instr.findNow, hn rfl, h]
end
end Ev
namespace Ev
open Go
open Go.RowKit
noncomputable section
def Ents.find (es : Ents) (is : List Nat) (H : Heap) (key : AV) (no : Bool) (yes : AV → Bool) : Bool :=
  Ents.rec (motive := fun _ => Bool) no (fun k v _ _ ih => keyEq is H key k (yes v) ih) es
theorem Ents.find_ok {P : Program} {kt : Nat} {fl : Bool} {H : Heap} {key : AV} (hd : KeyOk P kt fl key) {no : Bool} {yes : AV → Bool} : ∀ {es : Ents}, es.find (keyIs P kt) H key no yes = true →
    (no = true ∧ ∀ θ B w kv l i, HRel P θ (hfn H) B w → Ev.conc θ key = some kv → EntsRel θ es l → FindAt P w kt fl kv l i none) ∨
    (∃ v, yes v = true ∧ ∀ θ B w kv l i, HRel P θ (hfn H) B w → Ev.conc θ key = some kv → EntsRel θ es l → ∃ j v', FindAt P w kt fl kv l i (some (j, v')) ∧ Ev.conc θ v = some v')
  | .nil, h => .inl ⟨h, fun θ B w kv l i _ _ hl => by cases hl; exact hd.nil w kv i⟩
  | .cons k v b es, h => by
    have h : keyEq (keyIs P kt) H key k (yes v) (es.find (keyIs P kt) H key no yes) = true := h
    rcases hd.eq H k _ _ h with ⟨hy, hq⟩ | ⟨hn, hq⟩
    · refine .inr ⟨v, hy, fun θ B w kv l i hr hk hl => ?_⟩
      cases hl with
      | cons hk' hv hl => exact ⟨i, _, FindAt.hit (hq θ B w _ _ hr hk hk').1, hv⟩
    · rcases Ents.find_ok hd hn with ⟨hno, hr⟩ | ⟨u, hu, hr⟩
      · refine .inl ⟨hno, fun θ B w kv l i r hk hl => ?_⟩
        cases hl with
        | cons hk' hv hl => exact FindAt.miss (hq θ B w _ _ r hk hk') (hr θ B w kv _ (i + 1) r hk hl)
      · refine .inr ⟨u, hu, fun θ B w kv l i r hk hl => ?_⟩
        cases hl with
        | cons hk' hv hl =>
          obtain ⟨j, v', hj, hc⟩ := hr θ B w kv _ (i + 1) r hk hl
          exact ⟨j, v', FindAt.miss (hq θ B w _ _ r hk hk') hj, hc⟩
theorem run_getObj_of {P : Program} {w : World} {r : Nat} {o : Obj} (h : w.heap[r]? = some o) (ho : ∀ c e f, o ≠ .cells c e f) : (getObj r).run P w = .ok o w := by
  cases o <;> simp_all [getObj, Sem.run]
def zeroV (P : Program) (t : Nat) (k : AV → Bool) : Bool :=
  match (P.info? t).bind (·.zero) with
  | some v => (absV v).ckOk (k (absV v))
  | none => false
theorem zeroV_ok {P : Program} {t : Nat} {k : AV → Bool} (h : zeroV P t k = true) : ∃ v v', k v = true ∧ v ≠ .bad ∧ (∀ w, (zeroValue t).run P w = .ok v' w) ∧ ∀ θ, Ev.conc θ v = some v' := by
  unfold zeroV at h
  split at h
  · rename_i v hz
    obtain ⟨hb, hk⟩ := ckOk_iff.1 h
    exact ⟨_, v, hk, hb, run_zeroValue_of hz, fun θ => (absV_ok θ v).conc hb⟩
  · cases h
def okK (ok : Bool) (v : AV) (b : Bool) (k : AV → Bool) : Bool := Bool.rec (k v) (k (.tup [v, .bool b])) ok
theorem okK_ok {ok : Bool} {v : AV} {b : Bool} {k : AV → Bool} (h : okK ok v b k = true) : ∃ u, k u = true ∧ ∀ θ v', Ev.conc θ v = some v' → Ev.conc θ u = some (if ok then .tuple #[v', .bool b] else v') := by
  cases ok with
  | false => exact ⟨_, h, fun θ v' hv => by simpa using hv⟩
  | true => exact ⟨_, h, fun θ v' hv => by simp [Ev.conc, concs, hv]⟩
def lookupE (P : Program) (t : Nat) (x key : AV) (ok : Bool) (H : Heap) (k : AV → Bool) : Bool :=
  match P.underlying t with
  | some (.map kt e) => keyOk P kt key (x.ckMap (zeroV P e fun z => okK ok z false k) fun b => at_ H b fun bl => bl.ckMap fun es _ => es.find (keyIs P kt) H key (zeroV P e fun z => okK ok z false k) fun v => okK ok v true k)
  | _ => false
theorem read_lookup {P : Program} {env : List AV} {o : Oper} {H : Heap} {t : Nat} {x y : Operand} {ok : Bool} {k : AV → Bool} (ho : o.op = .lookup t x y ok)
    (h : lookupE P t (ev P env x) (ev P env y) ok H k = true) : ∃ v, k v = true ∧ ReadSpec P env o H v := by
  unfold lookupE at h
  split at h
  · rename_i kt e hu
    obtain ⟨⟨fl, hK⟩, h⟩ := keyOk_iff h
    have hkb := hK.bad
    rcases ckMap_iff.1 h with ⟨hx, h⟩ | ⟨b, hx, h⟩
    · obtain ⟨z, z', h, hzb, hzr, hzc⟩ := zeroV_ok h
      obtain ⟨u, hk, hq⟩ := okK_ok h
      refine ⟨u, hk, fun θ ac w B r hO => ?_⟩
      have vx := hO.at (x := x) (by simp [ho, Op.operands])
      have vy := (hO.at (x := y) (by simp [ho, Op.operands])).conc hkb
      rw [hx] at vx
      refine ⟨_, ?_, .inr (hq θ z' (hzc θ))⟩
      simp [execOp, ho, Instr.lookup, run_underlying hu, vx.nilm, hK.chk θ _ _ w vy, hK.find (hK.nil w _ 0), hzr]
    · obtain ⟨hb, h⟩ := at_iff.1 h
      obtain ⟨es, clk, hbl, h⟩ := ckMap'_iff.1 h
      rcases Ents.find_ok hK h with ⟨h, hf⟩ | ⟨v, h, hf⟩
      · obtain ⟨z, z', h, hzb, hzr, hzc⟩ := zeroV_ok h
        obtain ⟨u, hk, hq⟩ := okK_ok h
        refine ⟨u, hk, fun θ ac w B r hO => ?_⟩
        have vx := hO.at (x := x) (by simp [ho, Op.operands])
        have vy := (hO.at (x := y) (by simp [ho, Op.operands])).conc hkb
        rw [hx] at vx
        obtain ⟨l, hl, vx⟩ := vx.map
        have hr := r.at hl
        rw [hbl] at hr
        obtain ⟨_, es', hw, hes⟩ := hr
        refine ⟨_, ?_, .inr (hq θ z' (hzc θ))⟩
        simp [execOp, ho, Instr.lookup, run_underlying hu, vx, run_getObj_of hw (by simp), hK.chk θ _ _ w vy, hK.find (hf θ B w _ _ 0 r vy hes), hzr]
      · obtain ⟨u, hk, hq⟩ := okK_ok h
        refine ⟨u, hk, fun θ ac w B r hO => ?_⟩
        have vx := hO.at (x := x) (by simp [ho, Op.operands])
        have vy := (hO.at (x := y) (by simp [ho, Op.operands])).conc hkb
        rw [hx] at vx
        obtain ⟨l, hl, vx⟩ := vx.map
        have hr := r.at hl
        rw [hbl] at hr
        obtain ⟨_, es', hw, hes⟩ := hr
        obtain ⟨j, v', hj, hv'⟩ := hf θ B w _ _ 0 r vy hes
        refine ⟨_, ?_, .inr (hq θ v' hv')⟩
        simp [execOp, ho, Instr.lookup, run_underlying hu, vx, run_getObj_of hw (by simp), hK.chk θ _ _ w vy, hK.find hj]
  · cases h
def Ents.lenK (es : Ents) (k : Nat → Bool) : Bool := Ents.rec (motive := fun _ => Nat → Bool) (fun n => k n) (fun _ _ _ _ ih n => forceN (Nat.succ n) ih) es 0
def Ents.len : Ents → Nat
  | .nil => 0
  | .cons _ _ _ l => l.len + 1
theorem Ents.lenK_eq (es : Ents) (k : Nat → Bool) : es.lenK k = k es.len := by
  have : ∀ (es : Ents) (n : Nat), Ents.rec (motive := fun _ => Nat → Bool) (fun n => k n) (fun _ _ _ _ ih n => forceN (Nat.succ n) ih) es n = k (es.len + n) := by
    intro es
    induction es with
    | nil => intro n; simp [Ents.len]
    | cons a b c l ih => intro n; show forceN (n + 1) _ = _; rw [forceN_eq, ih]; simp only [Ents.len]; congr 1; omega
  exact this es 0
theorem EntsRel.length {θ : Theta} {es : Ents} {l : List MapEntry} (h : EntsRel θ es l) : l.length = es.len := by
  induction h with
  | nil => rfl
  | cons _ _ _ ih => simp [Ents.len, ih]
def lenMapE (P : Program) (t : Nat) (x : AV) (H : Heap) (k : AV → Bool) : Bool :=
  match P.underlying t with
  | some (.map _ _) => x.ckMap (k (.int .i64 0)) fun b => at_ H b fun bl => bl.ckMap fun es _ => es.lenK fun n => k (.int .i64 (.ofNat n))
  | _ => false
theorem read_lenMap {P : Program} {env : List AV} {o : Oper} {H : Heap} {c : Call} {t : Nat} {x : Operand} {k : AV → Bool} (ho : o.op = .call c) (hc : c.callee = .builtin .len) (ha : c.args = #[x]) (ht : c.argTypes[0]? = some t)
    (h : lenMapE P t (ev P env x) H k = true) : ∃ v, k v = true ∧ ReadSpec P env o H v := by
  have hox : x ∈ o.op.operands := by simp [ho, Op.operands, Call.operands, hc, ha]
  have run : ∀ (ac : Act) (w : World) (v : Value), (Builtin.len_ c.argTypes o.type #[ac.eval x]).run P w = .ok v w → (execOp ac.eval o).run P w = .ok (.value v) w := by
    intro ac w v hr
    simp [execOp, ho, resolve, hc, ha, invoke, builtin, hr]
  unfold lenMapE at h
  split at h
  · rename_i kt e hu
    rcases ckMap_iff.1 h with ⟨hx, h⟩ | ⟨b, hx, h⟩
    · refine ⟨_, h, fun θ ac w B r hO => ⟨.int .i64 0, run ac w _ ?_, .inr rfl⟩⟩
      have vx := hO.at hox
      rw [hx] at vx
      simp [Builtin.len_, ht, vx.nilm, run_underlying hu, goInt]
    · obtain ⟨hb, h⟩ := at_iff.1 h
      obtain ⟨es, clk, hbl, h⟩ := ckMap'_iff.1 h
      rw [Ents.lenK_eq] at h
      refine ⟨_, h, fun θ ac w B r hO => ⟨.int .i64 es.len, run ac w _ ?_, .inr rfl⟩⟩
      have vx := hO.at hox
      rw [hx] at vx
      obtain ⟨l, hl, vx⟩ := vx.map
      have hr := r.at hl
      rw [hbl] at hr
      obtain ⟨_, es', hw, hes⟩ := hr
      have := hes.length
      simp [Builtin.len_, ht, vx, run_underlying hu, run_getObj_of hw (by simp), goInt, ← this]
  · cases h
end
end Ev
namespace Ev
open Go
open Go.RowKit
noncomputable section
def ptrBinE (P : Program) (t : Nat) (op : BinOp) (H : Heap) (x y : AV) (k : AV → Bool) : Bool :=
  match P.underlying t with
  | some (.pointer e) => iteS (P.cellsOf e = 0) false (ptrEqK H x y fun r => eqRes op r k)
  | _ => false
theorem read_ptrBin {P : Program} {env : List AV} {o : Oper} {H : Heap} {op : BinOp} {t yt : Nat} {x y : Operand} {k : AV → Bool} (ho : o.op = .binOp op t x y yt)
    (h : ptrBinE P t op H (ev P env x) (ev P env y) k = true) : ∃ v, k v = true ∧ ReadSpec P env o H v := by
  unfold ptrBinE at h
  simp only [iteS_eq] at h
  split at h
  · rename_i e hu
    split at h
    · cases h
    · rename_i hz
      obtain ⟨inf, hinf, hsz⟩ := info_of_cells hz
      obtain ⟨r, h, hq⟩ := ptrEqK_ok h
      obtain ⟨v, v', hk, hc, hr⟩ := eqRes_ok h
      refine ⟨v, hk, fun θ ac w B rr hO => ⟨v', ?_, .inr (hc θ)⟩⟩
      have hox := hO.at (x := x) (by simp [ho, Op.operands])
      have hoy := hO.at (x := y) (by simp [ho, Op.operands])
      obtain ⟨p, q, ep, eq, hs⟩ := hq P θ B w _ _ rr hox hoy
      have heq : ∀ d, (Op.equalIn (d + 1) t (.pointer p) (.pointer q)).run P w = .ok r w := by
        intro d
        simp only [Op.equalIn, Sem.run_bind, run_underlying hu, Result.andThen_ok]
        cases p with
        | none => simpa [samePointer] using hs
        | some a =>
          cases q with
          | none => simpa [samePointer] using hs
          | some b =>
            have hs : (sameAddr a b).run P w = .ok r w := hs
            simp only [Sem.run_bind, run_sizeOf w hinf, Result.andThen_ok]
            simp [hz, hs]
      have hres := run_eqRes (P := P) (w := w) (t := t) (xo := x) (yo := y) (x := .pointer p) (y := .pointer q) hr (by rcases hr with ⟨rfl, _⟩ | ⟨rfl, _⟩ <;> simp [eqGuard])
        (by cases p <;> cases q <;> rfl) (by cases p <;> cases q <;> rfl) (equal_of heq)
      simp only [execOp, ho, ep, eq, Sem.run_bind] at hres ⊢
      rw [hres]
      rfl
  · cases h
def bytesK : List AV → (Nat → Bool) → Bool :=
  List.rec (motive := fun _ => (Nat → Bool) → Bool) (fun k => k 0) (fun a _ ih k => a.ckInt fun kd z => ifB (kdEq kd .u8) (natOf z fun n => ih fun c => forceN (Nat.add (Nat.mod n 256) (Nat.mul 256 c)) k))
theorem run_forBytes {P : Program} (w : World) {f : Value → ByteArray → Sem (ForInStep ByteArray)} (hf : ∀ n s, f (.int .u8 n) s = pure (.yield (s.push (UInt8.ofNat n.toNat)))) (ns : List Nat) (s : ByteArray) :
    (forIn (ns.map fun (n : Nat) => Value.int .u8 (n : Int)) s f).run P w = .ok ⟨s.data ++ (ns.map fun n => UInt8.ofNat n).toArray⟩ w := by
  induction ns generalizing s with
  | nil => simp
  | cons n ns ih =>
    simp only [List.map_cons, List.forIn_cons, hf, Sem.run_bind, Sem.run_pure, Result.andThen_ok, ih]
    congr 2
    simp [ByteArray.push]
theorem bytesK_ok : ∀ {l : List AV} {k : Nat → Bool}, bytesK l k = true → ∃ (c : Nat) (ns : List Nat), k c = true ∧ ns.length = l.length ∧ bytesOf l.length c = ns.map (fun n => UInt8.ofNat n) ∧ ∀ θ, concs θ l = some (ns.map fun (n : Nat) => Value.int .u8 (n : Int))
  | [], k, h => ⟨0, [], h, rfl, rfl, fun _ => rfl⟩
  | a :: l, k, h => by
    have h : (a.ckInt fun kd z => ifB (kdEq kd .u8) (natOf z fun n => bytesK l fun c => forceN (Nat.add (Nat.mod n 256) (Nat.mul 256 c)) k)) = true := h
    obtain ⟨kd, z, rfl, h⟩ := ckInt_iff.1 h
    obtain ⟨hk, h⟩ := ifB_iff.1 h
    obtain rfl := kdEq_iff hk
    obtain ⟨n, rfl, h⟩ := natOf_iff.1 h
    obtain ⟨c, ns, h, hl, hb, hc⟩ := bytesK_ok h
    rw [forceN_eq] at h
    refine ⟨_, n :: ns, h, by simp [hl], ?_, fun θ => concs_cons.2 ⟨_, _, rfl, hc θ, rfl⟩⟩
    have e1 : (Nat.add (Nat.mod n 256) (Nat.mul 256 c)) % 256 = n % 256 := by
      show (n % 256 + 256 * c) % 256 = _
      omega
    have e2 : (Nat.add (Nat.mod n 256) (Nat.mul 256 c)) / 256 = c := by
      show (n % 256 + 256 * c) / 256 = _
      omega
    show bytesOf (l.length + 1) _ = _
    simp only [bytesOf, e1, e2, hb, List.map_cons]
    have e3 : UInt8.ofNat (n % 256) = UInt8.ofNat n := by apply UInt8.toNat_inj.1; simp
    rw [e3]
def b2sE (P : Program) (s d : Nat) (H : Heap) (x : AV) (k : AV → Bool) : Bool :=
  match P.underlying s, P.underlying d with
  | some (.slice e), some .string => (match P.underlying e with
    | some (.int .u8) => x.ckSl (k (.str 0 0)) (fun b o len _ => at_ H b fun bl => bl.ckCells fun _ _ n c => ifB (Nat.ble (Nat.add o len) n) (bytesK (c.row o len) fun c => k (.str len c))) (fun _ _ _ _ => false)
    | _ => false)
  | _, _ => false
theorem read_b2s {P : Program} {env : List AV} {o : Oper} {H : Heap} {s d : Nat} {x : Operand} {k : AV → Bool} (ho : o.op = .convert s d x)
    (h : b2sE P s d H (ev P env x) k = true) : ∃ v, k v = true ∧ ReadSpec P env o H v := by
  unfold b2sE at h
  split at h
  · rename_i e hs hd
    split at h
    · rename_i he
      rcases ckSl_iff.1 h with ⟨hx, h⟩ | ⟨b, q, len, cap, hx, h⟩ | ⟨b, q, lo, es, hx, h⟩
      · refine ⟨_, h, fun θ ac w B r hO => ⟨.string .empty, ?_, .inr rfl⟩⟩
        have vx := hO.at (x := x) (by simp [ho, Op.operands])
        rw [hx] at vx
        simp [execOp, ho, convert, run_underlying hs, run_underlying hd, run_underlying he, vx.nils, Conv.bytesToString]
      · obtain ⟨hb, h⟩ := at_iff.1 h
        obtain ⟨ro, ex, n, c, hbl, h⟩ := ckCells_iff.1 h
        obtain ⟨hle, h⟩ := ifB_iff.1 h
        have hle : q + len ≤ n := by simpa using hle
        obtain ⟨cc, ns, h, hl, hbs, hc⟩ := bytesK_ok h
        refine ⟨_, h, fun θ ac w B r hO => ?_⟩
        have vx := hO.at (x := x) (by simp [ho, Op.operands])
        rw [hx] at vx
        obtain ⟨l, hl', vx⟩ := vx.sl
        have hr := r.at hl'
        rw [hbl] at hr
        obtain ⟨vs, h1, h2, h3⟩ := row_ok hr len q hle
        have hvs := (hc θ).symm.trans h1
        injection hvs with hvs
        have hll := run_loadCells_list (P := P) w (l.addr q) vs (fun j v hj => by rw [Loc.addr_add]; exact h3 j v hj)
        rw [h2] at hll
        refine ⟨.string (strOf len cc), ?_, .inr rfl⟩
        have hlen : (c.row q len).length = len := by rw [← concs_length h1, h2]
        simp [execOp, ho, convert, run_underlying hs, run_underlying hd, run_underlying he, vx, Conv.bytesToString, hll]
        rw [← hvs]
        rw [run_forBytes w (fun n s => rfl)]
        rw [hlen] at hbs
        simp only [strOf, hbs, Result.andThen_ok]
        congr 3
        simp
      · cases h
    · cases h
  · cases h
end
end Ev
