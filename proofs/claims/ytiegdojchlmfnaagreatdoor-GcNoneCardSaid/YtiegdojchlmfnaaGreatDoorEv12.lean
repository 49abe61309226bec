/- A part of the proof that GcNone returns true: text Ev12. -/
import Derived.Test.YtiegdojchlmfnaaGreatDoorEv11
namespace Ev
open Go
open Go.RowKit
noncomputable section

/-! ### New blocks -/

def row8 (l : List AV) (k : R AV → Bool) : Bool :=
  List.rec (motive := fun _ => Bool) (k (.mk .bad .bad .bad .bad .bad .bad .bad .bad)) (fun x0 l _ =>
  List.rec (motive := fun _ => Bool) (k (.mk x0 .bad .bad .bad .bad .bad .bad .bad)) (fun x1 l _ =>
  List.rec (motive := fun _ => Bool) (k (.mk x0 x1 .bad .bad .bad .bad .bad .bad)) (fun x2 l _ =>
  List.rec (motive := fun _ => Bool) (k (.mk x0 x1 x2 .bad .bad .bad .bad .bad)) (fun x3 l _ =>
  List.rec (motive := fun _ => Bool) (k (.mk x0 x1 x2 x3 .bad .bad .bad .bad)) (fun x4 l _ =>
  List.rec (motive := fun _ => Bool) (k (.mk x0 x1 x2 x3 x4 .bad .bad .bad)) (fun x5 l _ =>
  List.rec (motive := fun _ => Bool) (k (.mk x0 x1 x2 x3 x4 x5 .bad .bad)) (fun x6 l _ =>
  List.rec (motive := fun _ => Bool) (k (.mk x0 x1 x2 x3 x4 x5 x6 .bad)) (fun x7 l _ =>
  List.rec (motive := fun _ => Bool) (k (.mk x0 x1 x2 x3 x4 x5 x6 x7)) (fun _ _ _ => false) l) l) l) l) l) l) l) l) l

theorem row8_ok {l : List AV} {k : R AV → Bool} (h : row8 l k = true) : ∃ r : R AV, k r = true ∧ l.length ≤ 8 ∧ ∀ i, i < 8 → r.get i = l.getD i .bad := by
  match l, h with
  | [], h => exact ⟨_, h, by simp, cases8 rfl rfl rfl rfl rfl rfl rfl rfl⟩
  | [a], h => exact ⟨_, h, by simp, cases8 rfl rfl rfl rfl rfl rfl rfl rfl⟩
  | [a, b], h => exact ⟨_, h, by simp, cases8 rfl rfl rfl rfl rfl rfl rfl rfl⟩
  | [a, b, c], h => exact ⟨_, h, by simp, cases8 rfl rfl rfl rfl rfl rfl rfl rfl⟩
  | [a, b, c, d], h => exact ⟨_, h, by simp, cases8 rfl rfl rfl rfl rfl rfl rfl rfl⟩
  | [a, b, c, d, e], h => exact ⟨_, h, by simp, cases8 rfl rfl rfl rfl rfl rfl rfl rfl⟩
  | [a, b, c, d, e, f], h => exact ⟨_, h, by simp, cases8 rfl rfl rfl rfl rfl rfl rfl rfl⟩
  | [a, b, c, d, e, f, g], h => exact ⟨_, h, by simp, cases8 rfl rfl rfl rfl rfl rfl rfl rfl⟩
  | [a, b, c, d, e, f, g, i], h => exact ⟨_, h, by simp, cases8 rfl rfl rfl rfl rfl rfl rfl rfl⟩
  | a :: b :: c :: d :: e :: f :: g :: i :: j :: l, h => exact (Bool.false_ne_true h).elim

/-- Some cells are laid into a block. -/
def fillK : List AV → Cells → Nat → (Cells → Bool) → Bool :=
  List.rec (motive := fun _ => Cells → Nat → (Cells → Bool) → Bool) (fun c _ k => k c) (fun a _ ih c i k => c.setK i a fun c => ih c (Nat.succ i) k)

theorem fillK_ok {k : Cells → Bool} : ∀ {l : List AV} {c : Cells} {i : Nat}, fillK l c i k = true → i + l.length ≤ c.dep →
    ∃ c' : Cells, k c' = true ∧ c'.dep = c.dep ∧ ∀ j, j < c.dep → c'.get j = if i ≤ j ∧ j < i + l.length then l.getD (j - i) .bad else c.get j
  | [], c, i, h, _ => ⟨c, h, rfl, fun j _ => by rw [if_neg (fun e => by have := e.2; simp at this; omega)]⟩
  | a :: l, c, i, h, hd => by
    have h : (c.setK i a fun c => fillK l c (i + 1) k) = true := h
    rw [Cells.setK_eq] at h
    simp only [List.length_cons] at hd
    obtain ⟨c', hk, hdep, hg⟩ := fillK_ok h (by rw [Cells.dep_put]; omega)
    rw [Cells.dep_put] at hdep
    refine ⟨c', hk, hdep, fun j hj => ?_⟩
    rw [hg j (by rw [Cells.dep_put]; exact hj), Cells.get_put c a (by omega) hj]
    simp only [List.length_cons]
    by_cases e : i = j
    · subst e
      rw [if_neg (by omega), if_pos rfl, if_pos (by omega), Nat.sub_self]
      rfl
    · by_cases h1 : i + 1 ≤ j ∧ j < i + 1 + l.length
      · rw [if_pos h1, if_pos (by omega)]
        obtain ⟨m, rfl⟩ : ∃ m, j = i + 1 + m := ⟨j - (i + 1), by omega⟩
        rw [show i + 1 + m - (i + 1) = m from by omega, show i + 1 + m - i = m + 1 from by omega]
        rfl
      · rw [if_neg h1, if_neg e, if_neg (by omega)]

/-- A tree with room for so many cells, all alike. -/
def repK (a : AV) (n : Nat) (k : Cells → Bool) : Bool :=
  Bool.rec (Bool.rec (Bool.rec (Bool.rec false (k (.c4 (Tr.rep a 4))) (Nat.ble n 4096)) (k (.c3 (Tr.rep a 3))) (Nat.ble n 512)) (k (.c2 (Tr.rep a 2))) (Nat.ble n 64)) (k (.c1 (Tr.rep a 1))) (Nat.ble n 8)

theorem repK_ok {a : AV} {n : Nat} {k : Cells → Bool} (h : repK a n k = true) : ∃ c : Cells, k c = true ∧ n ≤ c.dep ∧ ∀ i, c.get i = a := by
  unfold repK at h
  cases h1 : Nat.ble n 8 with
  | true => rw [h1] at h; exact ⟨_, h, show n ≤ 8 from by simpa using h1, fun i => Tr.get_rep a 1 i⟩
  | false =>
    simp only [h1] at h
    cases h2 : Nat.ble n 64 with
    | true => rw [h2] at h; exact ⟨_, h, show n ≤ 64 from by simpa using h2, fun i => Tr.get_rep a 2 i⟩
    | false =>
      simp only [h2] at h
      cases h3 : Nat.ble n 512 with
      | true => rw [h3] at h; exact ⟨_, h, show n ≤ 512 from by simpa using h3, fun i => Tr.get_rep a 3 i⟩
      | false =>
        simp only [h3] at h
        cases h4 : Nat.ble n 4096 with
        | true => rw [h4] at h; exact ⟨_, h, show n ≤ 4096 from by simpa using h4, fun i => Tr.get_rep a 4 i⟩
        | false => simp [h4] at h

/-- A list as the cells of a block. -/
def cellsK (l : List AV) (k : Cells → Bool) : Bool :=
  Bool.rec (repK .bad l.length fun c => fillK l c 0 k) (row8 l fun r => k (.c1 r)) (Nat.ble l.length 8)

theorem cellsK_ok {l : List AV} {k : Cells → Bool} (h : cellsK l k = true) : ∃ c : Cells, k c = true ∧ l.length ≤ c.dep ∧ ∀ i, i < l.length → c.get i = l.getD i .bad := by
  unfold cellsK at h
  cases h1 : Nat.ble l.length 8 with
  | true =>
    rw [h1] at h
    obtain ⟨r, hk, hl, hg⟩ := row8_ok h
    refine ⟨_, hk, hl, fun i hi => ?_⟩
    have : i / 8 ^ 0 % 8 = i := by simp; omega
    show Tr.get 0 (R.get r (i / 8 ^ 0 % 8)) i = _
    rw [this]
    exact hg i (by omega)
  | false =>
    simp only [h1] at h
    obtain ⟨c, h2, hd, _⟩ := repK_ok h
    obtain ⟨c', hk, hdep, hg⟩ := fillK_ok h2 (by omega)
    refine ⟨c', hk, by omega, fun i hi => ?_⟩
    rw [hg i (by omega), if_pos (by omega)]
    rfl

/-- What an operation that makes one new block comes to: the block's number, the value, the block. -/
def AllocSpec (P : Program) (env : List AV) (o : Oper) (id : Nat) (v : AV) (b : Blk) : Prop :=
  ∀ (θ : Theta) (ac : Act) (w : World) (B : Nat) (h : Nat → Blk), HRel P θ h B w → θ.blk id = none → B ≤ w.heap.size → Opd P θ env o ac →
    ∃ (v' : Value) (ob : Obj) (sz : Nat) (w' : World), (execOp ac.eval o).run P w = .ok (.value v') w' ∧ w'.heap = w.heap.push ob ∧ w'.os = w.os ∧ w'.tape = w.tape ∧ w'.output = w.output ∧
      BRel P (θ.add id ⟨w.heap.size, 0, sz⟩) B (w.alloc ob) ⟨w.heap.size, 0, sz⟩ b ∧ VR (θ.add id ⟨w.heap.size, 0, sz⟩) v v'

theorem BRel.cells_new {P : Program} {θ : Theta} {B : Nat} {w : World} (hB : B ≤ w.heap.size) {l : List AV} {vs : List Value} {c : Cells} (id : Nat) (hi : θ.blk id = none) (e : TypeId) (extra : List Value) (ex : Bool) (hex : ex = true → extra = [])
    (hc : concs θ l = some vs) (hd : l.length ≤ c.dep) (hg : ∀ i, i < l.length → c.get i = l.getD i .bad) :
    BRel P (θ.add id ⟨w.heap.size, 0, l.length + extra.length⟩) B (w.alloc (.cells (vs ++ extra).toArray e)) ⟨w.heap.size, 0, l.length + extra.length⟩ (.cells false ex l.length c) := by
  have hlen := concs_length hc
  refine ⟨hd, fun i hi' => ?_, fun _ => ⟨hB, _, e, heap_alloc_self _ _, ?_, ?_, ?_⟩⟩
  · have ha : l[i]? = some l[i] := List.getElem?_eq_getElem hi'
    obtain ⟨v, hv, hcv⟩ := concs_getElem hc ha
    refine ⟨v, ?_, ?_⟩
    · rw [hg i hi', List.getD_eq_getElem?_getD, ha]
      exact conc_le (Theta.le_add hi _) _ _ hcv
    · simp only [World.cell?, Loc.addr, heap_alloc_self]
      have : (vs ++ extra)[i]? = some v := by rw [List.getElem?_append_left (by omega)]; exact hv
      simpa using this
  · simp [hlen]
  · simp
  · intro h; simp [hex h]

/-- A new block of known cells. -/
def newK (l : List AV) (H : Heap) (id : Nat) (k : Heap → Bool) : Bool := ifB (Nat.blt id 32768) (cellsK l fun c => hput H id (.cells false true l.length c) k)

theorem newK_ok {l : List AV} {H : Heap} {id : Nat} {k : Heap → Bool} (h : newK l H id k = true) :
    ∃ c : Cells, id < 32768 ∧ k (Tr.put 5 H id (.cells false true l.length c)) = true ∧ l.length ≤ c.dep ∧ ∀ i, i < l.length → c.get i = l.getD i .bad := by
  obtain ⟨hid, h⟩ := ifB_iff.1 h
  obtain ⟨c, h, hd, hg⟩ := cellsK_ok h
  rw [hput_eq] at h
  exact ⟨c, by simpa [blt_eq] using hid, h, hd, hg⟩

def allocE (P : Program) (t : Nat) (H : Heap) (id : Nat) (k : AV → Heap → Bool) : Bool :=
  match zeroA P t with
  | some l => newK l H id fun H => k (.ptr id 0) H
  | none => false

theorem alloc_new {P : Program} {θ : Theta} {B : Nat} {w : World} (hB : B ≤ w.heap.size) {id : Nat} (hi : θ.blk id = none) {l : List AV} {vs : List Value} {c : Cells}
    (hc : concs θ l = some vs) (hd : l.length ≤ c.dep) (hg : ∀ i, i < l.length → c.get i = l.getD i .bad) (e : TypeId) :
    BRel P (θ.add id ⟨w.heap.size, 0, l.length⟩) B (w.alloc (.cells vs.toArray e)) ⟨w.heap.size, 0, l.length⟩ (.cells false true l.length c) := by
  have := BRel.cells_new (P := P) hB id hi e [] true (fun _ => rfl) hc hd hg
  simp only [List.append_nil, List.length_nil, Nat.add_zero] at this
  exact this

theorem alloc_alloc {P : Program} {env : List AV} {o : Oper} {t : Nat} {H : Heap} {id : Nat} {k : AV → Heap → Bool} (ho : o.op = .alloc t)
    (h : allocE P t H id k = true) : ∃ v b, id < 32768 ∧ k v (Tr.put 5 H id b) = true ∧ AllocSpec P env o id v b := by
  unfold allocE at h
  split at h
  · rename_i l hz
    obtain ⟨c, hid, hk, hd, hg⟩ := newK_ok h
    refine ⟨_, _, hid, hk, fun θ ac w B hh r hi hB hO => ?_⟩
    obtain ⟨_, zv, hzr, hzc⟩ := zeroA_ok hz
    obtain ⟨vs, hvs, hcells⟩ := hzc θ
    refine ⟨.pointer (some ⟨w.heap.size, 0, none⟩), .cells vs.toArray t, l.length, w.alloc (.cells vs.toArray t), ?_, rfl, rfl, rfl, rfl, alloc_new hB hi hvs hd hg t, .inr ?_⟩
    · simp [execOp, ho, Instr.alloc, hzr, newVar, newRow, hcells]
      try rfl
    · simp [Ev.conc, Theta.add_self, Loc.addr]
  · cases h

/-- The cells of a value that goes into a block of its own. -/
def cellsOfK (x : AV) (k : List AV → Bool) : Bool :=
  AV.casesOn (motive_1 := fun _ => Bool) x false (fun _ => k [x]) (fun _ _ => k [x]) (fun _ _ => k [x]) (k [x]) (fun _ _ => k [x]) (k [x]) (fun _ _ _ _ => k [x]) (fun _ _ _ _ => k [x]) (k [x]) (fun _ => k [x])
    (fun _ _ _ => k [x]) (k [x]) (fun _ _ => k [x]) (k [x]) (fun l => k l) (fun _ => false) (fun _ => false)

theorem cellsOfK_ok {x : AV} {k : List AV → Bool} (h : cellsOfK x k = true) : ∃ l, k l = true ∧ x ≠ .bad ∧ ∀ θ v, Ev.conc θ x = some v → ∃ vs, concs θ l = some vs ∧ v.cells = vs.toArray := by
  have one : x.one = true → k [x] = true → ∃ l, k l = true ∧ x ≠ .bad ∧ ∀ θ v, Ev.conc θ x = some v → ∃ vs, concs θ l = some vs ∧ v.cells = vs.toArray := by
    intro h1 h2
    refine ⟨_, h2, by intro e; rw [e] at h1; simp [AV.one] at h1, fun θ v hv => ⟨[v], concs_cons.2 ⟨v, [], hv, rfl, rfl⟩, (one_cells h1 hv).1⟩⟩
  cases x
  case bad => exact (Bool.false_ne_true h).elim
  case tup l => exact (Bool.false_ne_true h).elim
  case opq i => exact (Bool.false_ne_true h).elim
  case agg l =>
    refine ⟨l, h, by simp, fun θ v hv => ?_⟩
    obtain ⟨vs, hvs, rfl⟩ := VR.agg (.inr hv)
    exact ⟨vs, hvs, rfl⟩
  all_goals exact one rfl h

def boxE (x : AV) (H : Heap) (id : Nat) (k : AV → Heap → Bool) : Bool := cellsOfK x fun l => newK l H id fun H => k (.ptr id 0) H

theorem alloc_box {P : Program} {env : List AV} {o : Oper} {t : Nat} {x : Operand} {H : Heap} {id : Nat} {k : AV → Heap → Bool} (ho : o.op = .box t x)
    (h : boxE (ev P env x) H id k = true) : ∃ v b, id < 32768 ∧ k v (Tr.put 5 H id b) = true ∧ AllocSpec P env o id v b := by
  obtain ⟨l, h, hb, hl⟩ := cellsOfK_ok h
  obtain ⟨c, hid, hk, hd, hg⟩ := newK_ok h
  refine ⟨_, _, hid, hk, fun θ ac w B hh r hi hB hO => ?_⟩
  have hv := (hO.at (x := x) (by simp [ho, Op.operands])).conc hb
  obtain ⟨vs, hvs, hcells⟩ := hl θ _ hv
  refine ⟨.pointer (some ⟨w.heap.size, 0, none⟩), .cells vs.toArray t, l.length, w.alloc (.cells vs.toArray t), ?_, rfl, rfl, rfl, rfl, alloc_new hB hi hvs hd hg t, .inr ?_⟩
  · simp [execOp, ho, Instr.box, newVar, newRow, hcells]
    try rfl
  · simp [Ev.conc, Theta.add_self, Loc.addr]

/-- So many times the cells of a zero value. -/
def repL (z : List AV) : Nat → List AV
  | 0 => []
  | n + 1 => z ++ repL z n

theorem repL_length (z : List AV) : ∀ n, (repL z n).length = n * z.length
  | 0 => by simp [repL]
  | n + 1 => by simp [repL, repL_length z n, Nat.succ_mul]; omega

theorem repL_conc {θ : Theta} {z : List AV} {vs : List Value} (h : concs θ z = some vs) : ∀ n, concs θ (repL z n) = some ((List.replicate n vs).flatten)
  | 0 => by simp [repL, concs]
  | n + 1 => by
    simp only [repL, List.replicate_succ, List.flatten_cons]
    exact concs_append h (repL_conc h n)

theorem range_mod (vs : List Value) (n : Nat) (hv : vs ≠ []) : ((Array.range (n * vs.length)).map fun i => vs.toArray[i % vs.toArray.size]!).toList = (List.replicate n vs).flatten := by
  have hpos : 0 < vs.length := List.length_pos_iff.2 hv
  apply List.ext_getElem?
  intro i
  have hlen : ((List.replicate n vs).flatten).length = n * vs.length := by simp
  by_cases hi : i < n * vs.length
  · have h1 : ((Array.range (n * vs.length)).map fun i => vs.toArray[i % vs.toArray.size]!).toList[i]? = some (vs.toArray[i % vs.length]!) := by simp [hi]
    rw [h1]
    have hm : i % vs.length < vs.length := Nat.mod_lt _ hpos
    have h2 : ∀ (n i : Nat), i < n * vs.length → ((List.replicate n vs).flatten)[i]? = some (vs[i % vs.length]'(Nat.mod_lt _ hpos)) := by
      intro n
      induction n with
      | zero => intro i h; omega
      | succ n ih =>
        intro i h
        simp only [List.replicate_succ, List.flatten_cons]
        by_cases hlt : i < vs.length
        · rw [List.getElem?_append_left hlt, List.getElem?_eq_getElem hlt]
          simp [Nat.mod_eq_of_lt hlt]
        · rw [List.getElem?_append_right (by omega), ih (i - vs.length) (by rw [Nat.succ_mul] at h; omega)]
          have : (i - vs.length) % vs.length = i % vs.length := by rw [← Nat.mod_eq_sub_mod (by omega)]
          simp [this]
    rw [h2 n i hi]
    simp [hm]
  · rw [List.getElem?_eq_none (by simp; omega), List.getElem?_eq_none (by rw [hlen]; omega)]

end
end Ev
