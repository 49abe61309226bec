/- A part of the proof that GcNone returns true: text Ev13. -/
import Derived.Test.YtiegdojchlmfnaaGreatDoorEv12
namespace Ev
open Go
open Go.RowKit
noncomputable section

/-! ### Literals of slices, make -/

theorem zeroA_info {P : Program} {t : Nat} {l : List AV} (h : zeroA P t = some l) : ∃ i zv, P.info? t = some i ∧ i.zero = some zv ∧ i.size = P.cellsOf t ∧ ∀ θ, ∃ vs, concs θ l = some vs ∧ zv.cells = vs.toArray := by
  obtain ⟨_, zv, hr, hc⟩ := zeroA_ok h
  unfold zeroA at h
  split at h
  · rename_i v hz
    have := run_zeroValue_of hz
    cases hi : P.info? t with
    | none => simp [hi] at hz
    | some i =>
      simp only [hi, Option.bind_some] at hz
      have w : World := default
      have e := (hr w).symm.trans (this w)
      injection e with e
      subst e
      exact ⟨i, _, rfl, hz, by simp [Program.cellsOf, hi], hc⟩
  · cases h

theorem Cells.dep_le (c : Cells) : c.dep ≤ 4096 := by cases c <;> simp [Cells.dep]

def bsliceE2 (P : Program) (t len : Nat) (ps : List (Nat × AV)) (H : Heap) (id : Nat) (k : AV → Heap → Bool) : Bool :=
  match P.underlying t with
  | some (.slice e) => (match zeroA P e with
    | some (z :: zs) => layAll (elemPl P e) ps (repL (z :: zs) len) fun l => newK l H id fun H => k (.sl id 0 len (.known len)) H
    | _ => false)
  | _ => false

def bsliceE (P : Program) (env : List AV) (t len : Nat) (parts : Array (Nat × Operand)) (H : Heap) (id : Nat) (k : AV → Heap → Bool) : Bool :=
  match P.underlying t with
  | some (.slice e) => (match zeroA P e with
    | some (z :: zs) => layAll (elemPl P e) (parts.toList.map fun p => (p.1, ev P env p.2)) (repL (z :: zs) len) fun l => newK l H id fun H => k (.sl id 0 len (.known len)) H
    | _ => false)
  | _ => false

theorem alloc_bslice {P : Program} {env : List AV} {o : Oper} {t len : Nat} {parts : Array (Nat × Operand)} {H : Heap} {id : Nat} {k : AV → Heap → Bool} (ho : o.op = .buildSlice t len parts)
    (h : bsliceE P env t len parts H id k = true) : ∃ v b, id < 32768 ∧ k v (Tr.put 5 H id b) = true ∧ AllocSpec P env o id v b := by
  have hop : ∀ p ∈ parts.toList, p.2 ∈ o.op.operands := fun p hp => by
    simp only [ho, Op.operands, List.mem_toArray, List.mem_map]
    exact ⟨p, hp, rfl⟩
  unfold bsliceE at h
  split at h
  · rename_i e hu
    split at h
    · rename_i z zs hz
      obtain ⟨out, h, hl, hq⟩ := layAll_ok (rp := fun i => some (i * P.cellsOf e, P.cellsOf e)) (fun i off size agg e => (elemPl_ok e).1) h
      obtain ⟨c, hid, hk, hd, hg⟩ := newK_ok h
      refine ⟨_, _, hid, hk, fun θ ac w B hh r hi hB hO => ?_⟩
      obtain ⟨hlen, zv, hzr, hzc⟩ := zeroA_ok hz
      obtain ⟨zvs, hzvs, hcells⟩ := hzc θ
      have hne : P.cellsOf e ≠ 0 := by rw [← hlen]; simp
      obtain ⟨inf, hinf, _⟩ := info_of_cells hne
      have hzl := concs_length hzvs
      have hzl' : zvs.length = P.cellsOf e := by rw [hzl, hlen]
      obtain ⟨vs, hvs, hfill⟩ := hq θ ac _ (repL_conc hzvs len) (fun p hp => hO.at (hop p hp))
      have hll : out.length = len * P.cellsOf e := by rw [hl, repL_length, hlen]
      have hsmall : len * P.cellsOf e ≤ 4096 := by have := Cells.dep_le c; omega
      refine ⟨.slice (some ⟨w.heap.size, 0, none⟩) len len, .cells vs.toArray e, out.length, w.alloc (.cells vs.toArray e), ?_, rfl, rfl, rfl, rfl, alloc_new hB hi hvs hd hg e, .inr ?_⟩
      · have hpl : (parts.map fun (p : Nat × Operand) => (p.1, ac.eval p.2)).toList = parts.toList.map fun p => (p.1, ac.eval p.2) := by simp
        have hrow : (Array.range (len * P.cellsOf e)).map (fun i => zv.cells[i % zv.cells.size]!) = ((List.replicate len zvs).flatten).toArray := by
          apply Array.ext'
          have := range_mod zvs len (by intro e'; rw [e'] at hzl'; simp at hzl'; omega)
          rw [hzl'] at this
          rw [hcells]
          simpa using this
        have h24 : ¬ (len * P.cellsOf e > 2 ^ 24) := by omega
        simp only [execOp, ho, Instr.buildSlice, Sem.run_bind, run_underlying hu, Result.andThen_ok, run_sizeOf w hinf, h24, if_false, Sem.run_pure]
        by_cases h0 : len * P.cellsOf e = 0
        · have hz0 : len = 0 := (Nat.mul_eq_zero.1 h0).resolve_right hne
          subst hz0
          simp only [h0, if_true, Sem.run_pure, Result.andThen_ok]
          simp only [List.replicate_zero, List.flatten_nil] at hfill
          have hr0 : ∀ zz : Array Value, (Array.range 0).map (fun i => zz[i % zz.size]!) = [].toArray := fun _ => Array.eq_empty_of_size_eq_zero (by simp)
          simp only [hr0, hpl, hfill, newRow]
          simp
          try rfl
        · simp only [h0, if_false, Sem.run_bind, hzr, Result.andThen_ok, Sem.run_pure, hrow, hpl, hfill, newRow]
          simp
          try rfl
      · exact conc_slk (l := ⟨w.heap.size, 0, out.length⟩) (Theta.add_self _ _ _)
    · cases h
  · cases h

def mkmapE (H : Heap) (id : Nat) (k : AV → Heap → Bool) : Bool := ifB (Nat.blt id 32768) (hput H id (.map .nil 0) fun H => k (.map id) H)

theorem alloc_mkmap {P : Program} {env : List AV} {o : Oper} {t : Nat} {H : Heap} {id : Nat} {k : AV → Heap → Bool} (ho : o.op = .makeMap t none)
    (h : mkmapE H id k = true) : ∃ v b, id < 32768 ∧ k v (Tr.put 5 H id b) = true ∧ AllocSpec P env o id v b := by
  obtain ⟨hid, h⟩ := ifB_iff.1 h
  rw [hput_eq] at h
  refine ⟨_, _, by simpa [blt_eq] using hid, h, fun θ ac w B hh r hi hB hO => ?_⟩
  refine ⟨.map (some w.heap.size), .map #[] 0, 0, w.alloc (.map #[] 0), ?_, rfl, rfl, rfl, rfl, ⟨hB, #[], heap_alloc_self _ _, .nil⟩, .inr ?_⟩
  · simp [execOp, ho, Instr.makeMap]
    try rfl
  · simp [Ev.conc, Theta.add_self]

/-- make of a map with room asked for. -/
theorem alloc_mkmap' {P : Program} {env : List AV} {o : Oper} {t kt vt : Nat} {x : Operand} {H : Heap} {id : Nat} {k : AV → Heap → Bool} (ho : o.op = .makeMap t (some x)) (hu : P.underlying t = some (.map kt vt))
    (h : ((ev P env x).ckInt fun _ _ => mkmapE H id k) = true) : ∃ v b, id < 32768 ∧ k v (Tr.put 5 H id b) = true ∧ AllocSpec P env o id v b := by
  obtain ⟨kd, n, hx, h⟩ := ckInt_iff.1 h
  obtain ⟨hid, h⟩ := ifB_iff.1 h
  rw [hput_eq] at h
  refine ⟨_, _, by simpa [blt_eq] using hid, h, fun θ ac w B hh r hi hB hO => ?_⟩
  have vx := hO.at (x := x) (by simp [ho, Op.operands])
  rw [hx] at vx
  refine ⟨.map (some w.heap.size), .map #[] 0, 0, w.alloc (.map #[] 0), ?_, rfl, rfl, rfl, rfl, ⟨hB, #[], heap_alloc_self _ _, .nil⟩, .inr ?_⟩
  · simp [execOp, ho, Instr.makeMap, vx.int, run_underlying hu, asInt, asIntOf]
    try rfl
  · simp [Ev.conc, Theta.add_self]

def mksliceE (P : Program) (t : Nat) (l c : AV) (H : Heap) (id : Nat) (k : AV → Heap → Bool) : Bool :=
  match P.underlying t with
  | some (.slice e) => (match zeroA P e with
    | some (z :: zs) => if (P.info? e).any (fun i => decide (i.bytes ≤ 100000)) then
        l.ckInt fun _ l => natOf l fun l => c.ckInt fun _ c => natOf c fun c => ifB (Bool.and (Nat.ble l c) (Nat.ble c 4096)) (newK (repL (z :: zs) c) H id fun H => k (.sl id 0 l (.known c)) H)
      else false
    | _ => false)
  | _ => false

theorem alloc_mkslice {P : Program} {env : List AV} {o : Oper} {t : Nat} {x y : Operand} {H : Heap} {id : Nat} {k : AV → Heap → Bool} (ho : o.op = .makeSlice t x y)
    (h : mksliceE P t (ev P env x) (ev P env y) H id k = true) : ∃ v b, id < 32768 ∧ k v (Tr.put 5 H id b) = true ∧ AllocSpec P env o id v b := by
  unfold mksliceE at h
  split at h
  · rename_i e hu
    split at h
    · rename_i z zs hz
      split at h
      · rename_i hby
        obtain ⟨k1, l', hx, h⟩ := ckInt_iff.1 h
        obtain ⟨l, rfl, h⟩ := natOf_iff.1 h
        obtain ⟨k2, c', hy, h⟩ := ckInt_iff.1 h
        obtain ⟨c, rfl, h⟩ := natOf_iff.1 h
        obtain ⟨hb, h⟩ := ifB_iff.1 h
        have hb : l ≤ c ∧ c ≤ 4096 := by simpa using hb
        obtain ⟨hlc, hc4⟩ := hb
        obtain ⟨cc, hid, hk, hd, hg⟩ := newK_ok h
        refine ⟨_, _, hid, hk, fun θ ac w B hh r hi hB hO => ?_⟩
        have vx := hO.at (x := x) (by simp [ho, Op.operands])
        have vy := hO.at (x := y) (by simp [ho, Op.operands])
        rw [hx] at vx; rw [hy] at vy
        obtain ⟨hlen, _⟩ := zeroA_ok hz
        obtain ⟨inf, zv, hinf, hzero, hsz, hzc⟩ := zeroA_info hz
        obtain ⟨zvs, hzvs, hcells⟩ := hzc θ
        have hne : P.cellsOf e ≠ 0 := by rw [← hlen]; simp
        have hby' : inf.bytes ≤ 100000 := by simpa [hinf] using hby
        have hzl' : zvs.length = P.cellsOf e := by rw [concs_length hzvs, hlen]
        have hvs := repL_conc hzvs c
        have hll : (repL (z :: zs) c).length = c * P.cellsOf e := by rw [repL_length, hlen]
        refine ⟨.slice (some ⟨w.heap.size, 0, none⟩) l c, .cells ((List.replicate c zvs).flatten).toArray e, _, w.alloc (.cells ((List.replicate c zvs).flatten).toArray e), ?_, rfl, rfl, rfl, rfl, alloc_new hB hi hvs hd hg e, .inr ?_⟩
        · have hrow : madeCells zv.cells (c * P.cellsOf e) = ((List.replicate c zvs).flatten).toArray := by
            apply Array.ext'
            have := range_mod zvs c (by intro e'; rw [e'] at hzl'; simp at hzl'; omega)
            rw [hzl'] at this
            rw [hcells]
            simpa [madeCells] using this
          have m1 : (inf.bytes : Int) * (c : Int) ≤ 281474976710656 := by
            have : inf.bytes * c ≤ 100000 * 4096 := Nat.mul_le_mul hby' hc4
            have h2 := Int.ofNat_le.2 this
            rw [Int.natCast_mul] at h2
            omega
          have hr := run_make (P := P) w t e inf zv hu hinf hzero k1 k2 (l : Int) (c : Int) (by omega) (by omega) m1 (by omega)
          rw [hsz] at hr
          simp only [Int.toNat_natCast, hrow] at hr
          simp only [execOp, ho, vx.int, vy.int, Sem.run_bind, hr, Result.andThen_ok, Sem.run_pure]
        · exact conc_slk (l := ⟨w.heap.size, 0, _⟩) (Theta.add_self _ _ _)
      · cases h
    · cases h
  · cases h

end
end Ev
