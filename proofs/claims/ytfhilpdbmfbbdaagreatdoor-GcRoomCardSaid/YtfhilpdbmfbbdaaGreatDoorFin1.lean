/- A part of the proof that GcRoom returns true: text Fin1. -/
import Derived.Test.YtfhilpdbmfbbdaaGreatDoorLpB
import Derived.Test.YtfhilpdbmfbbdaaGreatDoorRows
import Derived.ProofKit
import Derived.LaidMore
import Derived.OpenShut
import Derived.Stop.Joined
namespace Ev
open Go Go.Proofs Go.ChangeShapes Go.WideShapes Go.ChangeAt Go.RowKit Go.Proofs.YtfhilpdbmfbbdaaGreatDoor

/-- A listed array of whole numbers: its cells. -/
theorem cells_of_array {H : Type} {enc : TypeId × Value → H} {P : Program} {W : World} {base fuel : Nat} {sp : Nat → Bool} {hd : Bool} {name : String} {g t n e : Nat} {k : IntKind} {cs : Array Value} {zs : List Int} {D : DataW H} {p : List MemPlace}
    (hg : P.globalNamed name = some g) (hv : W.var? P name = some cs) (hu : P.underlying t = some (.array n e)) (he : P.underlying e = some (.int k)) (hce : P.cellsOf e = 1)
    (h : DataW.trod enc P W base sp hd fuel t cs.toList = some (D, p)) (hD : D = .agg (zs.map fun z => .lit (.int k z))) :
    ∀ i, i < n → W.cell? ⟨g, i, none⟩ = some (.int k (zs.getD i 0)) := by
  intro i hi
  subst hD
  obtain ⟨xs, m, _, hx, _, hn, hel⟩ := DataW.trod_array hu h
  simp only [Prod.mk.injEq, DataW.agg.injEq] at hx
  have hel := hel i hi
  rw [hce, Nat.mul_one] at hel
  have hxi : xs[i]? = some (xs[i]'(by omega)) := List.getElem?_eq_getElem (by omega)
  rw [hxi] at hel
  obtain ⟨z, e1, e2, _⟩ := DataW.trod_int he hel
  have hmap : (zs.map fun z => (DataW.lit (.int k z) : DataW H))[i]? = (xs.map (·.1))[i]? := by rw [hx.1]
  rw [List.getElem?_map, List.getElem?_map, hxi, e2] at hmap
  have hz : zs[i]? = some z := by
    cases hzi : zs[i]? with
    | none => rw [hzi] at hmap; simp at hmap
    | some z' => rw [hzi] at hmap; simp at hmap; rw [hmap]
  have hc : cs.toList[i]? = some (.int k z) := by
    have : ((cs.toList.drop i).take 1)[0]? = some (.int k z) := by rw [e1]; rfl
    simpa using this
  rw [World.var?_cell hg hv i, List.getD_eq_getElem?_getD, hz]
  simpa using hc

abbrev seatLaid : List (String × DataW Unit) := [("math/bits.deBruijn32tab", Rows.laid_math_bits_deBruijn32tab), ("math/bits.deBruijn64tab", Rows.laid_math_bits_deBruijn64tab), ("internal/strconv.uint64pow10", Rows.laid_internal_strconv_uint64pow10), ("unicode.White_Space", Rows.laid_unicode_White_Space), ("strings.asciiSpace", Rows.laid_strings_asciiSpace), ("leatwork/core.Done", Rows.laid_leatwork_core_Done)]

def spaceZ : List Int := (List.range 256).map fun i => if i == 9 || i == 10 || i == 11 || i == 12 || i == 13 || i == 32 then 1 else 0
def doneZ : List Int := [-1, -1]
def powZ : List Int := [1, 10, 100, 1000, 10000, 100000, 1000000, 10000000, 100000000, 1000000000, 10000000000, 100000000000, 1000000000000, 10000000000000, 100000000000000, 1000000000000000, 10000000000000000, 100000000000000000, 1000000000000000000, 10000000000000000000]

theorem gDone : Tryz.prog.globalNamed "leatwork/core.Done" = some 0 := by kernel_rfl
theorem gPow : Tryz.prog.globalNamed "internal/strconv.uint64pow10" = some 1 := by kernel_rfl
theorem gSpace : Tryz.prog.globalNamed "strings.asciiSpace" = some 2 := by kernel_rfl
theorem dSpace : (Rows.laid_strings_asciiSpace : DataW Unit) = .agg (spaceZ.map fun z => .lit (.int .u8 z)) := by kernel_rfl
theorem dPow : (Rows.laid_internal_strconv_uint64pow10 : DataW Unit) = .agg (powZ.map fun z => .lit (.int .u64 z)) := by kernel_rfl
theorem dDone : (Rows.laid_leatwork_core_Done : DataW Unit) = .agg (doneZ.map fun z => .lit (.int .i64 z)) := by kernel_rfl

theorem tDone : (Tryz.prog.globals[0]?).map (·.type) = some 88 := by kernel_rfl
theorem tPow : (Tryz.prog.globals[1]?).map (·.type) = some 273 := by kernel_rfl
theorem tSpace : (Tryz.prog.globals[2]?).map (·.type) = some 277 := by kernel_rfl

/-- What the condition on the package's variables gives: their cells. -/
theorem of_laid {W : World} (h : laidMetH Tryz.prog seatLaid W) : (∀ i, i < 2 → W.cell? ⟨0, i, none⟩ = some (.int .i64 (doneZ.getD i 0))) ∧ (∀ i, i < 20 → W.cell? ⟨1, i, none⟩ = some (.int .u64 (powZ.getD i 0))) ∧ (∀ i, i < 256 → W.cell? ⟨2, i, none⟩ = some (.int .u8 (spaceZ.getD i 0))) := by
  rw [MakeChecks.laidMetH_plain _ _ _ (by kernel_rfl)] at h
  obtain ⟨ps, ⟨g0, t0, cs0, f0, p0, q0, hg0, ht0, hv0, hd0, ⟨g1, t1, cs1, f1, p1, q1, hg1, ht1, hv1, hd1, ⟨g2, t2, cs2, f2, p2, q2, hg2, ht2, hv2, hd2, ⟨g3, t3, cs3, f3, p3, q3, hg3, ht3, hv3, hd3, ⟨g4, t4, cs4, f4, p4, q4, hg4, ht4, hv4, hd4, ⟨g5, t5, cs5, f5, p5, q5, hg5, ht5, hv5, hd5, _, _⟩, _⟩, _⟩, _⟩, _⟩, _⟩, _, _⟩ := h
  obtain rfl := Option.some.inj (gSpace.symm.trans hg4)
  obtain rfl := Option.some.inj (gPow.symm.trans hg2)
  obtain rfl := Option.some.inj (gDone.symm.trans hg5)
  obtain rfl := Option.some.inj (tSpace.symm.trans ht4)
  obtain rfl := Option.some.inj (tPow.symm.trans ht2)
  obtain rfl := Option.some.inj (tDone.symm.trans ht5)
  refine ⟨?_, cells_of_array hg2 hv2 Tryz.underlying273 Tryz.underlying187 (by kernel_rfl) hd2 dPow, cells_of_array hg4 hv4 Tryz.underlying277 Tryz.underlying5 (by kernel_rfl) hd4 dSpace⟩
  obtain ⟨y0, y1, m, hx, _, e0, e1⟩ := trod_struct2 Tryz.underlying88 hd5
  have c3 : Tryz.prog.cellsOf 3 = 1 := by kernel_rfl
  rw [c3] at e0 e1
  obtain ⟨z0, a0, b0, _⟩ := DataW.trod_int Tryz.underlying3 e0
  obtain ⟨z1, a1, b1, _⟩ := DataW.trod_int Tryz.underlying3 e1
  rw [dDone, b0, b1] at hx
  simp [doneZ] at hx
  obtain ⟨⟨hz0, hz1⟩, _⟩ := hx
  subst hz0; subst hz1
  have h0 : cs5.toList[0]? = some (.int .i64 (-1)) := by
    have : ((cs5.toList.drop 0).take 1)[0]? = some (.int .i64 (-1)) := by rw [a0]; rfl
    simpa using this
  have h1 : cs5.toList[1]? = some (.int .i64 (-1)) := by
    have : ((cs5.toList.drop 1).take 1)[0]? = some (.int .i64 (-1)) := by rw [a1]; rfl
    simpa using this
  intro i hi
  rw [World.var?_cell hg5 hv5 i]
  match i, hi with
  | 0, _ => simpa [doneZ] using h0
  | 1, _ => simpa [doneZ] using h1

/-! ### Where the call begins -/

theorem hfnH1 : hfn H1 = setB (setB (setB (fun _ => .dead) 0 (.cells true true 2 doneC)) 2 (.cells true true 256 spaceC)) 1 (.cells true true 20 powC) := by
  unfold H1 H0
  rw [hfn_put _ _ (by omega), hfn_put _ _ (by omega), hfn_put _ _ (by omega)]
  congr 3
  funext b
  unfold hfn
  split
  · rw [hgt_eq]; exact Tr.get_rep _ _ _
  · rfl

noncomputable def isI (k : IntKind) (z : Int) : AV → Bool
  | .int k' z' => kdEq k k' && z == z'
  | _ => false
theorem isI_ok {k : IntKind} {z : Int} {a : AV} (h : isI k z a = true) : a = .int k z := by
  cases a <;> simp [isI] at h
  rw [kdEq_iff h.1, h.2]

theorem doneAll : (List.range 2).all (fun i => isI .i64 (doneZ.getD i 0) (doneC.get i)) = true := by kernel_rfl
theorem powAll : (List.range 20).all (fun i => isI .u64 (powZ.getD i 0) (powC.get i)) = true := by kernel_rfl
theorem spaceAll : (List.range 256).all (fun i => isI .u8 (spaceZ.getD i 0) (spaceC.get i)) = true := by kernel_rfl

theorem start_rel {W : World} (e : Nat) (h0 : ∀ i, i < 2 → W.cell? ⟨0, i, none⟩ = some (.int .i64 (doneZ.getD i 0))) (h1 : ∀ i, i < 20 → W.cell? ⟨1, i, none⟩ = some (.int .u64 (powZ.getD i 0))) (h2 : ∀ i, i < 256 → W.cell? ⟨2, i, none⟩ = some (.int .u8 (spaceZ.getD i 0))) : HRel Tryz.prog (θs e) (hfn H1) W.heap.size W := by
  have lt : ∀ {g i : Nat} {v : Value}, W.cell? ⟨g, i, none⟩ = some v → g < W.heap.size := fun {g i v} h => by
    rcases Nat.lt_or_ge g W.heap.size with h' | h'
    · exact h'
    · simp [World.cell?, Array.getElem?_eq_none h'] at h
  rw [hfnH1]
  refine ⟨fun b hb => ?_, fun b b' l l' hb hb' hl hl' eb => ?_⟩
  · by_cases e1 : 1 = b
    · subst e1
      refine ⟨⟨1, 0, 0⟩, by simp [θs], lt (h1 0 (by omega)), ?_⟩
      show BRel Tryz.prog (θs e) W.heap.size W ⟨1, 0, 0⟩ (.cells true true 20 powC)
      refine ⟨by decide, fun i hi => ⟨.int .u64 (powZ.getD i 0), ?_, by simpa [Loc.addr] using h1 i hi⟩, fun h => by cases h⟩
      rw [isI_ok (List.all_eq_true.1 powAll i (List.mem_range.2 hi))]
      rfl
    · by_cases e2 : 2 = b
      · subst e2
        refine ⟨⟨2, 0, 0⟩, by simp [θs], lt (h2 0 (by omega)), ?_⟩
        show BRel Tryz.prog (θs e) W.heap.size W ⟨2, 0, 0⟩ (.cells true true 256 spaceC)
        refine ⟨by decide, fun i hi => ⟨.int .u8 (spaceZ.getD i 0), ?_, by simpa [Loc.addr] using h2 i hi⟩, fun h => by cases h⟩
        rw [isI_ok (List.all_eq_true.1 spaceAll i (List.mem_range.2 hi))]
        rfl
      · by_cases e0 : 0 = b
        · subst e0
          refine ⟨⟨0, 0, 0⟩, by simp [θs], lt (h0 0 (by omega)), ?_⟩
          show BRel Tryz.prog (θs e) W.heap.size W ⟨0, 0, 0⟩ (.cells true true 2 doneC)
          refine ⟨by decide, fun i hi => ⟨.int .i64 (doneZ.getD i 0), ?_, by simpa [Loc.addr] using h0 i hi⟩, fun h => by cases h⟩
          rw [isI_ok (List.all_eq_true.1 doneAll i (List.mem_range.2 hi))]
          rfl
        · simp [setB, e1, e2, e0] at hb
  · have id : ∀ {b : Nat} {l : Loc}, (θs e).blk b = some l → l.blk = b := fun {b l} h => by
      by_cases h8 : b < 8
      · simp [θs, h8] at h; rw [← h]
      · simp [θs, h8] at h
    rw [← id hl, ← id hl', eb]

theorem parse_all (r : Nat) (h : r ≤ 255) : parseR r (if r = 0 then 0 else 1) (if r = 0 then 0 else 255) = true := by
  by_cases h0 : r = 0
  · subst h0
    exact parse_0
  · rw [if_neg h0, if_neg h0]
    rcases Nat.lt_or_ge r 65 with h1 | h1
    · obtain ⟨t, rfl⟩ : ∃ t, r = t + 1 := ⟨r - 1, by omega⟩
      exact pr1 t (by omega)
    · rcases Nat.lt_or_ge r 129 with h2 | h2
      · obtain ⟨t, rfl⟩ : ∃ t, r = t + 65 := ⟨r - 65, by omega⟩
        exact pr2 t (by omega)
      · rcases Nat.lt_or_ge r 193 with h3 | h3
        · obtain ⟨t, rfl⟩ : ∃ t, r = t + 129 := ⟨r - 129, by omega⟩
          exact pr3 t (by omega)
        · obtain ⟨t, rfl⟩ : ∃ t, r = t + 193 := ⟨r - 193, by omega⟩
          exact pr4 t (by omega)

/-- **THE WALK**: whatever the two numbers, from memory that holds what the package's variables hold: true, and nothing that was there has turned. -/
theorem gcRoom_calls {W : World} (hL : laidMetH Tryz.prog seatLaid W) (r e : Nat) (hr : r < 256) (he : e < 256) : Calls Tryz.prog 3 #[.int .u8 r, .int .u8 e] W fun e W' => e = .returned (.bool true) ∧ Below W.heap.size W W' := by
  obtain ⟨h0, h1, h2⟩ := of_laid hL
  exact callsIn_wide.1 (law3 he (by omega) (parse_all r (by omega)) (start_rel e h0 h1 h2) 0)
end Ev
