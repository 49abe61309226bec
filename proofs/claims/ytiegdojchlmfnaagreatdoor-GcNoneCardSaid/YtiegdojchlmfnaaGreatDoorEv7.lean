/- A part of the proof that GcNone returns true: text Ev7. -/
import Derived.Test.YtiegdojchlmfnaaGreatDoorEv6
import Derived.WalkSpells
namespace Ev
open Go
open Go.RowKit
noncomputable section

/-! ### Comparing with nil, bools, structs of integers -/

/-- Which offsets of a struct of integers are compared. -/
def intOffs (P : Program) : List Field → Option (List Nat)
  | [] => some []
  | f :: fs =>
    match intOffs P fs with
    | none => none
    | some l => if f.name ≠ "_" then (match P.underlying f.type with | some (.int _) => some (f.offset :: l) | _ => none) else some l

def eqOffs : List Nat → List AV → List AV → (Bool → Bool) → Bool
  | [], _, _, k => k true
  | i :: is, l, m, k => nthK i l fun a => nthK i m fun b => a.ckInts b fun _ x y => Bool.rec (k false) (eqOffs is l m k) (eqZ x y)

theorem eqOffs_fields {P : Program} (d : Nat) {k : Bool → Bool} : ∀ {fs : List Field} {is : List Nat} {l m : List AV}, intOffs P fs = some is → eqOffs is l m k = true →
    ∃ r, k r = true ∧ ∀ (θ : Theta) (xs ys : List Value) (w : World), concs θ l = some xs → concs θ m = some ys → (Op.eqFields (d + 1) xs.toArray ys.toArray fs).run P w = .ok r w
  | [], is, l, m, hi, h => by
    simp only [intOffs, Option.some.injEq] at hi
    subst hi
    exact ⟨true, h, fun θ xs ys w _ _ => by simp [Op.eqFields]⟩
  | f :: fs, is, l, m, hi, h => by
    simp only [intOffs] at hi
    split at hi
    · cases hi
    · rename_i is' his
      split at hi
      · rename_i hn
        split at hi
        · rename_i kd hu
          injection hi with hi
          subst hi
          simp only [eqOffs] at h
          obtain ⟨a, ha, h⟩ := nthK_iff.1 h
          obtain ⟨b, hb, h⟩ := nthK_iff.1 h
          obtain ⟨kd', x, y, ea, eb, h3⟩ := ckInts_iff h
          clear h
          subst ea eb
          have hagg : isAggT P f.type = some false := by simp [isAggT, hu]
          have step : ∀ (θ : Theta) (xs ys : List Value) (w : World), concs θ l = some xs → concs θ m = some ys →
              (Op.eqFields (d + 1) xs.toArray ys.toArray (f :: fs)).run P w = if (x == y) = true then (Op.eqFields (d + 1) xs.toArray ys.toArray fs).run P w else .ok false w := by
            intro θ xs ys w hx hy
            obtain ⟨v, hv, hc⟩ := concs_getElem hx ha
            obtain ⟨u, hu', hc'⟩ := concs_getElem hy hb
            simp only [Ev.conc, Option.some.injEq] at hc hc'
            subst hc hc'
            have p1 : (part f.type xs.toArray f.offset).run P w = .ok (.int kd' x) w := by simp [part, run_isAggT hagg, hv]
            have p2 : (part f.type ys.toArray f.offset).run P w = .ok (.int kd' y) w := by simp [part, run_isAggT hagg, hu']
            simp only [Op.eqFields, if_pos hn, Sem.run_bind, p1, p2, Result.andThen_ok, run_equalIn_int w d f.type kd' kd x y hu]
            cases hxy : (x == y) <;> simp
          rw [eqZ_eq] at h3
          cases hxy : (x == y) with
          | false =>
            simp only [hxy] at h3
            exact ⟨false, h3, fun θ xs ys w hx hy => by rw [step θ xs ys w hx hy, hxy]; simp⟩
          | true =>
            simp only [hxy] at h3
            obtain ⟨r, hk, hr⟩ := eqOffs_fields d his h3
            exact ⟨r, hk, fun θ xs ys w hx hy => by rw [step θ xs ys w hx hy, hxy, if_pos rfl]; exact hr θ xs ys w hx hy⟩
        · cases hi
      · rename_i hn
        injection hi with hi
        subst hi
        obtain ⟨r, hk, hr⟩ := eqOffs_fields d his h
        exact ⟨r, hk, fun θ xs ys w hx hy => by simp only [Op.eqFields, if_neg hn]; exact hr θ xs ys w hx hy⟩

theorem eqOffs_items {P : Program} (d : Nat) {e : TypeId} {kd : IntKind} (hu : P.underlying e = some (.int kd)) (hc : P.cellsOf e = 1) {k : Bool → Bool} :
    ∀ {is : List Nat} {l m : List AV}, eqOffs is l m k = true →
    ∃ r, k r = true ∧ ∀ (θ : Theta) (xs ys : List Value) (w : World), concs θ l = some xs → concs θ m = some ys → (Op.eqItems (d + 1) e (P.cellsOf e) xs.toArray ys.toArray is).run P w = .ok r w
  | [], l, m, h => ⟨true, h, fun θ xs ys w _ _ => by simp [Op.eqItems]⟩
  | i :: is, l, m, h => by
    simp only [eqOffs] at h
    obtain ⟨a, ha, h⟩ := nthK_iff.1 h
    obtain ⟨b, hb, h⟩ := nthK_iff.1 h
    obtain ⟨kd', x, y, ea, eb, h3⟩ := ckInts_iff h
    clear h
    subst ea eb
    have hagg : isAggT P e = some false := by simp [isAggT, hu]
    have step : ∀ (θ : Theta) (xs ys : List Value) (w : World), concs θ l = some xs → concs θ m = some ys →
        (Op.eqItems (d + 1) e (P.cellsOf e) xs.toArray ys.toArray (i :: is)).run P w = if (x == y) = true then (Op.eqItems (d + 1) e (P.cellsOf e) xs.toArray ys.toArray is).run P w else .ok false w := by
      intro θ xs ys w hx hy
      obtain ⟨v, hv, hc1⟩ := concs_getElem hx ha
      obtain ⟨u, hu', hc2⟩ := concs_getElem hy hb
      simp only [Ev.conc, Option.some.injEq] at hc1 hc2
      subst hc1 hc2
      have p1 : (part e xs.toArray i).run P w = .ok (.int kd' x) w := by simp [part, run_isAggT hagg, hv]
      have p2 : (part e ys.toArray i).run P w = .ok (.int kd' y) w := by simp [part, run_isAggT hagg, hu']
      simp only [Op.eqItems, hc, Nat.mul_one, Sem.run_bind, p1, p2, Result.andThen_ok, run_equalIn_int w d e kd' kd x y hu]
      cases hxy : (x == y) <;> simp
    rw [eqZ_eq] at h3
    cases hxy : (x == y) with
    | false =>
      simp only [hxy] at h3
      exact ⟨false, h3, fun θ xs ys w hx hy => by rw [step θ xs ys w hx hy, hxy]; simp⟩
    | true =>
      simp only [hxy] at h3
      obtain ⟨r, hk, hr⟩ := eqOffs_items d hu hc h3
      exact ⟨r, hk, fun θ xs ys w hx hy => by rw [step θ xs ys w hx hy, hxy, if_pos rfl]; exact hr θ xs ys w hx hy⟩

/-- What is compared where two aggregates of a type of integers are. -/
def aggOffs (P : Program) (t : Nat) : Option (List Nat) :=
  match P.underlying t with
  | some (.struct fields) => if P.stoodInHeld t then none else intOffs P fields.toList
  | some (.array n e) => (match P.underlying e with | some (.int _) => if P.cellsOf e = 1 then some (List.range n) else none | _ => none)
  | _ => none

theorem agg_equal {P : Program} {t : Nat} {is : List Nat} (ha : aggOffs P t = some is) {k : Bool → Bool} {l m : List AV} (h : eqOffs is l m k = true) (d : Nat) :
    ∃ r, k r = true ∧ ∀ (θ : Theta) (xs ys : List Value) (w : World), concs θ l = some xs → concs θ m = some ys → (Op.equalIn (d + 2) t (.agg xs.toArray) (.agg ys.toArray)).run P w = .ok r w := by
  unfold aggOffs at ha
  split at ha
  · rename_i fields hu
    split at ha
    · cases ha
    · rename_i hs
      have hs : P.stoodInHeld t = false := by simpa using hs
      obtain ⟨r, hk, hr⟩ := eqOffs_fields d ha h
      have hf : P.underlying t = some (.struct (P.fieldsOf t)) := by rw [hu]; simp [Program.fieldsOf, hu]
      have hf' : P.fieldsOf t = fields := by simp [Program.fieldsOf, hu]
      exact ⟨r, hk, fun θ xs ys w hx hy => by rw [run_equalIn_struct w (d + 1) t _ _ hf hs, hf']; exact hr θ xs ys w hx hy⟩
  · rename_i n e hu
    split at ha
    · rename_i kd hue
      split at ha
      · rename_i hc
        injection ha with ha
        subst ha
        obtain ⟨r, hk, hr⟩ := eqOffs_items d hue hc h
        obtain ⟨i, hi, _⟩ := info_of_cells (P := P) (t := e) (by omega)
        exact ⟨r, hk, fun θ xs ys w hx hy => by rw [run_equalIn_array w (d + 1) _ _ hu hi]; exact hr θ xs ys w hx hy⟩
      · cases ha
    · cases ha
  · cases ha

end
end Ev
