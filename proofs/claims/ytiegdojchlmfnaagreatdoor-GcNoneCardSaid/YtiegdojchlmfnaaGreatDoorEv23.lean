/- A part of the proof that GcNone returns true: text Ev23. -/
import Derived.Test.YtiegdojchlmfnaaGreatDoorEv22
namespace Ev
open Go
open Go.RowKit
noncomputable section

/-! ### Joins -/

abbrev Kont := List AV → Heap → Nat → Bool

def packT (C : List Nat) (env : List AV) : List AV := C.map fun t => env.getD t .bad

def clrT : List Nat → List AV → List AV
  | [], env => env
  | t :: D, env => clrT D (env.set t .bad)

def clrK : List Nat → List AV → (List AV → Bool) → Bool
  | [], env, k => k env
  | t :: D, env, k => setLK env t .bad fun env => clrK D env k

theorem clrK_eq : ∀ (D : List Nat) (env : List AV) (k : List AV → Bool), clrK D env k = k (clrT D env)
  | [], _, _ => rfl
  | t :: D, env, k => by rw [clrK, setLK_eq, clrK_eq D]; rfl

def unpL : List Nat → List AV → List AV → (List AV → Bool) → Bool
  | [], _, e, k => k e
  | t :: C, l, e, k => List.casesOn (motive := fun _ => Bool) l false fun x l => setLK e t x fun e => unpL C l e k

def unpT : List Nat → List AV → List AV → (List AV → Bool) → Bool
  | [], _, e, k => k e
  | t :: C, l, e, k => List.casesOn (motive := fun _ => Bool) l false fun x l => unpT C l (e.set t x) k

theorem unpL_eq : ∀ (C : List Nat) (l e : List AV) (k : List AV → Bool), unpL C l e k = unpT C l e k
  | [], _, _, _ => rfl
  | t :: C, [], _, _ => rfl
  | t :: C, x :: l, e, k => by
    show (setLK e t x fun e => unpL C l e k) = unpT C l (e.set t x) k
    rw [setLK_eq, unpL_eq C]

def meetK (C D : List Nat) (env : List AV) (kn : Kont) (body : Kont → Bool) : Bool :=
  joinP (fun l H n => clrK D env fun e => unpL C l e fun e => kn e H n) fun (j : List AV → Heap → Nat → Bool) => body fun env' H n => j (packT C env') H n

/-- Less is known. -/
structure Sub (e env : List AV) : Prop where
  len : e.length = env.length
  at_ : ∀ t, e.getD t .bad = .bad ∨ e.getD t .bad = env.getD t .bad

theorem clrT_ok {env' : List AV} {D0 : List Nat} : ∀ {D : List Nat} {env : List AV}, env.length = env'.length → (∀ t, t ∉ D → env.getD t .bad = .bad ∨ env.getD t .bad = env'.getD t .bad) → (∀ t, t ∉ D0 → env[t]? = env'[t]?) → (∀ t ∈ D, t ∈ D0) →
    Sub (clrT D env) env' ∧ ∀ t, t ∉ D0 → (clrT D env)[t]? = env'[t]?
  | [], env, hl, h, h0, _ => ⟨⟨hl, fun t => h t (by simp)⟩, h0⟩
  | d :: D, env, hl, h, h0, hs => by
    refine clrT_ok (D := D) (by simpa using hl) (fun t ht => ?_) (fun t ht => ?_) (fun t ht => hs t (by simp [ht]))
    · simp only [List.getD_eq_getElem?_getD, List.getElem?_set]
      by_cases e : d = t
      · subst e
        left
        by_cases hlt : d < env.length
        · simp [hlt]
        · simp [hlt]
      · simp only [if_neg e]
        have := h t (by simp [Ne.symm e, ht])
        simpa only [List.getD_eq_getElem?_getD] using this
    · have : d ≠ t := fun e => ht (e ▸ hs d (by simp))
      simp [List.getElem?_set, this, h0 t ht]

theorem unpT_ok {env' : List AV} {D0 : List Nat} {k : List AV → Bool} : ∀ {C : List Nat} {e : List AV}, unpT C (packT C env') e k = true → Sub e env' → (∀ t, t ∉ D0 → e[t]? = env'[t]?) →
    ∃ e', k e' = true ∧ Sub e' env' ∧ ∀ t, t ∉ D0 → e'[t]? = env'[t]?
  | [], e, h, hs, h0 => ⟨e, h, hs, h0⟩
  | c :: C, e, h, hs, h0 => by
    have h : unpT C (packT C env') (e.set c (env'.getD c .bad)) k = true := h
    refine unpT_ok h ⟨by simpa using hs.len, fun t => ?_⟩ (fun t ht => ?_)
    · simp only [List.getD_eq_getElem?_getD, List.getElem?_set]
      by_cases ec : c = t
      · subst ec
        right
        by_cases hlt : c < e.length
        · simp [hlt]
        · have : ¬ c < env'.length := by rw [← hs.len]; exact hlt
          simp [hlt, List.getElem?_eq_none (Nat.le_of_not_lt this)]
      · simp only [if_neg ec]
        have := hs.at_ t
        simpa only [List.getD_eq_getElem?_getD] using this
    · simp only [List.getElem?_set]
      by_cases ec : c = t
      · subst ec
        have hl := hs.len
        by_cases hlt : c < e.length
        · have : c < env'.length := by omega
          simp [hlt, List.getElem?_eq_getElem this]
        · simp [hlt, List.getElem?_eq_none (show env'.length ≤ c by omega)]
      · simp [ec, h0 t ht]

theorem Now.sub {P : Program} {S : Start} {env e : List AV} {H : Heap} {n : Nat} {a : Act} {w : World} {θ : Theta} (s : Now P S env H n a w θ) (h : Sub e env) : Now P S e H n a w θ :=
  ⟨s.low, s.went, s.glob, fun t => (h.at_ t).elim (fun hb => .inl hb) (fun hb => by rw [hb]; exact s.tmps t), by rw [h.len]; exact s.len, s.defs⟩

/-- Behind a join. -/
theorem join_ok {D : List Nat} {env env' : List AV} {C : List Nat} {k : List AV → Bool} (hag : Agree D env env') (h : unpT C (packT C env') (clrT D env) k = true) : ∃ e, k e = true ∧ Sub e env' ∧ Agree D env e := by
  obtain ⟨hc1, hc2⟩ := clrT_ok (env' := env') (D0 := D) (D := D) (env := env) hag.1.symm (fun t ht => by right; simp only [List.getD_eq_getElem?_getD, hag.2 t ht]) (fun t ht => (hag.2 t ht).symm) (fun t ht => ht)
  obtain ⟨e, hk, hs, h0⟩ := unpT_ok h hc1 hc2
  exact ⟨e, hk, hs, by rw [hs.len, hag.1], fun t ht => by rw [h0 t ht, hag.2 t ht]⟩

/-! ### Loops -/

def iterN (j : Nat) (step : (List AV → Heap → Nat → Bool) → List AV → Heap → Nat → Bool) : List AV → Heap → Nat → Bool :=
  Nat.rec (motive := fun _ => List AV → Heap → Nat → Bool) (fun _ _ _ => false) (fun _ ih => step ih) j

theorem iterN_succ (j : Nat) (step : (List AV → Heap → Nat → Bool) → List AV → Heap → Nat → Bool) (l : List AV) (H : Heap) (n : Nat) : iterN (j + 1) step l H n = step (iterN j step) l H n := rfl

def loopK (N : Nat) (C D : List Nat) (env : List AV) (H : Heap) (n : Nat) (body : List AV → Heap → Nat → Kont → Bool) : Bool :=
  iterN N (fun ih l H n => clrK D env fun e => unpL C l e fun e => body e H n fun env' H n => ih (packT C env') H n) (packT C env) H n

/-- A loop, round by round, of which no more than so many are asked. -/
theorem wpIn_loop_fuel {F : Fence} {n : Nat} {P : Program} {c : Code} {Q : Exit → Act → World → Prop} (I : Nat → Act → World → Prop) (h0 : ∀ a w, ¬ I 0 a w)
    (round : ∀ j a w, I (j + 1) a w → c.wpIn F n P (Exit.then (I j) Q) a w) {j : Nat} {a : Act} {w : World} (h : I j a w) : (Code.loop c).wpIn F n P Q a w := by
  have least : ∀ a w, (∃ j, I j a w) → ∃ j, I j a w ∧ ∀ i, I i a w → j ≤ i := by
    intro a w ⟨j, hj⟩
    induction j using Nat.strongRecOn with
    | ind j ih =>
      by_cases hex : ∃ i, i < j ∧ I i a w
      · obtain ⟨i, hi, hI⟩ := hex
        exact ih i hi hI
      · exact ⟨j, hj, fun i hi => Nat.le_of_not_lt fun hlt => hex ⟨i, hlt, hi⟩⟩
  let μ : Act → World → Nat := fun a w => open Classical in if h : ∃ j, I j a w then Classical.choose (least a w h) else 0
  have hμ : ∀ a w j, I j a w → I (μ a w) a w ∧ μ a w ≤ j := by
    intro a w j hj
    have hex : ∃ j, I j a w := ⟨j, hj⟩
    have hspec := Classical.choose_spec (least a w hex)
    have e : μ a w = Classical.choose (least a w hex) := dif_pos hex
    rw [e]
    exact ⟨hspec.1, hspec.2 j hj⟩
  refine wpIn_loop (fun a w => ∃ j, I j a w) μ ⟨j, h⟩ fun a w ⟨j, hj⟩ => ?_
  obtain ⟨h1, _⟩ := hμ a w j hj
  cases hm : μ a w with
  | zero => rw [hm] at h1; exact absurd h1 (h0 a w)
  | succ i =>
    rw [hm] at h1
    refine wpIn_mono (round i a w h1) fun e a' w' q => ?_
    cases e with
    | normal => exact ⟨⟨i, q⟩, Nat.lt_succ_of_le (hμ a' w' i q).2⟩
    | _ => exact q

/-- So many rounds of a loop. -/
def Chain (F : Fence) (m : Nat) (P : Program) (c : Code) (Q : Exit → Act → World → Prop) : Nat → Act → World → Prop
  | 0, _, _ => False
  | j + 1, a, w => c.wpIn F m P (Exit.then (Chain F m P c Q j) Q) a w

theorem wpIn_chain {F : Fence} {m : Nat} {P : Program} {c : Code} {Q : Exit → Act → World → Prop} {j : Nat} {a : Act} {w : World} (h : Chain F m P c Q j a w) : (Code.loop c).wpIn F m P Q a w :=
  wpIn_loop_fuel (Chain F m P c Q) (fun _ _ h => h) (fun _ _ _ h => h) h

end
end Ev
