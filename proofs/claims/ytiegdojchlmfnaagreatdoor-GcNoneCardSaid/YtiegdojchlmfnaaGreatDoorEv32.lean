/- A part of the proof that GcNone returns true: text Ev32. -/
import Derived.Test.YtiegdojchlmfnaaGreatDoorEv31
namespace Ev
open Go
open Go.RowKit
noncomputable section

/-! ### What is looked at again behind a region that draws its order -/

def Blk.ckDead (b : Blk) (y : Bool) : Bool := Blk.casesOn (motive := fun _ => Bool) b y (fun _ _ _ _ => false) (fun _ _ => false) (fun _ _ _ _ => false) (fun _ _ _ => false) false
theorem ckDead_iff {b : Blk} {y : Bool} : b.ckDead y = true ↔ b = .dead ∧ y = true := by cases b <;> simp [Blk.ckDead]

def jsOf (ms hv : List Nat) (i ver : Nat) : List Nat := (List.range (hv.length + 1)).filter fun j => cond (Nat.beq j ver) false (allowed ms hv i j)

def dsOf (ms hv : List Nat) (a : Nat) : List Nat := (List.range hv.length).filter fun j => cond (free ms a (hv.take (j + 1))) (!anc ms (hv.getD j 0) a) false

def rechk (P : Program) (ms hv : List Nat) (R : List Row) (V : List (Heap × Nat)) (i : Nat) (o : Oper) (r : Row) : List Nat → Bool → Bool
  | [], y => y
  | j :: js, y => match V[j]? with
    | some (H, _) => layH (exs (keepAt ms hv i j) 0 R) H fun H1 => readOp P r.env o H1 fun v => ifB (sameF 8 v r.v) (rechk P ms hv R V i o r js y)
    | none => false

def deadK (V : List (Heap × Nat)) (id : Nat) : List Nat → Bool → Bool
  | [], y => y
  | j :: js, y => match V[j + 1]? with
    | some (H, _) => at_ H id fun b => b.ckDead (deadK V id js y)
    | none => false

def chkRow (P : Program) (ops : Array Oper) (ms hv : List Nat) (R : List Row) (V : List (Heap × Nat)) (i : Nat) (o : Oper) (r : Row) (y : Bool) : Bool :=
  sel3 (cls P o) y
    (match jsOf ms hv i r.ver with
    | [] => y
    | j :: js => gdK ops r.env o (fun (k : Nat → Bool) => rechk P ms hv R V i o r (j :: js) (k 0)) (fun k => k 0) (fun _ => y))
    (deadK V r.id (dsOf ms hv i) y) y

def chkAll (P : Program) (ops : Array Oper) (ms hv : List Nat) (R : List Row) (V : List (Heap × Nat)) : List Oper → List Row → Nat → Bool → Bool
  | o :: l, r :: rs, i, y => chkRow P ops ms hv R V i o r (chkAll P ops ms hv R V l rs (i + 1) y)
  | _, _, _, y => y

def finD (P : Program) (ops : Array Oper) (ms : List Nat) (kn : Kont) (env : List AV) (R : List Row) (V : List (Heap × Nat)) (hv : List Nat) : Bool :=
  chkAll P ops ms hv R V ops.toList R 0 (match V[hv.length]? with
    | some (H, n) => layH (exs (fun x => free ms x hv) 0 R) H fun H => kn env H n
    | none => false)

def msK : List Oper → List Nat → (List Nat → Bool) → Bool
  | [], ms, k => k ms
  | o :: l, ms, k => forceS (ancM ms o.after.toList) fun x => snocK ms x fun ms => msK l ms k

theorem msK_eq : ∀ {l : List Oper} {ms : List Nat} {k : List Nat → Bool}, msK l ms k = k (mkMs l ms)
  | [], _, _ => rfl
  | o :: l, ms, k => by rw [msK, forceS_eq, snocK_eq, msK_eq (l := l), mkMs]

def addK (n c : Nat) (k : Nat → Bool) : Bool := match c with | 0 => k n | c + 1 => forceN (Nat.add n (c + 1)) k
theorem addK_eq {n c : Nat} {k : Nat → Bool} : addK n c k = k (n + c) := by cases c <;> simp [addK, forceN_eq]

def evDraw (P : Program) (F G : Orac) (ops : Array Oper) (kn : Kont) (env : List AV) (H : Heap) (n : Nat) : Bool :=
  ifS (P.follows .mixedOrders) (msK ops.toList [] fun ms => ifS (regOK P ops ms) (addK n (cntA P ops.toList) fun n1 => evD P F G ops ms n (finD P ops ms kn) ops.toList 0 0 env [] [] H n1 []))

section
variable {P : Program} {ops : Array Oper} {ms hv : List Nat} {R : List Row} {V : List (Heap × Nat)}

theorem rechk_ok {i : Nat} {o : Oper} {r : Row} : ∀ {js : List Nat} {y : Bool}, rechk P ms hv R V i o r js y = true → y = true ∧ ∀ j ∈ js, ∃ H n, V[j]? = some (H, n) ∧ ReadSpec P r.env o (layP (exs (keepAt ms hv i j) 0 R) H) r.v
  | [], y, h => ⟨h, fun j hj => by simp at hj⟩
  | j :: js, y, h => by
    rw [rechk] at h
    split at h
    · rename_i H n hV
      rw [layH_eq] at h
      obtain ⟨v, h, hs⟩ := readOp_ok h
      obtain ⟨h1, h2⟩ := ifB_iff.1 h
      rw [sameF_ok h1] at hs
      obtain ⟨hy, hall⟩ := rechk_ok h2
      refine ⟨hy, fun j' hj' => ?_⟩
      rcases List.mem_cons.1 hj' with rfl | hj'
      · exact ⟨H, n, hV, hs⟩
      · exact hall j' hj'
    · cases h

theorem deadK_ok {id : Nat} : ∀ {js : List Nat} {y : Bool}, deadK V id js y = true → y = true ∧ ∀ j ∈ js, ∃ H n, V[j + 1]? = some (H, n) ∧ hfn H id = .dead
  | [], y, h => ⟨h, fun j hj => by simp at hj⟩
  | j :: js, y, h => by
    rw [deadK] at h
    split at h
    · rename_i H n hV
      obtain ⟨_, h⟩ := at_iff.1 h
      obtain ⟨hd, h⟩ := ckDead_iff.1 h
      obtain ⟨hy, hall⟩ := deadK_ok h
      refine ⟨hy, fun j' hj' => ?_⟩
      rcases List.mem_cons.1 hj' with rfl | hj'
      · exact ⟨H, n, hV, hd⟩
      · exact hall j' hj'
    · cases h

/-- What has been looked at again of a row. -/
def Again (P : Program) (ops : Array Oper) (ms hv : List Nat) (R : List Row) (V : List (Heap × Nat)) (i : Nat) (o : Oper) (r : Row) : Prop :=
  (cls P o = 1 → GW ops r.env o false ∨ ∀ j, j < hv.length + 1 → j ≠ r.ver → allowed ms hv i j = true → ∃ H n, V[j]? = some (H, n) ∧ ReadSpec P r.env o (layP (exs (keepAt ms hv i j) 0 R) H) r.v) ∧
  (cls P o = 2 → ∀ j, j < hv.length → free ms i (hv.take (j + 1)) = true → anc ms (hv.getD j 0) i = false → ∃ H n, V[j + 1]? = some (H, n) ∧ hfn H r.id = .dead)

theorem chkRow_ok {i : Nat} {o : Oper} {r : Row} {y : Bool} (h : chkRow P ops ms hv R V i o r y = true) : y = true ∧ Again P ops ms hv R V i o r := by
  have mem : ∀ {j}, j < hv.length + 1 → j ≠ r.ver → allowed ms hv i j = true → j ∈ jsOf ms hv i r.ver := fun {j} h1 h2 h3 => by
    unfold jsOf
    refine List.mem_filter.2 ⟨List.mem_range.2 h1, ?_⟩
    have : Nat.beq j r.ver = false := by
      cases hb : Nat.beq j r.ver with
      | false => rfl
      | true => exact absurd (Nat.eq_of_beq_eq_true hb) h2
    rw [this]; exact h3
  unfold chkRow at h
  rw [sel3_eq'] at h
  unfold Again
  split at h
  · rename_i hc
    rw [hc]
    split at h
    · rename_i hj
      refine ⟨h, fun _ => .inr fun j h1 h2 h3 => ?_, fun e => by cases e⟩
      have := mem h1 h2 h3
      rw [hj] at this; simp at this
    · rename_i j0 js hj
      rcases gdK_ok h with ⟨hg, h⟩ | ⟨hg, h⟩
      · obtain ⟨hy, hall⟩ := rechk_ok h
        exact ⟨hy, fun _ => .inr fun j h1 h2 h3 => hall j (hj ▸ mem h1 h2 h3), fun e => by cases e⟩
      · exact ⟨h, fun _ => .inl hg, fun e => by cases e⟩
  · rename_i hc
    rw [hc]
    obtain ⟨hy, hall⟩ := deadK_ok h
    refine ⟨hy, fun e => (by cases e), fun _ j h1 h2 h3 => hall j ?_⟩
    unfold dsOf
    refine List.mem_filter.2 ⟨List.mem_range.2 h1, ?_⟩
    rw [h2, h3]; rfl
  · rename_i h1 h2
    exact ⟨h, fun e => absurd e h1, fun e => absurd e h2⟩

theorem chkAll_ok : ∀ {l : List Oper} {rs : List Row} {i : Nat} {y : Bool}, chkAll P ops ms hv R V l rs i y = true → y = true ∧ ∀ j o r, l[j]? = some o → rs[j]? = some r → Again P ops ms hv R V (i + j) o r
  | [], rs, i, y, h => ⟨by simpa [chkAll] using h, fun j o r hj => by simp at hj⟩
  | o :: l, [], i, y, h => ⟨by simpa [chkAll] using h, fun j o r _ hj => by simp at hj⟩
  | o :: l, r :: rs, i, y, h => by
    rw [chkAll] at h
    obtain ⟨h1, h2⟩ := chkRow_ok h
    obtain ⟨hy, hall⟩ := chkAll_ok h1
    refine ⟨hy, fun j o' r' hj hj' => ?_⟩
    cases j with
    | zero => simp at hj hj'; subst hj; subst hj'; exact h2
    | succ j =>
      have := hall j o' r' (by simpa using hj) (by simpa using hj')
      rwa [show i + 1 + j = i + (j + 1) from by omega] at this

end

theorem EnvAt.agree {ops : Array Oper} {env0 env' : List AV} {R : List Row} (h : EnvAt ops env0 R ops.size env') : Agree (asgOps ops.toList) env0 env' := by
  refine ⟨h.len, fun t ht => ?_⟩
  have := h.old t fun j o _ ho hd => ht (List.mem_filterMap.2 ⟨o, List.mem_of_getElem? (i := j) (by simpa using ho), hd⟩)
  rcases Nat.lt_or_ge t env0.length with hlt | hge
  · have hlt' : t < env'.length := by rw [h.len]; exact hlt
    rw [List.getD_eq_getElem?_getD, List.getD_eq_getElem?_getD, List.getElem?_eq_getElem hlt, List.getElem?_eq_getElem hlt'] at this
    rw [List.getElem?_eq_getElem hlt, List.getElem?_eq_getElem hlt']
    simpa using this
  · rw [List.getElem?_eq_none hge, List.getElem?_eq_none (by rw [h.len]; exact hge)]

theorem evDraw_ok {t : Bool} {P : Program} {F G : Orac} (hF : CallSound P F) (hG : RoundSound P G) {id : Nat} {ops : Array Oper} {kn : Kont} {env : List AV} {H : Heap} {n : Nat} (h : evDraw P F G ops kn env H n = true) :
    ∃ env' H' n', kn env' H' n' = true ∧ Agree (asgOps ops.toList) env env' ∧ CodeGoes t P (.region id ops true) env H n env' H' n' := by
  unfold evDraw at h
  simp only [ifS_eq] at h
  obtain ⟨hm, h⟩ := ifB_iff.1 h
  rw [msK_eq] at h
  obtain ⟨hreg, h⟩ := ifB_iff.1 h
  have g := regOK_iff hreg
  rw [addK_eq] at h
  have h0 : EnvAt ops env [] 0 env := ⟨rfl, fun j o r t hj => by omega, fun t _ => rfl⟩
  obtain ⟨env', R, V2, hv, h, hR, hV, he, tl⟩ := evD_ok hF hG g (l := ops.toList) (R := []) (V := []) (hv := []) (fun j => by simp) rfl h0 h
  simp only [List.nil_append, List.length_nil, Nat.zero_add, Nat.add_zero] at h he tl
  have hsz : ops.toList.length = ops.size := by simp
  rw [hsz] at he hR
  unfold finD at h
  obtain ⟨h, hagain⟩ := chkAll_ok h
  split at h
  · rename_i Hm nm hVm
    rw [layH_eq] at h
    have again : ∀ i o r, ops[i]? = some o → R[i]? = some r → Again P ops (mkMs ops.toList []) hv R ((H, n + cntA P ops.toList) :: V2) i o r := fun i o r ho hr => by
      have := hagain i o r (by simpa using ho) hr
      rwa [Nat.zero_add] at this
    have hhv : ∀ k q, hv[k]? = some q → ∃ o, ops[q]? = some o ∧ 3 ≤ cls P o := fun k q hq => (tl.hvc k q (Nat.zero_le _) hq).2
    have good : Good P ops (mkMs ops.toList []) env H n (n + cntA P ops.toList) R ((H, n + cntA P ops.toList) :: V2) hv := by
      refine ⟨g, Nat.le_add_right _ _, ⟨fun a r b hr hb => ?_, fun a a' r r' b b' hr hr' hb hb' e => ?_⟩, hR, fun i r hr => tl.env i r (Nat.zero_le _) hr, fun i o r ho hr => ?_, hhv, fun k l q q' hkl hq hq' => tl.hvo k l q q' (Nat.zero_le _) hkl hq hq', rfl, by simp [hV], ?_⟩
      · exact tl.ids a r b (Nat.zero_le _) hr hb
      · rcases Nat.lt_or_ge a a' with hlt | hge
        · have := tl.inc a a' r r' b b' (Nat.zero_le _) hlt hr hr' hb hb'; omega
        · rcases Nat.lt_or_ge a' a with hlt | hge'
          · have := tl.inc a' a r' r b' b (Nat.zero_le _) hlt hr' hr hb' hb; omega
          · omega
      · cases tl.step i o r (Nat.zero_le _) ho hr with
        | pure hc hb hg hs => exact .pure (by omega) hb hg hs
        | read hc hb hg H1 n1 hV1 hs =>
          rcases (again i o r ho hr).1 hc with hf | hall
          · exfalso
            unfold GW at hg hf
            split at hg
            · simp only [*] at hf; cases hf
            · rename_i j want hgd
              simp only [hgd] at hf
              rcases hg with ⟨b, hb1, hb2⟩ | ⟨hc0, _⟩
              · rcases hf with ⟨b', hb1', hb2'⟩ | ⟨_, l, hb1'⟩
                · rw [hb1] at hb1'; injection hb1' with hb1'; subst hb1'
                  rw [hb2] at hb2'; cases hb2'
                · rw [hb1] at hb1'; cases hb1'
              · cases hc0
          · refine .read (by omega) hb hg fun j H2 n2 hV2 ha => ?_
            by_cases e : j = r.ver
            · subst e
              rw [hV1] at hV2; injection hV2 with hV2; injection hV2 with e1 _; subst e1
              exact hs
            · have hj : j < hv.length + 1 := by
                rcases Nat.lt_or_ge j (hv.length + 1) with h' | h'
                · exact h'
                · rw [List.getElem?_eq_none (by simp [hV]; omega)] at hV2; cases hV2
              obtain ⟨H3, n3, hV3, hs3⟩ := hall j hj e ha
              rw [hV2] at hV3; injection hV3 with hV3; injection hV3 with e1 _; subst e1
              exact hs3
        | alloc hc b hb hg hs => exact .alloc (by omega) b hb hg hs
        | skip hc hb hg hv => exact .skip hc (fun b h => (hb b h).1) hg hv
        | heavy k H1 n1 H2 n2 hk hV1 hV2 hb hg hs => exact .heavy k H1 n1 H2 n2 hk hV1 hV2 hb hg hs
        | skipH k H1 n1 hk hV1 hV2 hb hg hv => exact .skipH k H1 n1 hk hV1 hV2 hb hg hv
      · intro a r b j q H1 n1 hr hb hq hV1 hfree hanc
        have ha : a < ops.size := by
          rcases Nat.lt_or_ge a ops.size with h' | h'
          · exact h'
          · rw [List.getElem?_eq_none (by rw [hR]; exact h')] at hr; cases hr
        have ho : ops[a]? = some ops[a] := by simp [ha]
        have hj : j < hv.length := by
          rcases Nat.lt_or_ge j hv.length with h' | h'
          · exact h'
          · rw [List.getElem?_eq_none h'] at hq; cases hq
        have two : cls P ops[a] = 2 := by
          cases tl.step a _ r (Nat.zero_le _) ho hr with
          | pure hc hb' => rw [hb'] at hb; cases hb
          | read hc hb' => rw [hb'] at hb; cases hb
          | alloc hc b' hb' => exact hc
          | skip hc hb' hg hv => exact (hb' b hb).2
          | heavy k H1 n1 H2 n2 hk hV1 hV2 hb' => rw [hb'] at hb; cases hb
          | skipH k H1 n1 hk hV1 hV2 hb' => rw [hb'] at hb; cases hb
        obtain ⟨H2, n2, hV2, hd⟩ := (again a _ r ho hr).2 two j hj hfree (by rw [List.getD_eq_getElem?_getD, hq]; exact hanc)
        rw [hV1] at hV2; injection hV2 with hV2; injection hV2 with e1 _; subst e1
        exact hd
    exact ⟨env', _, nm, h, he.agree, good.goes hm he hVm id⟩
  · cases h

end
end Ev
