/- A part of the proof that GcNone returns true: text Ev18. -/
import Derived.Test.YtiegdojchlmfnaaGreatDoorEv17
import Derived.Maps.RangeRun
namespace Ev
open Go
open Go.RowKit
noncomputable section

/-! ### copy and clear -/

def copyK (sz : Nat) (H : Heap) (b o dl b2 o2 sl : Nat) (k : AV → Heap → Bool) : Bool :=
  forceN (Bool.rec dl sl (Nat.ble sl dl)) fun m => at_ H b2 fun bl => bl.ckCells fun _ _ blen c => ifB (Nat.ble (Nat.add o2 (Nat.mul m sz)) blen)
    (c.rowK (Nat.mul m sz) o2 fun l => writeK H b o l fun H => k (.int .i64 (.ofNat m)) H)

def copyE (P : Program) (t : Nat) (H : Heap) (d x : AV) (k : AV → Heap → Bool) : Bool :=
  match P.underlying t with
  | some (.slice e) => if (P.info? e).isSome then
      x.ckSl (d.ckSl (k (.int .i64 0) H) (fun _ _ _ _ => k (.int .i64 0) H) (fun _ _ _ _ => k (.int .i64 0) H))
        (fun b2 o2 sl _ => d.ckSl (k (.int .i64 0) H) (fun b o dl _ => copyK (P.cellsOf e) H b o dl b2 o2 sl k) (fun _ _ _ _ => k (.int .i64 0) H))
        (fun _ _ _ _ => d.ckSl (k (.int .i64 0) H) (fun _ _ _ _ => k (.int .i64 0) H) (fun _ _ _ _ => k (.int .i64 0) H))
    else false
  | _ => false

/-- What a slice of no elements looks like, and one of some. -/
def SlV (v : Value) (n : Nat) : Prop := (n = 0 ∧ v = .slice none 0 0) ∨ ∃ a c, v = .slice (some a) n c

theorem VR.sle_form {θ : Theta} {b o lo es : Nat} {v : Value} (h : VR θ (.sle b o lo es) v) : SlV v 0 := by
  have hcc := h.conc (by simp)
  simp only [Ev.conc, Option.map_eq_some_iff] at hcc
  obtain ⟨l, _, hcc⟩ := hcc
  right
  rw [← hcc]
  split <;> exact ⟨_, _, rfl⟩

theorem VR.sl_form {θ : Theta} {b o n : Nat} {c : Cap} {v : Value} (h : VR θ (.sl b o n c) v) : SlV v n := by
  obtain ⟨l, _, h⟩ := h.sl
  exact .inr ⟨_, _, h⟩

theorem VR.nils_form {θ : Theta} {v : Value} (h : VR θ .nils v) : SlV v 0 := .inl ⟨rfl, h.nils⟩

theorem run_copy_zero {P : Program} {t e ty : Nat} {i : TypeInfo} (hu : P.underlying t = some (.slice e)) (hi : P.info? e = some i) {ts : Array TypeId} (ht : ts[0]? = some t) {d x : Value} {n m : Nat} (hd : SlV d n) (hx : SlV x m) (h0 : n = 0 ∨ m = 0) (w : World) :
    (Builtin.copy_ ts ty #[d, x]).run P w = .ok (.int .i64 0) w := by
  have hmin : Nat.min m n = 0 := by show min m n = 0; omega
  rcases hd with ⟨rfl, rfl⟩ | ⟨a, c, rfl⟩ <;> rcases hx with ⟨rfl, rfl⟩ | ⟨a', c', rfl⟩ <;>
    simp [Builtin.copy_, ht, run_underlying hu, Builtin.lenOf, Builtin.firstCells, loadCells, loadCellsFrom, storeCells, goInt, Go.sizeOf, typeInfo, hi, hmin]

theorem heavy_copy {P : Program} {env : List AV} {o : Oper} {c : Call} {t : Nat} {d x : Operand} {H : Heap} {n : Nat} {k : AV → Heap → Bool} (ho : o.op = .call c) (hc : c.callee = .builtin .copy) (ha : c.args = #[d, x]) (ht : c.argTypes[0]? = some t)
    (h : copyE P t H (ev P env d) (ev P env x) k = true) : ∃ v H', k v H' = true ∧ HeavySpec P env o H n v H' n := by
  have hod : d ∈ o.op.operands := by simp [ho, Op.operands, Call.operands, hc, ha]
  have hox : x ∈ o.op.operands := by simp [ho, Op.operands, Call.operands, hc, ha]
  have run : ∀ (ac : Act) (w w' : World) (v : Value), (Builtin.copy_ c.argTypes o.type #[ac.eval d, ac.eval x]).run P w = .ok v w' → (execOp ac.eval o).run P w = .ok (.value v) w' := by
    intro ac w w' v hr
    simp [execOp, ho, resolve, hc, ha, invoke, builtin, hr]
  unfold copyE at h
  split at h
  · rename_i e hu
    split at h
    · rename_i hinf
      cases hi : P.info? e with
      | none => simp [hi] at hinf
      | some i =>
        have hsz : i.size = P.cellsOf e := by simp [Program.cellsOf, hi]
        have zero : k (.int .i64 0) H = true → (∀ θ ac, Opd P θ env o ac → ∃ n m, SlV (ac.eval d) n ∧ SlV (ac.eval x) m ∧ (n = 0 ∨ m = 0)) → ∃ v H', k v H' = true ∧ HeavySpec P env o H n v H' n := by
          intro hk hz
          refine ⟨_, _, hk, fun θ ac w B r f hB hO => ?_⟩
          obtain ⟨p, q, hd, hx, h0⟩ := hz θ ac hO
          exact ⟨.int .i64 0, w, θ, .inl (run ac w w _ (run_copy_zero hu hi ht hd hx h0 w)), Went.refl r f, .inr rfl⟩
        have fd : ∀ {θ ac}, Opd P θ env o ac → VR θ (ev P env d) (ac.eval d) := fun hO => hO.at hod
        have fx : ∀ {θ ac}, Opd P θ env o ac → VR θ (ev P env x) (ac.eval x) := fun hO => hO.at hox
        rcases ckSl_iff.1 h with ⟨hx, h⟩ | ⟨b2, o2, sl, cap2, hx, h⟩ | ⟨b2, o2, lo2, es2, hx, h⟩
        · rcases ckSl_iff.1 h with ⟨hd, h⟩ | ⟨b, q, dl, cap, hd, h⟩ | ⟨b, q, lo, es, hd, h⟩
          · exact zero h fun θ ac hO => ⟨_, _, (hd ▸ fd hO).nils_form, (hx ▸ fx hO).nils_form, .inr rfl⟩
          · exact zero h fun θ ac hO => ⟨_, _, (hd ▸ fd hO).sl_form, (hx ▸ fx hO).nils_form, .inr rfl⟩
          · exact zero h fun θ ac hO => ⟨_, _, (hd ▸ fd hO).sle_form, (hx ▸ fx hO).nils_form, .inr rfl⟩
        · rcases ckSl_iff.1 h with ⟨hd, h⟩ | ⟨b, q, dl, cap, hd, h⟩ | ⟨b, q, lo, es, hd, h⟩
          · exact zero h fun θ ac hO => ⟨_, _, (hd ▸ fd hO).nils_form, (hx ▸ fx hO).sl_form, .inl rfl⟩
          · unfold copyK at h
            rw [forceN_eq] at h
            obtain ⟨hb2, h⟩ := at_iff.1 h
            obtain ⟨ro, ex, blen, cs, hbl, h⟩ := ckCells_iff.1 h
            obtain ⟨hle, h⟩ := ifB_iff.1 h
            have hmin : (Bool.rec dl sl (Nat.ble sl dl) : Nat) = Nat.min sl dl := by
              show _ = min sl dl
              cases hb : Nat.ble sl dl with
              | true => have : sl ≤ dl := by simpa using hb
                        show sl = _; omega
              | false => have : ¬ sl ≤ dl := by intro e; have e2 := Nat.ble_eq_true_of_le e; rw [e2] at hb; cases hb
                         show dl = _; omega
            rw [hmin] at h hle
            have hle : o2 + Nat.min sl dl * P.cellsOf e ≤ blen := by simpa using hle
            obtain ⟨h1, h⟩ := rowK_ok h
            obtain ⟨bl, hb, h, _, _, hq⟩ := writeK_ok h
            refine ⟨_, _, h, fun θ ac w B r f hB hO => ?_⟩
            have vd := hd ▸ fd hO
            have vx := hx ▸ fx hO
            obtain ⟨ld, hld, vd⟩ := vd.sl
            obtain ⟨lx, hlx, vx⟩ := vx.sl
            have hr := r.at hlx
            rw [hbl] at hr
            obtain ⟨vs, g1, g2, g3⟩ := row_ok hr _ o2 hle
            obtain ⟨hst, hw⟩ := hq P θ n B w vs ld r f hld g1
            refine ⟨.int .i64 (Nat.min sl dl : Nat), _, θ, .inl (run ac w _ _ ?_), hw, .inr rfl⟩
            have hfc := run_firstCells_some (P := P) w (P.cellsOf e) (Nat.min sl dl) (lx.addr o2) sl (cap2.of lx o2) vs g2 (fun j u hj => by rw [Loc.addr_add]; exact g3 j u hj)
            simp only [Builtin.copy_, ht, vd, vx, List.getElem?_toArray, List.getElem?_cons_zero, List.getElem?_cons_succ, Sem.run_bind, run_underlying hu, Result.andThen_ok, Builtin.lenOf, Sem.run_pure, run_sizeOf w hi, hfc, hst, goInt]
          · exact zero h fun θ ac hO => ⟨_, _, (hd ▸ fd hO).sle_form, (hx ▸ fx hO).sl_form, .inl rfl⟩
        · rcases ckSl_iff.1 h with ⟨hd, h⟩ | ⟨b, q, dl, cap, hd, h⟩ | ⟨b, q, lo, es, hd, h⟩
          · exact zero h fun θ ac hO => ⟨_, _, (hd ▸ fd hO).nils_form, (hx ▸ fx hO).sle_form, .inl rfl⟩
          · exact zero h fun θ ac hO => ⟨_, _, (hd ▸ fd hO).sl_form, (hx ▸ fx hO).sle_form, .inr rfl⟩
          · exact zero h fun θ ac hO => ⟨_, _, (hd ▸ fd hO).sle_form, (hx ▸ fx hO).sle_form, .inr rfl⟩
    · cases h
  · cases h

end
end Ev
