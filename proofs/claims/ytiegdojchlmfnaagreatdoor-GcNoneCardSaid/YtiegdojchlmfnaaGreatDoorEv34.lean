/- A part of the proof that GcNone returns true: text Ev34. -/
import Derived.Test.YtiegdojchlmfnaaGreatDoorEv33
namespace Ev
open Go
open Go.RowKit
noncomputable section

/-! ### A range over a function -/

theorem marks_inj : ∀ {l m : List Nat}, (l.map fun r => ({ target := .collected r, args := #[] } : Deferred)) = (m.map fun r => { target := .collected r, args := #[] }) → l = m
  | [], [], _ => rfl
  | [], _ :: _, h => by simp at h
  | _ :: _, [], h => by simp at h
  | x :: l, y :: m, h => by
    simp only [List.map_cons, List.cons.injEq] at h
    obtain ⟨h1, h2⟩ := h
    simp at h1
    rw [h1, marks_inj h2]

def evRange (P : Program) (F : Orac) (fi : Nat) (f : Operand) (p : List Nat) (kn : Kont) (env : List AV) (H : Heap) (n : Nat) : Bool :=
  (ev P env f).ckFn fun g first cap => Fn.casesOn (motive := fun _ => Bool) g (fun fx => ifB (Nat.blt n 32768) (forceN (Nat.succ n) fun n1 => hput H n (.loop fi p env) fun H1 =>
    F fx (first ++ .fn (.yield n) [] [] :: cap) H1 n1 fun _ H2 n2 => at_ H2 n fun b => b.ckLoop fun _ _ _ => hput H2 n .dead fun H3 => kn env H3 n2)) (fun _ => false) (fun _ _ => false) (fun _ _ _ _ => false) (fun _ => false)

theorem evRange_ok {P : Program} {F : Orac} (hF : CallSound P F) {root : Code} {fi : Nat} {f : Operand} {ps : Array Tmp} {as bd : Code} {p : List Nat} {kn : Kont} {env : List AV} {H : Heap} {n : Nat}
    (hroot : (P.funcs[fi]?).bind (·.body) = some root) (hp : codeAt root p = some (.rangeFunc f ps as bd)) (h : evRange P F fi f p kn env H n = true) :
    ∃ H' n', kn env H' n' = true ∧ CodeGoes true P (.rangeFunc f ps as bd) env H n env H' n' := by
  unfold evRange at h
  obtain ⟨g, first, cap, hx, h⟩ := ckFn_iff.1 h
  cases g with
  | func fx =>
    obtain ⟨hn32, h⟩ := ifB_iff.1 h
    rw [Nat.blt_eq] at hn32
    rw [forceN_eq, hput_eq] at h
    obtain ⟨v, H2, n2, h, hcall, hans⟩ := hF _ _ _ _ _ h
    obtain ⟨_, h⟩ := at_iff.1 h
    obtain ⟨g2, p2, e2, hb2, h⟩ := ckLoop_iff.1 h
    rw [hput_eq] at h
    refine ⟨_, _, h, fun Fe m S a w θ Q hL s hQ => wpIn_rangeFunc fun fn _ => ?_⟩
    have vf : VR θ (ev P env f) (a.eval f) := ev_ok s.glob f fun t _ => s.tmps t
    rw [hx] at vf
    obtain ⟨fs, cs, gv, hgv, hfs, hcs, hv⟩ := vf.fn
    simp only [fnC, Option.some.injEq] at hgv
    subst hgv
    generalize hob : Obj.loop { state := .ready, pending := none, fn, tmps := a.tmps, params := ps, assign := as, body := bd, defers := w.heap.size } = ob
    have hsite : siteAt P fi p = some (ps, as, bd) := by
      unfold siteAt
      rw [hroot, Option.bind_some, hp]
    have hB := s.room
    -- memory behind the start of the loop
    have k1 := went_hide s.went.rel s.went.fresh (.deferred (some []))
    have ha1 : (w.alloc (.deferred (some []))).heap.size = w.heap.size + 1 := by simp
    have hb : BRel P (θ.add n ⟨(w.alloc (.deferred (some []))).heap.size, 0, 0⟩) S.B ((w.alloc (.deferred (some []))).alloc ob) ⟨(w.alloc (.deferred (some []))).heap.size, 0, 0⟩ (.loop fi p env) := by
      refine ⟨by show S.B ≤ (w.alloc (.deferred (some []))).heap.size; omega, a.tmps, ps, as, bd, w.heap.size, fn, hsite, ?_, ⟨fun t => (s.tmps t).le (Theta.le_add (s.went.fresh n (Nat.le_refl _)) _)⟩, s.len⟩
      rw [hob]
      exact World.alloc_heap_new _ _
    have k2 := went_alloc (w' := (w.alloc (.deferred (some []))).alloc ob) k1.rel k1.fresh (ob := ob) (b := .loop fi p env) (sz := 0) rfl rfl rfl rfl hb
    have k := k1.trans k2
    rw [← hfn_put _ _ hn32] at k
    have hθn : (θ.add n ⟨(w.alloc (.deferred (some []))).heap.size, 0, 0⟩).blk n = some ⟨(w.alloc (.deferred (some []))).heap.size, 0, 0⟩ := Theta.add_self _ _ _
    have hround : Fe.round = none := hL.2 rfl
    refine ⟨w.heap.size + 1, [{ target := .collected w.heap.size, args := #[] }], (w.alloc (.deferred (some []))).alloc ob, { target := .fn (.func fx) cs.toArray, args := (fs ++ [Value.func (.yield (w.heap.size + 1)) #[] #[]]).toArray },
      (w.alloc (.deferred (some []))).alloc ob, fx, (fs ++ [Value.func (.yield (w.heap.size + 1)) #[] #[]] ++ cs).toArray, (w.alloc (.deferred (some []))).alloc ob, ?_, ?_, ?_, ?_, ?_, ?_⟩
    · rw [hround, ← hob]
      exact run_enterLoop_outer _ _ _ _ _
    · simp only [resolve, hv]
      simp [go_sem, Deferred.ofValue, Act.eval]
    · exact fun f' _ => hL.1.fn f'
    · have := hcall (fs ++ [Value.func (.yield (w.heap.size + 1)) #[] #[]] ++ cs).toArray ((w.alloc (.deferred (some []))).alloc ob)
      simpa [invoke] using this
    · intro hd; simp [hL.1.depth] at hd
    · have hargs : VRs (θ.add n ⟨(w.alloc (.deferred (some []))).heap.size, 0, 0⟩) (first ++ .fn (.yield n) [] [] :: cap) (fs ++ [Value.func (.yield (w.heap.size + 1)) #[] #[]] ++ cs) := by
        rw [List.append_assoc]
        refine VRs.append ((VRs.of_concs hfs).le k.le) (.cons (.inr ?_) ((VRs.of_concs hcs).le k.le))
        simp only [Ev.conc, concs, fnC, hθn]
        simp
      have hc := hans _ ((w.alloc (.deferred (some []))).alloc ob) S.B _ k.rel k.fresh (by simp; omega) (s.glob.le k.le) hargs (m - 1)
      refine CallsIn.mono (hL.1.calls _ _ _ _ _ _ hc) ?_
      rintro e w3 ⟨v', θ', rfl, hw, _⟩
      have hn' := hw.le.1 _ _ hθn
      have hr := hw.rel.at hn'
      rw [hb2] at hr
      obtain ⟨_, tmps', ps', as', bd', dd', fn', _, hrec, _, _⟩ := hr
      have hrec : w3.heap[w.heap.size + 1]? = some (.loop { state := .ready, pending := none, fn := fn', tmps := tmps', params := ps', assign := as', body := bd', defers := dd' }) := by rw [← ha1]; exact hrec
      refine ⟨none, _, run_endLoop hrec (by simp), ?_⟩
      generalize Obj.loop { state := .exhausted, pending := none, fn := fn', tmps := tmps', params := ps', assign := as', body := bd', defers := dd' } = o2
      have hown : (hfn H2 n).own = true := by rw [hb2]; rfl
      have k4 := went_drop hw.rel hw.fresh hn' hown o2
      rw [← hfn_put _ _ hn32] at k4
      have k4 : Went P θ' (hfn H2) n2 S.B w3 θ' (hfn (Tr.put 5 H2 n .dead)) n2 (w3.putObj (w.heap.size + 1) o2) := by
        have : (⟨(w.alloc (.deferred (some []))).heap.size, 0, 0⟩ : Loc).blk = w.heap.size + 1 := ha1
        rw [this] at k4
        exact k4
      have all := (k.trans hw).trans k4
      -- the mark
      have hm0 : MarksOK S.lo (θ.add n ⟨(w.alloc (.deferred (some []))).heap.size, 0, 0⟩) (hfn (Tr.put 5 H n (.loop fi p env))) ((w.alloc (.deferred (some []))).alloc ob) ({ target := .collected w.heap.size, args := #[] } :: a.defers) := by
        obtain ⟨rs, e, hnd, hrs⟩ := s.defs.went k
        refine ⟨w.heap.size :: rs, by rw [e]; rfl, List.nodup_cons.2 ⟨fun hmem => ?_, hnd⟩, fun r hr => ?_⟩
        · obtain ⟨rs0, e0, _, hrs0⟩ := s.defs
          have : rs0 = rs := by
            have := e0.symm.trans e
            exact marks_inj this
          subst this
          have := lt_of_heap (hrs0 _ hmem).2.1
          omega
        · rcases List.mem_cons.1 hr with rfl | hr
          · refine ⟨Nat.le_trans S.hlo s.went.frm.size, ?_, fun b l hb hl e => ?_⟩
            · rw [heap_alloc_ne _ _ (by omega)]
              exact World.alloc_heap_new _ _
            · rw [hfn_put _ _ hn32] at hb
              by_cases eb : n = b
              · subst eb
                rw [hθn] at hl; injection hl with hl; subst hl
                simp only at e; omega
              · have hl' : θ.blk b = some l := by
                  have : (θ.add n ⟨(w.alloc (.deferred (some []))).heap.size, 0, 0⟩).blk b = θ.blk b := by
                    show (if n = b then _ else θ.blk b) = _
                    rw [if_neg eb]
                  rw [← this]; exact hl
                have := s.went.rel.lt (by simpa [setB, eb] using hb) hl'
                omega
          · exact hrs r hr
      refine hQ _ _ θ' ⟨s.low, s.went.trans all, s.glob.le all.le, fun t => (s.tmps t).le all.le, s.len, ?_⟩
      exact hm0.went (hw.trans k4)
  | _ => exact (Bool.false_ne_true h).elim

end
end Ev
