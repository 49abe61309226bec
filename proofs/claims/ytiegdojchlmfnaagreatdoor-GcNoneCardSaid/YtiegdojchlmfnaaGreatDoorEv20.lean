/- A part of the proof that GcNone returns true: text Ev20. -/
import Derived.Test.YtiegdojchlmfnaaGreatDoorEv19
namespace Ev
open Go
open Go.RowKit
noncomputable section

/-- One way on, for many. -/
def joinP {α : Type} (J : α) (B : α → Bool) : Bool := B J

/-! ### One operation -/

/-! ### An operand is looked up at once -/

def getK : List AV → Nat → (AV → Bool) → Bool
  | [], _, k => hi (k .bad)
  | a :: _, 0, k => k a
  | _ :: l, t + 1, k => getK l t k

theorem getK_eq : ∀ (l : List AV) (t : Nat) (k : AV → Bool), getK l t k = k (l.getD t .bad)
  | [], _, _ => by simp [getK, hi_eq]
  | _ :: _, 0, _ => rfl
  | _ :: l, t + 1, k => by rw [getK, getK_eq l t k]; simp

def evK (P : Program) (env : List AV) (x : Operand) (k : AV → Bool) : Bool :=
  match x with
  | .tmp t => getK env t k
  | x => k (ev P env x)

theorem evK_eq (P : Program) (env : List AV) (x : Operand) (k : AV → Bool) : evK P env x k = k (ev P env x) := by
  cases x <;> first | exact getK_eq _ _ _ | rfl

def evsK (P : Program) (env : List AV) : List Operand → (List AV → Bool) → Bool
  | [], k => k []
  | x :: xs, k => evK P env x fun a => evsK P env xs fun l => k (a :: l)

theorem evsK_eq (P : Program) (env : List AV) : ∀ (xs : List Operand) (k : List AV → Bool), evsK P env xs k = k (xs.map (ev P env))
  | [], _ => rfl
  | x :: xs, k => by rw [evsK, evK_eq, evsK_eq P env xs]; rfl

def evpK (P : Program) (env : List AV) : List (Nat × Operand) → (List (Nat × AV) → Bool) → Bool
  | [], k => k []
  | x :: xs, k => evK P env x.2 fun a => evpK P env xs fun l => k ((x.1, a) :: l)

theorem evpK_eq (P : Program) (env : List AV) : ∀ (xs : List (Nat × Operand)) (k : List (Nat × AV) → Bool), evpK P env xs k = k (xs.map fun p => (p.1, ev P env p.2))
  | [], _ => rfl
  | x :: xs, k => by rw [evpK, evK_eq, evpK_eq P env xs]; rfl

def mkFunc2 (f : Fn) (a b : List AV) (k : AV → Bool) : Bool := iteS (fnOk f = true) (okAll a (okAll b (k (.fn f a b)))) false

def pureOp (P : Program) (env : List AV) (o : Oper) (k : AV → Bool) : Bool :=
  match o.op with
  | .move x => evK P env x k
  | .assign x => evK P env x k
  | .pick c a b => pickK (ev P env c) (ev P env a) (ev P env b) k
  | .build t parts => (match P.underlying t with
    | some (.struct fields) => iteS (infosOK P fields = true) (evpK P env parts.toList fun ps => buildE2 P t ps k) false
    | some (.array _ e) => iteS (P.cellsOf e = 0) false (evpK P env parts.toList fun ps => buildE2 P t ps k)
    | _ => false)
  | .nilCheck x => evK P env x fun a => nilK a (k a)
  | .binOp op t x y _ => binE P op t y (ev P env x) (ev P env y) k
  | .unOp op _ x => unE op (ev P env x) k
  | .convert s d x => evK P env x fun a => convE P s d a k
  | .makeInterface t x => (match P.underlying t with | some (.interface _) | none => false | some _ => evK P env x fun a => a.ckOk (k (.iface t a)))
  | .makeFunc f first cap => evsK P env first.toList fun a => evsK P env cap.toList fun b => mkFunc2 f a b k
  | .slice t x lo hi none => joinP k fun k => sliceE P t (ev P env x) (lo.map (ev P env)) (hi.map (ev P env)) k
  | .fieldAddr s x f => fieldAddrE P s (ev P env x) f k
  | .field t x f => fieldE P t (ev P env x) f k
  | .indexAddr t x i => indexAddrE P t (ev P env x) (ev P env i) k
  | .index t x i => indexE P t (ev P env x) (ev P env i) k
  | .extract x i => (ev P env x).ckTup fun l => nthK i l k
  | .call c => (match c.callee, c.args.toList, c.argTypes.toList with
    | .builtin .len, [x], t :: _ => joinP k fun k => lenE P t (ev P env x) k
    | .builtin .min, [x, y], _ => joinP k fun k => minE false (ev P env x) (ev P env y) k
    | .builtin .max, [x, y], _ => joinP k fun k => minE true (ev P env x) (ev P env y) k
    | _, _, _ => false)
  | _ => false

theorem args_of {α : Type} {a : Array α} {l : List α} (h : a.toList = l) : a = l.toArray := by rw [← h]

theorem head_of {α : Type} {a : Array α} {x : α} {l : List α} (h : a.toList = x :: l) : a[0]? = some x := by rw [args_of h]; simp

theorem pureOp_ok {P : Program} {env : List AV} {o : Oper} {k : AV → Bool} (h : pureOp P env o k = true) : ∃ v, k v = true ∧ PureSpec P env o v := by
  unfold pureOp at h
  simp only [evK_eq, evsK_eq, evpK_eq, iteS_eq, mkFunc2] at h
  split at h
  · exact pure_move (.inl ‹_›) h
  · exact pure_move (.inr ‹_›) h
  · exact pure_pick ‹_› h
  · rename_i t parts ho
    split at h
    · rename_i fields hu
      split at h
      · rename_i hi
        exact pure_build ho h (fun f hf => by rw [hu] at hf; injection hf with hf; injection hf with hf; rw [← hf]; exact hi) (fun n e hf => by rw [hu] at hf; injection hf with hf; cases hf)
      · cases h
    · rename_i n e hu
      split at h
      · cases h
      · rename_i hz
        exact pure_build ho h (fun f hf => by rw [hu] at hf; injection hf with hf; cases hf) (fun n' e' hf => by rw [hu] at hf; injection hf with hf; injection hf with _ hf; rw [← hf]; exact hz)
    · cases h
  · exact pure_nilCheck ‹_› h
  · exact pure_bin ‹_› h
  · exact pure_un ‹_› h
  · exact pure_conv ‹_› h
  · exact pure_iface ‹_› h
  · exact pure_makeFunc ‹_› h
  · exact pure_slice ‹_› h
  · exact pure_fieldAddr ‹_› h
  · exact pure_field ‹_› h
  · exact pure_indexAddr ‹_› h
  · exact pure_index ‹_› h
  · exact pure_extract ‹_› h
  · rename_i c ho
    split at h
    · rename_i x t ts hc ha ht
      exact pure_len ho hc (args_of ha) (head_of ht) h
    · rename_i x y hc ha
      exact pure_min (mx := false) ho hc (args_of ha) h
    · rename_i x y hc ha
      exact pure_min (mx := true) ho hc (args_of ha) h
    · cases h
  · cases h

def readOp (P : Program) (env : List AV) (o : Oper) (H : Heap) (k : AV → Bool) : Bool :=
  match o.op with
  | .load t a => loadE P t H (ev P env a) k
  | .lookup t x y ok => joinP k fun k => lookupE P t (ev P env x) (ev P env y) ok H k
  | .next x isS => nextE H (ev P env x) isS k
  | .binOp op t x y _ => ptrBinE P t op H (ev P env x) (ev P env y) k
  | .convert s d x => joinP k fun k => b2sE P s d H (ev P env x) k
  | .call c => (match c.callee, c.args.toList, c.argTypes.toList with
    | .builtin .len, [x], t :: _ => joinP k fun k => lenMapE P t (ev P env x) H k
    | _, _, _ => false)
  | _ => false

theorem readOp_ok {P : Program} {env : List AV} {o : Oper} {H : Heap} {k : AV → Bool} (h : readOp P env o H k = true) : ∃ v, k v = true ∧ ReadSpec P env o H v := by
  unfold readOp at h
  split at h
  · exact read_load ‹_› h
  · exact read_lookup ‹_› h
  · exact read_next ‹_› h
  · exact read_ptrBin ‹_› h
  · exact read_b2s ‹_› h
  · rename_i c ho
    split at h
    · rename_i x t ts hc ha ht
      exact read_lenMap ho hc (args_of ha) (head_of ht) h
    · cases h
  · cases h

def allocOp (P : Program) (env : List AV) (o : Oper) (H : Heap) (id : Nat) (k : AV → Heap → Bool) : Bool :=
  match o.op with
  | .alloc t => allocE P t H id k
  | .box _ x => boxE (ev P env x) H id k
  | .buildSlice t len parts => evpK P env parts.toList fun ps => bsliceE2 P t len ps H id k
  | .makeMap _ none => mkmapE H id k
  | .makeMap t (some x) => (match P.underlying t with | some (.map _ _) => (ev P env x).ckInt fun _ _ => mkmapE H id k | _ => false)
  | .makeSlice t x y => mksliceE P t (ev P env x) (ev P env y) H id k
  | _ => false

theorem allocOp_ok {P : Program} {env : List AV} {o : Oper} {H : Heap} {id : Nat} {k : AV → Heap → Bool} (h : allocOp P env o H id k = true) :
    ∃ v b, id < 32768 ∧ k v (Tr.put 5 H id b) = true ∧ AllocSpec P env o id v b := by
  unfold allocOp at h
  simp only [evpK_eq] at h
  split at h
  · exact alloc_alloc ‹_› h
  · exact alloc_box ‹_› h
  · exact alloc_bslice ‹_› h
  · exact alloc_mkmap ‹_› h
  · rename_i t x ho
    split at h
    · exact alloc_mkmap' ho ‹_› h
    · cases h
  · exact alloc_mkslice ‹_› h
  · cases h

def heavyOp (P : Program) (env : List AV) (o : Oper) (H : Heap) (n : Nat) (k : AV → Heap → Nat → Bool) : Bool :=
  match o.op with
  | .store t a x => storeE P t H (ev P env a) (ev P env x) fun v H => k v H n
  | .mapUpdate t m x y => joinP k fun k => mapUpE P t H (ev P env m) (ev P env x) (ev P env y) fun v H => k v H n
  | .insert t m x y => joinP k fun k => mapUpE P t H (ev P env m) (ev P env x) (ev P env y) fun v H => k v H n
  | .range t x => rangeE P t H n (ev P env x) k
  | .call c => (match c.callee, c.args.toList, c.argTypes.toList with
    | .builtin .append, [s, x], [t, tx] => joinP k fun k => appendE P t tx H n (ev P env s) (ev P env x) k
    | .builtin .copy, [d, x], t :: _ => joinP k fun k => copyE P t H (ev P env d) (ev P env x) fun v H => k v H n
    | .builtin .clear, [x], t :: _ => joinP k fun k => clearE P t H (ev P env x) fun v H => k v H n
    | _, _, _ => false)
  | _ => false

theorem heavyOp_ok {P : Program} {env : List AV} {o : Oper} {H : Heap} {n : Nat} {k : AV → Heap → Nat → Bool} (h : heavyOp P env o H n k = true) :
    ∃ v H' n', k v H' n' = true ∧ HeavySpec P env o H n v H' n' := by
  have two : (∃ v H', k v H' n = true ∧ HeavySpec P env o H n v H' n) → ∃ v H' n', k v H' n' = true ∧ HeavySpec P env o H n v H' n' := fun ⟨v, H', hk, hs⟩ => ⟨v, H', n, hk, hs⟩
  unfold heavyOp at h
  split at h
  · exact two (heavy_store (k := fun v H => k v H n) ‹_› h)
  · exact two (heavy_mapUp (k := fun v H => k v H n) (.inl ‹_›) h)
  · exact two (heavy_mapUp (k := fun v H => k v H n) (.inr ‹_›) h)
  · exact heavy_range ‹_› h
  · rename_i c ho
    split at h
    · rename_i s x t tx hc ha ht
      exact heavy_append ho hc (args_of ha) (args_of ht) h
    · rename_i d x t ts hc ha ht
      exact two (heavy_copy (k := fun v H => k v H n) ho hc (args_of ha) (head_of ht) h)
    · rename_i x t ts hc ha ht
      exact two (heavy_clear (k := fun v H => k v H n) ho hc (args_of ha) (head_of ht) h)
    · cases h
  · cases h

/-- Of which kind an operation is: 0 it looks at nothing in memory, 1 it looks, 2 it makes one new block, 3 it may turn memory, 4 a call. -/
def cls (P : Program) (o : Oper) : Nat :=
  match o.op with
  | .load .. | .lookup .. | .next .. => 1
  | .binOp _ t _ y _ => (match P.underlying t, y with
    | some (.pointer _), .const _ => 0
    | some (.pointer _), _ => 1
    | _, _ => 0)
  | .convert s d _ => (match P.underlying s, P.underlying d with
    | some (.slice _), some .string => 1
    | _, _ => 0)
  | .alloc .. | .box .. | .buildSlice .. | .makeMap .. | .makeSlice .. => 2
  | .store .. | .mapUpdate .. | .insert .. | .range .. => 3
  | .call c => (match c.callee, c.argTypes.toList with
    | .builtin .len, t :: _ => (match P.underlying t with | some (.map ..) => 1 | _ => 0)
    | .builtin .min, _ | .builtin .max, _ => 0
    | .builtin _, _ => 3
    | _, _ => 4)
  | _ => 0

end
end Ev
