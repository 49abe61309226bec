/- A part of the proof that GcRoom returns true: text Calm. -/
import Derived.Test.YtfhilpdbmfbbdaaGreatDoorEvI
import Derived.Test.YtfhilpdbmfbbdaaGreatDoorProg
namespace Ev
open Go Go.Proofs
def calmC : Nat → Bool := fun _ => false
theorem calm_ok : ∀ f, calmC f = true → CalmD Tryz.prog f := fun _ h => (Bool.false_ne_true h).elim
end Ev
namespace Ev
open Go Go.Proofs
noncomputable section
def I (n : Nat) : AV := .int .i64 (.ofNat n)
def fF : AV := .bool false
def fT : AV := .bool true
def L0 : An := .leaf
def T2 (a b : An) : An := .two a b
def gR (v : AV) (r : KR) (H : Heap) (n : Nat) (e : Bool) : Bool := AV.ckGd v (fun b => ifte b e (r (.tup []) H n)) (r (.tup []) H n)
def gRn (v : AV) (r : KR) (H : Heap) (n : Nat) (e : Bool) : Bool := AV.ckGd v (fun b => ifte b (r (.tup []) H n) e) (r (.tup []) H n)
def gQ (v : AV) (q : KQ) (e : Bool) : Bool := AV.ckGd v (fun b => ifte b e (q (.tup []))) (q (.tup []))
def gQn (v : AV) (q : KQ) (e : Bool) : Bool := AV.ckGd v (fun b => ifte b (q (.tup [])) e) (q (.tup []))
def mR (x : KR) (e : KR → Bool) : Bool := joinP (α := KR) x e
def mQ (x : KQ) (e : KQ → Bool) : Bool := joinP (α := KQ) x e
def mJ (x : KJ) (e : KJ → Bool) : Bool := joinP (α := KJ) x e
def jR (v : AV) (H : Heap) (n : Nat) (x : KR) (e : KR → Bool) : Bool := joinP (α := KR) x fun r => AV.ckGd v (fun b => ifte b (e r) (r (.tup []) H n)) (r (.tup []) H n)
def jRn (v : AV) (H : Heap) (n : Nat) (x : KR) (e : KR → Bool) : Bool := joinP (α := KR) x fun r => AV.ckGd v (fun b => ifte b (r (.tup []) H n) (e r)) (r (.tup []) H n)
def jQ (v : AV) (x : KQ) (e : KQ → Bool) : Bool := joinP (α := KQ) x fun q => AV.ckGd v (fun b => ifte b (e q) (q (.tup []))) (q (.tup []))
def jQn (v : AV) (x : KQ) (e : KQ → Bool) : Bool := joinP (α := KQ) x fun q => AV.ckGd v (fun b => ifte b (q (.tup [])) (e q)) (q (.tup []))
def cB (v : AV) (x y : Bool) : Bool := AV.ckBool v fun b => ifte b x y
def HO (i : Nat) (s : Nat → Hand) : Prop := ∀ N, HandOK Tryz.prog i (s N)
theorem hO {i : Nat} {fn : Func} (np : Nat) (an : An) {s : Nat → Hand} (hf : Tryz.prog.funcs[i]? = some fn) (hc : ∀ (vs : Array Value) (w : World), (callFunc i vs).run Tryz.prog w = .ok (.enter i vs) w)
    (he : ∀ N F G l H n k, evFn Tryz.prog F G (sideOf Tryz.prog calmC F G i N) fn np an l H n k = s N F G l H n k) : HO i s := fun N => handOK_of calm_ok (N := N) (np := np) (an := an) hf hc (he N)
end
end Ev
