/- A part of the proof that GcNone returns true: text Ev35. -/
import Derived.Test.YtiegdojchlmfnaaGreatDoorEv34
namespace Ev
open Go
open Go.RowKit
noncomputable section

/-! ### Short names for what is left of an operation once the program's text is known -/

abbrev KR := AV → Heap → Nat → Bool
abbrev KJ := List AV → Heap → Nat → Bool
abbrev KQ := AV → Bool
abbrev KW := AV → Blk → Bool
abbrev KN := Nat → Bool
abbrev KH := Heap → Nat → Bool
abbrev LA := List AV

def ifte (b : Bool) (x y : Bool) : Bool := Bool.rec y x b
def arg1 (l : List AV) (f : AV → List AV → Bool) : Bool := List.casesOn (motive := fun _ => Bool) l false f
def arg0 (l : List AV) (y : Bool) : Bool := List.casesOn (motive := fun _ => Bool) l y fun _ _ => false

def addI (x y : AV) (k : AV → Bool) : Bool := x.ckInts y fun kd a b => intK kd (Int.add a b) k
def subI (x y : AV) (k : AV → Bool) : Bool := x.ckInts y fun kd a b => intK kd (Int.sub a b) k
def mulI (x y : AV) (k : AV → Bool) : Bool := x.ckInts y fun kd a b => intK kd (Int.mul a b) k
def quoI (x y : AV) (k : AV → Bool) : Bool := x.ckInts y fun kd a b => Bool.rec (intK kd (Int.tdiv a b) k) false (eqZ b 0)
def remI (x y : AV) (k : AV → Bool) : Bool := x.ckInts y fun kd a b => Bool.rec (forceZ (Int.tmod a b) fun z => k (.int kd z)) false (eqZ b 0)
def bitI (op : BinOp) (x y : AV) (k : AV → Bool) : Bool := x.ckInts y fun kd a b => binInt op kd a b k
def eqlI (x y : AV) (k : AV → Bool) : Bool := x.ckInts y fun _ a b => boolK (eqZ a b) k
def neqI (x y : AV) (k : AV → Bool) : Bool := x.ckInts y fun _ a b => boolK (Bool.not (eqZ a b)) k
def lssI (x y : AV) (k : AV → Bool) : Bool := x.ckInts y fun _ a b => boolK (ltZ a b) k
def leqI (x y : AV) (k : AV → Bool) : Bool := x.ckInts y fun _ a b => boolK (Bool.not (ltZ b a)) k
def gtrI (x y : AV) (k : AV → Bool) : Bool := x.ckInts y fun _ a b => boolK (ltZ b a) k
def geqI (x y : AV) (k : AV → Bool) : Bool := x.ckInts y fun _ a b => boolK (Bool.not (ltZ a b)) k
def strB (op : BinOp) (x y : AV) (k : AV → Bool) : Bool := x.ckStr fun n c => y.ckStr fun m d => binStr op n c m d k
def eqB (op : BinOp) (x y : AV) (k : AV → Bool) : Bool := x.ckBool fun a => y.ckBool fun b => eqRes op (Bool.rec (Bool.not b) b a) k
def eqA (is : List Nat) (op : BinOp) (x y : AV) (k : AV → Bool) : Bool := x.ckAgg fun l => y.ckAgg fun m => eqOffs is l m fun r => eqRes op r k
def nilPE (op : BinOp) (x : AV) (k : AV → Bool) : Bool := nilP x fun r => eqRes op r k
def nilSE (op : BinOp) (x : AV) (k : AV → Bool) : Bool := nilS x fun r => eqRes op r k
def nilME (op : BinOp) (x : AV) (k : AV → Bool) : Bool := nilM x fun r => eqRes op r k
def nilFE (op : BinOp) (x : AV) (k : AV → Bool) : Bool := nilF x fun r => eqRes op r k
def nilIE (op : BinOp) (x : AV) (k : AV → Bool) : Bool := nilI x fun r => eqRes op r k
def ptrE (op : BinOp) (H : Heap) (x y : AV) (k : AV → Bool) : Bool := ptrEqK H x y fun r => eqRes op r k
def negI (x : AV) (k : AV → Bool) : Bool := x.ckInt fun kd a => intK kd (Int.sub 0 a) k
def cplI (x : AV) (k : AV → Bool) : Bool := x.ckInt fun kd a => binInt .xor kd (Bool.rec kd.max (-1) kd.signed) a k
def notB (x : AV) (k : AV → Bool) : Bool := x.ckBool fun b => boolK (Bool.not b) k
def convI (kd : IntKind) (x : AV) (k : AV → Bool) : Bool := x.ckInt fun _ a => intK kd a k
def fldK (off : Nat) (x : AV) (k : AV → Bool) : Bool := x.ckAgg fun l => nthK off l k
def fldA (off c : Nat) (x : AV) (k : AV → Bool) : Bool := x.ckAgg fun l => ifB (Nat.ble (off + c) l.length) (k (.agg ((l.drop off).take c)))
def idxS (n es : Nat) (x i : AV) (k : AV → Bool) : Bool := x.ckAgg fun l => i.ckInt fun _ z => natOf z fun j => ifB (Nat.blt j n) (nthK (j * es) l k)
def idxG (n es : Nat) (x i : AV) (k : AV → Bool) : Bool := x.ckAgg fun l => i.ckInt fun _ z => natOf z fun j => ifB (Nat.blt j n) (ifB (Nat.ble (j * es + es) l.length) (k (.agg ((l.drop (j * es)).take es))))
def extK (i : Nat) (x : AV) (k : AV → Bool) : Bool := x.ckTup fun l => nthK i l k
def lenStr (x : AV) (k : AV → Bool) : Bool := x.ckStr fun n _ => k (.int .i64 (.ofNat n))
def lenSl (x : AV) (k : AV → Bool) : Bool := x.ckSl (k (.int .i64 0)) (fun _ _ len _ => k (.int .i64 (.ofNat len))) (fun _ _ _ _ => k (.int .i64 0))
def lenM (x : AV) (H : Heap) (k : AV → Bool) : Bool := x.ckMap (k (.int .i64 0)) fun b => at_ H b fun bl => bl.ckMap fun es _ => es.lenK fun n => k (.int .i64 (.ofNat n))
def lookM (z : AV) (ok : Bool) (x key : AV) (H : Heap) (k : AV → Bool) : Bool :=
  x.ckMap (z.ckOk (okK ok z false k)) fun b => at_ H b fun bl => bl.ckMap fun es _ => es.find key (z.ckOk (okK ok z false k)) fun v => okK ok v true k
def b2sK (H : Heap) (x : AV) (k : AV → Bool) : Bool :=
  x.ckSl (k (.str 0 0)) (fun b o len _ => at_ H b fun bl => bl.ckCells fun _ _ n c => ifB (Nat.ble (Nat.add o len) n) (bytesK (c.row o len) fun c => k (.str len c))) (fun _ _ _ _ => false)
def newP (l : List AV) (H : Heap) (n : Nat) (k : Heap → Nat → Bool) : Bool := newK l H n fun H => forceN (Nat.succ n) fun n' => k H n'
def mkmP (H : Heap) (n : Nat) (k : AV → Heap → Nat → Bool) : Bool := mkmapE H n fun v H => forceN (Nat.succ n) fun n' => k v H n'
def boxP (x : AV) (H : Heap) (n : Nat) (k : AV → Heap → Nat → Bool) : Bool := boxE x H n fun v H => forceN (Nat.succ n) fun n' => k v H n'
def mkslK (z : List AV) (l c : AV) (H : Heap) (id : Nat) (k : AV → Heap → Bool) : Bool :=
  l.ckInt fun _ l => natOf l fun l => c.ckInt fun _ c => natOf c fun c => ifB (Bool.and (Nat.ble l c) (Nat.ble c 4096)) (newK (repL z c) H id fun H => k (.sl id 0 l (.known c)) H)
def mkslP (z : List AV) (l c : AV) (H : Heap) (n : Nat) (k : AV → Heap → Nat → Bool) : Bool := mkslK z l c H n fun v H => forceN (Nat.succ n) fun n' => k v H n'
def storeK (sz : Nat) (H : Heap) (a x : AV) (k : AV → Heap → Bool) : Bool := cellsOfK x fun l => ifB (Nat.beq l.length sz) (a.ckPtr fun b o => writeK H b o l fun H => k .bad H)
def mapK (H : Heap) (m key val : AV) (k : AV → Heap → Bool) : Bool :=
  val.ckOk (m.ckMap false fun b => at_ H b fun bl => bl.ckMap fun es clk => es.upd key val clk fun f es' =>
    Bool.rec (forceN (Nat.succ clk) fun c => hput H b (.map es' c) fun H => k .bad H) (hput H b (.map es' clk) fun H => k .bad H) f)
def rngK (H : Heap) (n : Nat) (x : AV) (k : AV → Heap → Nat → Bool) : Bool :=
  x.ckMap false fun m => at_ H m fun bl => bl.ckMap fun _ clk => ifB (Nat.blt n 32768) (hput H n (.miter m clk [] clk) fun H => forceN (Nat.succ n) fun n' => k (.ptr n 0) H n')
def appK (sz : Nat) (H : Heap) (n : Nat) (s x : AV) (k : AV → Heap → Nat → Bool) : Bool :=
  srcK H x sz fun m news => s.ckSl (Bool.rec (cellsK news fun c => forceN news.length fun t => newOpn H n t c sz m k) (k .nils H n) (Nat.beq m 0)) (fun b o len cap => appSl sz H n s b o len cap m news k) (fun _ _ _ _ => false)
def cpyK (sz : Nat) (H : Heap) (d x : AV) (k : AV → Heap → Bool) : Bool :=
  x.ckSl (d.ckSl (k (.int .i64 0) H) (fun _ _ _ _ => k (.int .i64 0) H) (fun _ _ _ _ => k (.int .i64 0) H))
    (fun b2 o2 sl _ => d.ckSl (k (.int .i64 0) H) (fun b o dl _ => copyK sz H b o dl b2 o2 sl k) (fun _ _ _ _ => k (.int .i64 0) H))
    (fun _ _ _ _ => d.ckSl (k (.int .i64 0) H) (fun _ _ _ _ => k (.int .i64 0) H) (fun _ _ _ _ => k (.int .i64 0) H))
def clrS (z : List AV) (H : Heap) (x : AV) (k : AV → Heap → Bool) : Bool :=
  x.ckSl (k (.tup []) H) (fun b o len _ => Bool.rec (writeK H b o (repL z len) fun H => k (.tup []) H) (k (.tup []) H) (Nat.beq len 0)) (fun _ _ _ _ => k (.tup []) H)
def clrM (H : Heap) (x : AV) (k : AV → Heap → Bool) : Bool := x.ckMap (k (.tup []) H) fun b => at_ H b fun bl => bl.ckMap fun _ clk => hput H b (.map .nil clk) fun H => k (.tup []) H
def callV (F G : Orac) (f : AV) (args : List AV) (H : Heap) (n : Nat) (k : KR) : Bool := f.ckFn fun g first cap => callFn F G g first cap args H n k
def rangeV (F : Orac) (fi : Nat) (f : AV) (p : List Nat) (env : List AV) (H : Heap) (n : Nat) (k : Heap → Nat → Bool) : Bool :=
  f.ckFn fun g first cap => Fn.casesOn (motive := fun _ => Bool) g (fun fx => ifB (Nat.blt n 32768) (forceN (Nat.succ n) fun n1 => hput H n (.loop fi p env) fun H1 =>
    F fx (first ++ .fn (.yield n) [] [] :: cap) H1 n1 fun _ H2 n2 => at_ H2 n fun b => b.ckLoop fun _ _ _ => hput H2 n .dead fun H3 => k H3 n2)) (fun _ => false) (fun _ _ => false) (fun _ _ _ _ => false) (fun _ => false)

/-! ### Who carries out what -/

def sideOf (P : Program) (F G : Orac) (fi N : Nat) : Side := ⟨fun _ ops => evDraw P F G ops, fun f _ _ _ p => evRange P F fi f p, N⟩

theorem sideOf_ok {P : Program} {F G : Orac} (hF : CallSound P F) (hG : RoundSound P G) {fi N : Nat} {root : Code} (hroot : (P.funcs[fi]?).bind (·.body) = some root) : SideOK true P root (sideOf P F G fi N) :=
  ⟨fun _ _ _ _ _ _ h => evDraw_ok hF hG h, fun _ _ _ _ _ _ _ _ _ hp h => evRange_ok hF hroot hp h⟩

theorem noRange_ok {P : Program} {F G : Orac} (hF : CallSound P F) (hG : RoundSound P G) {fi N : Nat} {root : Code} : SideOK false P root (noRange (sideOf P F G fi N)) :=
  ⟨fun _ _ _ _ _ _ h => evDraw_ok hF hG h, fun _ _ _ _ _ _ _ _ _ _ h => (Bool.false_ne_true h).elim⟩

/-- What carries out one function (or one round), asking others. -/
abbrev Hand := Orac → Orac → List AV → Heap → Nat → KR → Bool
/-- A round is told its loop's block and the temporaries that it was entered with. -/
abbrev HandR := Orac → Orac → Nat → List AV → List AV → Heap → Nat → KR → Bool

def HandOK (P : Program) (f : Nat) (s : Hand) : Prop :=
  ∀ F G, CallSound P F → RoundSound P G → ∀ args H n k, s F G args H n k = true → ∃ v H' n', k v H' n' = true ∧ Answers P f args H n v H' n'

def HandROK (P : Program) (fi : Nat) (p : List Nat) (s : HandR) : Prop :=
  ∀ F G, CallSound P F → RoundSound P G → ∀ l env args H n k, hfn H l = .loop fi p env → s F G l env args H n k = true → ∃ v H' n', k v H' n' = true ∧ AnswersR P l args H n v H' n'

theorem handOK_of {N : Nat} {P : Program} {f : Nat} {fn : Func} {np : Nat} {an : An} {s : Hand} (hf : P.funcs[f]? = some fn) (hcall : ∀ (vs : Array Value) (w : World), (callFunc f vs).run P w = .ok (.enter f vs) w)
    (he : ∀ F G args H n k, evFn P F G (sideOf P F G f N) fn np an args H n k = s F G args H n k) : HandOK P f s := by
  intro F G hF hG args H n k h
  rw [← he] at h
  exact evFn_ok hF hG hf hcall (fun c hc => sideOf_ok hF hG (by rw [hf]; exact hc)) h

theorem handROK_of {N : Nat} {P : Program} {fi ne : Nat} {p : List Nat} {root : Code} {g : Operand} {ps : Array Tmp} {asn bd : Code} {xa xb : An} {s : HandR} (hroot : (P.funcs[fi]?).bind (·.body) = some root)
    (hp : codeAt root p = some (.rangeFunc g ps asn bd)) (he : ∀ F G l env args H n k, evRound P F G (sideOf P F G fi N) ps.toList asn bd xa xb fi ne p l env args H n k = s F G l env args H n k) : HandROK P fi p s := by
  intro F G hF hG l env args H n k hl h
  rw [← he] at h
  exact evRound_ok hF hG (noRange_ok hF hG) hroot hp hl h

/-- The functions, in order of their numbers. -/
inductive Tbl where
  | leaf
  | node (i : Nat) (s : Hand) (l r : Tbl)

def Tbl.find (t : Tbl) (f : Nat) (k : Hand → Bool) : Bool :=
  Tbl.rec (motive := fun _ => Bool) false (fun i s _ _ l r => Bool.rec (Bool.rec r l (Nat.blt f i)) (k s) (Nat.beq f i)) t

def Tbl.OK (P : Program) : Tbl → Prop
  | .leaf => True
  | .node i s l r => HandOK P i s ∧ l.OK P ∧ r.OK P

theorem Tbl.find_ok {P : Program} {f : Nat} {k : Hand → Bool} : ∀ {t : Tbl}, t.OK P → t.find f k = true → ∃ s, HandOK P f s ∧ k s = true
  | .leaf, _, h => (Bool.false_ne_true h).elim
  | .node i s l r, ho, h => by
    have h : (Bool.rec (motive := fun _ => Bool) (Bool.rec (r.find f k) (l.find f k) (Nat.blt f i)) (k s) (Nat.beq f i)) = true := h
    cases hb : Nat.beq f i with
    | true =>
      rw [hb] at h
      have := Nat.eq_of_beq_eq_true hb
      subst this
      exact ⟨s, ho.1, h⟩
    | false =>
      rw [hb] at h
      cases hl : Nat.blt f i with
      | true => rw [hl] at h; exact Tbl.find_ok ho.2.1 h
      | false => rw [hl] at h; exact Tbl.find_ok ho.2.2 h

inductive RTbl where
  | leaf
  | node (i : Nat) (p : List Nat) (s : HandR) (r : RTbl)

def eqNs : List Nat → List Nat → Bool
  | [], [] => true
  | a :: l, b :: m => cond (Nat.beq a b) (eqNs l m) false
  | _, _ => false

theorem eqNs_ok : ∀ {l m : List Nat}, eqNs l m = true → l = m
  | [], [], _ => rfl
  | a :: l, b :: m, h => by
    simp only [eqNs] at h
    cases hb : Nat.beq a b with
    | true => rw [hb] at h; rw [Nat.eq_of_beq_eq_true hb, eqNs_ok (l := l) (m := m) h]
    | false => rw [hb] at h; cases h
  | [], _ :: _, h => by simp [eqNs] at h
  | _ :: _, [], h => by simp [eqNs] at h

def RTbl.find (t : RTbl) (f : Nat) (p : List Nat) (k : HandR → Bool) : Bool :=
  RTbl.rec (motive := fun _ => Bool) false (fun i q s _ r => Bool.rec r (Bool.rec r (k s) (eqNs p q)) (Nat.beq f i)) t

def RTbl.OK (P : Program) : RTbl → Prop
  | .leaf => True
  | .node i p s r => HandROK P i p s ∧ r.OK P

theorem RTbl.find_ok {P : Program} {f : Nat} {p : List Nat} {k : HandR → Bool} : ∀ {t : RTbl}, t.OK P → t.find f p k = true → ∃ s, HandROK P f p s ∧ k s = true
  | .leaf, _, h => (Bool.false_ne_true h).elim
  | .node i q s r, ho, h => by
    have h : (Bool.rec (motive := fun _ => Bool) (r.find f p k) (Bool.rec (r.find f p k) (k s) (eqNs p q)) (Nat.beq f i)) = true := h
    cases hb : Nat.beq f i with
    | false => rw [hb] at h; exact RTbl.find_ok ho.2 h
    | true =>
      rw [hb] at h
      have h2 : (Bool.rec (motive := fun _ => Bool) (r.find f p k) (k s) (eqNs p q)) = true := h
      clear h
      have hfi := Nat.eq_of_beq_eq_true hb
      cases hp : eqNs p q with
      | false => rw [hp] at h2; exact RTbl.find_ok ho.2 h2
      | true =>
        rw [hp] at h2
        have hpq := eqNs_ok hp
        subst hfi
        subst hpq
        exact ⟨s, ho.1, h2⟩

/-- The code of a function; where a range over a function lies in it. -/
def bodyOf (f : Func) : Code := f.body.getD .skip
def siteG (c : Code) (p : List Nat) : Operand × Array Tmp × Code × Code := match codeAt c p with
  | some (.rangeFunc g ps a b) => (g, ps, a, b)
  | _ => (.func 0, #[], .skip, .skip)

/-- With fuel: the functions (false), the rounds (true). -/
def orac (T : Tbl) (U : RTbl) : Nat → Bool → Orac :=
  Nat.rec (motive := fun _ => Bool → Orac) (fun _ _ _ _ _ _ => false) fun _ ih b =>
    Bool.rec (motive := fun _ => Orac) (fun f args H n k => T.find f fun s => s (ih false) (ih true) args H n k)
      (fun l args H n k => at_ H l fun bl => bl.ckLoop fun fi p env => U.find fi p fun s => s (ih false) (ih true) l env args H n k) b

theorem orac_ok {P : Program} {T : Tbl} {U : RTbl} (hT : T.OK P) (hU : U.OK P) : ∀ d, CallSound P (orac T U d false) ∧ RoundSound P (orac T U d true)
  | 0 => ⟨fun _ _ _ _ _ h => (Bool.false_ne_true h).elim, fun _ _ _ _ _ h => (Bool.false_ne_true h).elim⟩
  | d + 1 => by
    obtain ⟨ihF, ihG⟩ := orac_ok hT hU d
    refine ⟨fun f args H n k h => ?_, fun l args H n k h => ?_⟩
    · have h : (T.find f fun s => s (orac T U d false) (orac T U d true) args H n k) = true := h
      obtain ⟨s, hs, h⟩ := Tbl.find_ok hT h
      exact hs _ _ ihF ihG _ _ _ _ h
    · have h : (at_ H l fun bl => bl.ckLoop fun fi p env => U.find fi p fun s => s (orac T U d false) (orac T U d true) l env args H n k) = true := h
      obtain ⟨_, h⟩ := at_iff.1 h
      obtain ⟨fi, p, env, hb, h⟩ := ckLoop_iff.1 h
      obtain ⟨s, hs, h⟩ := RTbl.find_ok hU h
      exact hs _ _ ihF ihG _ _ _ _ _ _ hb h

end
end Ev
