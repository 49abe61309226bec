/- A part of the proof that GcNone returns true: text Ev17. -/
import Derived.Test.YtiegdojchlmfnaaGreatDoorEv16
namespace Ev
open Go
open Go.RowKit
noncomputable section

/-! ### append -/

theorem went_alloc {P : Program} {θ : Theta} {h : Nat → Blk} {n B : Nat} {w w' : World} (r : HRel P θ h B w) (f : Fresh θ n) {ob : Obj} {b : Blk} {sz : Nat}
    (hh : w'.heap = w.heap.push ob) (ho : w'.os = w.os) (ht : w'.tape = w.tape) (hu : w'.output = w.output)
    (hb : BRel P (θ.add n ⟨w.heap.size, 0, sz⟩) B (w.alloc ob) ⟨w.heap.size, 0, sz⟩ b) : Went P θ h n B w (θ.add n ⟨w.heap.size, 0, sz⟩) (setB h n b) (n + 1) w' := by
  have hi := f n (Nat.le_refl _)
  have hh' : w'.heap = (w.alloc ob).heap := hh
  refine ⟨Theta.le_add hi _, by omega, fun x hx => ?_, ?_, f.add (by omega) (by omega), ?_, Grows.add r n b sz⟩
  · show (if n = x then _ else θ.blk x) = _
    rw [if_neg (by omega)]
  · exact (r.alloc hi ob b sz hb).keep (Theta.le_refl _) (by rw [hh']; exact Nat.le_refl _) (fun x l _ _ => by rw [hh'])
  · have := Frm.alloc θ h w ob
    exact ⟨ho, ht, hu, by rw [hh']; exact this.size, fun k hk hn => by rw [hh']; exact this.block k hk hn⟩

/-- A block is known no more. -/
theorem went_kill {P : Program} {θ : Theta} {h : Nat → Blk} {n B : Nat} {w : World} (r : HRel P θ h B w) (f : Fresh θ n) (b : Nat) : Went P θ h n B w θ (setB h b .dead) n w := by
  have hd : ∀ x, setB h b .dead x ≠ .dead → b ≠ x ∧ setB h b .dead x = h x := by
    intro x hx
    by_cases e : b = x
    · exact absurd (by simp [setB, e]) hx
    · exact ⟨e, by simp [setB, e]⟩
  refine ⟨Theta.le_refl _, Nat.le_refl _, fun _ _ => rfl, r.weaken (fun x hx => (hd x hx).2), f, Frm.refl _ _ _, fun x l hx hl => ?_, fun x l hx hl => ?_⟩
  · have := hd x (own_ne hx)
    exact .inl ⟨x, l, by rw [← this.2]; exact hx, hl, rfl⟩
  · have := hd x hx
    exact .inl ⟨x, l, by rw [← this.2]; exact hx, hl, rfl⟩

/-- The room behind the known part of a block is taken: the block goes on under another number. -/
theorem went_move {P : Program} {θ : Theta} {h : Nat → Blk} {n B : Nat} {w : World} (r : HRel P θ h B w) (f : Fresh θ n) {b : Nat} {loc : Loc} (hl : θ.blk b = some loc) {ex : Bool} {len : Nat} {c : Cells}
    (hb : h b = .cells false ex len c) {o q : Nat} {l : List AV} {vs : List Value} {c' : Cells} (hvs : concs θ l = some vs) (h1 : ∀ v ∈ vs, v.oneCell' = true)
    (hroom : o + q + l.length ≤ loc.size) (hkn : o + q ≤ len) (hd : q + l.length ≤ c'.dep)
    (hg : ∀ j, j < q + l.length → c'.get j = if j < q then c.get (o + j) else l.getD (j - q) .bad) :
    (storeCells (loc.addr (o + q)) vs).run P w = .ok () (w.setCells loc.blk (loc.off + (o + q)) vs) ∧
    Went P θ h n B w (θ.add n ⟨loc.blk, loc.off + o, loc.size - o⟩) (setB (setB h b .dead) n (.cells false false (q + l.length) c')) (n + 1) (w.setCells loc.blk (loc.off + (o + q)) vs) := by
  have hr := r.at hl
  rw [hb] at hr
  obtain ⟨hlen, hcells, hown⟩ := hr
  obtain ⟨hB, cs, e, hw, hs, hle, hex⟩ := hown rfl
  have hvl := concs_length hvs
  have hset := setCells_ok loc.blk e vs (loc.off + (o + q)) w cs hw (by omega)
  have hob : (h b).own = true := by rw [hb]; rfl
  have hnb : h b ≠ .dead := own_ne hob
  have hi := f n (Nat.le_refl _)
  have hbn : b ≠ n := by intro e; rw [e, hi] at hl; cases hl
  have hθ : θ.le (θ.add n ⟨loc.blk, loc.off + o, loc.size - o⟩) := Theta.le_add hi _
  have hother : ∀ k, k < w.heap.size → k ≠ loc.blk → (w.setCells loc.blk (loc.off + (o + q)) vs).heap[k]? = w.heap[k]? := fun k _ hk => hset.other k hk
  have hsize : w.heap.size ≤ (w.setCells loc.blk (loc.off + (o + q)) vs).heap.size := by rw [hset.size]; exact Nat.le_refl _
  constructor
  · have hst := run_storeCells_cells (P := P) loc.blk (loc.off + (o + q)) vs 0 w (fun j hj => ?_) (fun j hj => ?_) h1
    · exact hst
    · simp only [World.cell?, hw]
      simp
      omega
    · simp [World.frozen?, hw]
  · have known : ∀ x, x ≠ n → setB (setB h b .dead) n (.cells false false (q + l.length) c') x ≠ .dead → b ≠ x ∧ setB (setB h b .dead) n (.cells false false (q + l.length) c') x = h x := by
      intro x hx hxd
      simp only [setB, if_neg (Ne.symm hx)] at hxd ⊢
      by_cases e : b = x
      · rw [if_pos e] at hxd; exact absurd rfl hxd
      · rw [if_neg e]; exact ⟨e, rfl⟩
    have addx : ∀ x, x ≠ n → (θ.add n ⟨loc.blk, loc.off + o, loc.size - o⟩).blk x = θ.blk x := fun x hx => by
      show (if n = x then _ else θ.blk x) = _
      rw [if_neg (Ne.symm hx)]
    refine ⟨hθ, by omega, fun x hx => addx x (by omega), ⟨fun x hx => ?_, fun x y m m' hx hy e1 e2 e3 => ?_⟩, f.add (by omega) (by omega),
      Frm.turn hob hl hset.os hset.tape hset.output hsize hother, ⟨fun x m hx hm => ?_, fun x m hx hm => ?_⟩⟩
    · by_cases e : x = n
      · subst e
        refine ⟨_, Theta.add_self _ _ _, Nat.lt_of_lt_of_le (show loc.blk < w.heap.size from r.lt hnb hl) hsize, ?_⟩
        obtain ⟨cs', hw', hs', hg'⟩ := hset.self
        simp only [setB, if_true]
        refine ⟨hd, fun i hi' => ?_, fun _ => ⟨hB, cs', e, hw', by simp only [hs', hs]; omega, by simp only; omega, by simp⟩⟩
        have hcell : (w.setCells loc.blk (loc.off + (o + q)) vs).cell? ((⟨loc.blk, loc.off + o, loc.size - o⟩ : Loc).addr i) = cs'[loc.off + o + i]? := by simp [World.cell?, Loc.addr, hw']
        rw [hcell, hg', hg i hi']
        by_cases hiq : i < q
        · rw [if_pos hiq, if_neg (by omega)]
          obtain ⟨v, hv, hcv⟩ := hcells (o + i) (by omega)
          have hcell0 : w.cell? (loc.addr (o + i)) = cs[loc.off + (o + i)]? := by simp [World.cell?, Loc.addr, hw]
          rw [hcell0] at hcv
          exact ⟨v, conc_le hθ _ _ hv, by rw [← hcv]; congr 1; omega⟩
        · rw [if_neg hiq, if_pos (by omega)]
          obtain ⟨m, rfl⟩ : ∃ m, i = q + m := ⟨i - q, by omega⟩
          rw [show loc.off + o + (q + m) - (loc.off + (o + q)) = m from by omega, show q + m - q = m from by omega]
          have ha : l[m]? = some (l[m]'(by omega)) := List.getElem?_eq_getElem (by omega)
          obtain ⟨u, hu, hcu⟩ := concs_getElem hvs ha
          exact ⟨u, by rw [List.getD_eq_getElem?_getD, ha]; exact conc_le hθ _ _ hcu, hu⟩
      · obtain ⟨hbx, hxe⟩ := known x e hx
        rw [hxe] at hx ⊢
        obtain ⟨m, hm, hlt, hr⟩ := r.blk x hx
        exact ⟨m, by rw [addx x e]; exact hm, Nat.lt_of_lt_of_le hlt hsize, hr.keep hθ (hother _ hlt (fun e' => hbx (r.inj b x loc m hnb hx hl hm e'.symm)))⟩
    · have far : ∀ x m, x ≠ n → setB (setB h b .dead) n (.cells false false (q + l.length) c') x ≠ .dead → θ.blk x = some m → m.blk ≠ loc.blk := by
        intro x m hx hxd hm e
        obtain ⟨hbx, hxe⟩ := known x hx hxd
        rw [hxe] at hxd
        exact hbx (r.inj b x loc m hnb hxd hl hm e.symm)
      by_cases ex : x = n
      · by_cases ey : y = n
        · rw [ex, ey]
        · subst ex
          rw [Theta.add_self] at e1; injection e1 with e1; subst e1
          rw [addx y ey] at e2
          exact absurd e3.symm (far y m' ey hy e2)
      · by_cases ey : y = n
        · subst ey
          rw [Theta.add_self] at e2; injection e2 with e2; subst e2
          rw [addx x ex] at e1
          exact absurd e3 (far x m ex hx e1)
        · rw [addx x ex] at e1
          rw [addx y ey] at e2
          obtain ⟨_, hxe⟩ := known x ex hx
          obtain ⟨_, hye⟩ := known y ey hy
          rw [hxe] at hx; rw [hye] at hy
          exact r.inj x y m m' hx hy e1 e2 e3
    · by_cases e : x = n
      · subst e
        rw [Theta.add_self] at hm; injection hm with hm; subst hm
        exact .inl ⟨b, loc, hob, hl, rfl⟩
      · obtain ⟨_, hxe⟩ := known x e (own_ne hx)
        rw [addx x e] at hm
        exact .inl ⟨x, m, by rw [← hxe]; exact hx, hm, rfl⟩
    · by_cases e : x = n
      · subst e
        rw [Theta.add_self] at hm; injection hm with hm; subst hm
        exact .inl ⟨b, loc, hnb, hl, rfl⟩
      · obtain ⟨_, hxe⟩ := known x e hx
        rw [addx x e] at hm
        exact .inl ⟨x, m, by rw [← hxe]; exact hx, hm, rfl⟩

/-! What is appended. -/

def srcK (H : Heap) (x : AV) (sz : Nat) (k : Nat → List AV → Bool) : Bool :=
  x.ckSl (k 0 []) (fun b o len _ => at_ H b fun bl => bl.ckCells fun _ _ n c => forceN (Nat.mul len sz) fun m => ifB (Nat.ble (Nat.add o m) n) (c.rowK m o fun l => k len l)) (fun _ _ _ _ => k 0 [])

theorem srcK_ok {H : Heap} {x : AV} {sz : Nat} {k : Nat → List AV → Bool} (h : srcK H x sz k = true) :
    ∃ n l, k n l = true ∧ l.length = n * sz ∧ (∀ a ∈ l, a.one = true) ∧ ∀ (P : Program) (θ : Theta) (B : Nat) (w : World) (xv : Value), HRel P θ (hfn H) B w → VR θ x xv →
      ∃ news, concs θ l = some news ∧ ∀ (tx e' : TypeId), P.underlying tx = some (.slice e') → Src P sz tx xv n news w := by
  rcases ckSl_iff.1 h with ⟨hx, h⟩ | ⟨b, o, len, cap, hx, h⟩ | ⟨b, o, lo, es, hx, h⟩
  · refine ⟨0, [], h, by simp, fun a ha => by simp at ha, fun P θ B w xv r vx => ⟨[], rfl, fun tx e' hk => ?_⟩⟩
    rw [hx] at vx
    rw [vx.nils]
    exact Src.ofNil w hk 0
  · obtain ⟨hb, h⟩ := at_iff.1 h
    obtain ⟨ro, ex, n, c, hbl, h⟩ := ckCells_iff.1 h
    rw [forceN_eq] at h
    obtain ⟨hle, h⟩ := ifB_iff.1 h
    have hle : o + len * sz ≤ n := by simpa using hle
    obtain ⟨h1, h⟩ := rowK_ok h
    refine ⟨len, _, h, row_length, h1, fun P θ B w xv r vx => ?_⟩
    rw [hx] at vx
    obtain ⟨l, hl, vx⟩ := vx.sl
    have hr := r.at hl
    rw [hbl] at hr
    obtain ⟨vs, g1, g2, g3⟩ := row_ok hr (len * sz) o hle
    refine ⟨vs, g1, fun tx e' hk => ?_⟩
    rw [vx]
    exact Src.ofSlice w hk _ _ _ vs g2 (fun j u hj => by rw [Loc.addr_add]; exact g3 j u hj) (ones_conc h1 g1)
  · refine ⟨0, [], h, by simp, fun a ha => by simp at ha, fun P θ B w xv r vx => ⟨[], rfl, fun tx e' hk => ?_⟩⟩
    rw [hx] at vx
    have hcc := vx.conc (by simp)
    simp only [Ev.conc, Option.map_eq_some_iff] at hcc
    obtain ⟨l, _, hcc⟩ := hcc
    have : ∃ ad cp, xv = .slice (some ad) 0 cp := by rw [← hcc]; split <;> exact ⟨_, _, rfl⟩
    obtain ⟨ad, cp, rfl⟩ := this
    exact Src.ofSlice w hk ad 0 cp [] (by simp) (fun j u hj => by simp at hj) (fun u hu => by simp at hu)

/-- Room for so many cells. -/
def Cells.room1 (n : Nat) (k f : Cells → Bool) (c : Cells) : Bool := Bool.rec ((fun d => f d) c.grow) (k c) (Nat.ble n c.dep)
def Cells.roomK (c : Cells) (n : Nat) (k : Cells → Bool) : Bool := Cells.room1 n k (Cells.room1 n k (Cells.room1 n k fun d => ifB (Nat.ble n (Cells.dep d)) (k d))) c

theorem Cells.room1_ok {n : Nat} {k f : Cells → Bool} (hf : ∀ c, f c = true → ∃ d : Cells, k d = true ∧ n ≤ d.dep ∧ c.dep ≤ d.dep ∧ ∀ i, i < c.dep → d.get i = c.get i) (c : Cells) (h : Cells.room1 n k f c = true) :
    ∃ d : Cells, k d = true ∧ n ≤ d.dep ∧ c.dep ≤ d.dep ∧ ∀ i, i < c.dep → d.get i = c.get i := by
  unfold Cells.room1 at h
  cases hn : Nat.ble n c.dep with
  | true => rw [hn] at h; exact ⟨c, h, by simpa using hn, Nat.le_refl _, fun _ _ => rfl⟩
  | false =>
    simp only [hn] at h
    obtain ⟨d, h1, h2, h3, h4⟩ := hf _ h
    exact ⟨d, h1, h2, Nat.le_trans c.dep_grow h3, fun i hi => (h4 i (Nat.lt_of_lt_of_le hi c.dep_grow)).trans (c.get_grow hi)⟩

theorem Cells.roomK_ok {c : Cells} {n : Nat} {k : Cells → Bool} (h : c.roomK n k = true) : ∃ d : Cells, k d = true ∧ n ≤ d.dep ∧ c.dep ≤ d.dep ∧ ∀ i, i < c.dep → d.get i = c.get i :=
  Cells.room1_ok (fun c h => Cells.room1_ok (fun c h => Cells.room1_ok (fun c h => by
    obtain ⟨hd, h⟩ := ifB_iff.1 h
    exact ⟨c, h, by simpa using hd, Nat.le_refl _, fun _ _ => rfl⟩) c h) c h) c h

/-- The cells of the new row: those of the old one, as far as the slice goes, and the news. -/
def joinK (c : Cells) (o q : Nat) (news : List AV) (k : Cells → Bool) : Bool :=
  Bool.rec (c.rowK q o fun old => cellsK (old ++ news) k) (c.roomK (Nat.add q news.length) fun d => fillK news d q k) (Nat.beq o 0)

theorem joinK_ok {c : Cells} {o q : Nat} {news : List AV} {k : Cells → Bool} (hc : o + q ≤ c.dep) (h : joinK c o q news k = true) :
    ∃ d : Cells, k d = true ∧ q + news.length ≤ d.dep ∧ ∀ j, j < q + news.length → d.get j = if j < q then c.get (o + j) else news.getD (j - q) .bad := by
  unfold joinK at h
  cases ho : Nat.beq o 0 with
  | true =>
    simp only [ho] at h
    have e : o = 0 := by simpa using ho
    subst e
    obtain ⟨d, h, h1, h2, h3⟩ := Cells.roomK_ok h
    have h1 : q + news.length ≤ d.dep := h1
    obtain ⟨d', hk, hd, hg⟩ := fillK_ok h h1
    refine ⟨d', hk, by omega, fun j hj => ?_⟩
    rw [hg j (by omega)]
    by_cases hjq : j < q
    · rw [if_pos hjq, if_neg (by omega), h3 j (by omega)]
      congr 1; omega
    · rw [if_neg hjq, if_pos (by omega)]
  | false =>
    simp only [ho] at h
    obtain ⟨_, h⟩ := rowK_ok h
    obtain ⟨d, hk, hd, hg⟩ := cellsK_ok h
    simp only [List.length_append, row_length] at hd hg
    refine ⟨d, hk, hd, fun j hj => ?_⟩
    rw [hg j hj, List.getD_eq_getElem?_getD]
    by_cases hjq : j < q
    · rw [if_pos hjq, List.getElem?_append_left (by rw [row_length]; exact hjq), row_get hjq]
      rfl
    · rw [if_neg hjq, List.getElem?_append_right (by rw [row_length]; omega), row_length, List.getD_eq_getElem?_getD]

def newOpn (H : Heap) (n t : Nat) (c : Cells) (sz z : Nat) (k : AV → Heap → Nat → Bool) : Bool :=
  ifB (Nat.blt n 32768) (hput H n (.cells false false t c) fun H => forceN (Nat.succ n) fun n' => k (.sl n 0 z (.opn sz)) H n')

theorem newOpn_ok {H : Heap} {n t : Nat} {c : Cells} {sz z : Nat} {k : AV → Heap → Nat → Bool} (h : newOpn H n t c sz z k = true) :
    n < 32768 ∧ k (.sl n 0 z (.opn sz)) (Tr.put 5 H n (.cells false false t c)) (n + 1) = true := by
  obtain ⟨hn, h⟩ := ifB_iff.1 h
  rw [hput_eq, forceN_eq] at h
  exact ⟨by simpa [blt_eq] using hn, h⟩

def growK (sz : Nat) (kill : Bool) (H : Heap) (n b o len m : Nat) (news : List AV) (k : AV → Heap → Nat → Bool) : Bool :=
  at_ H b fun bl => bl.ckCells fun ro _ blen cs => forceN (Nat.mul len sz) fun q => ifB (Nat.ble (Nat.add o q) blen) (joinK cs o q news fun cs => forceN (Nat.add q news.length) fun t => forceN (Nat.add len m) fun z =>
    Bool.rec (newOpn H n t cs sz z k) (Bool.rec (hput H b .dead fun H => newOpn H n t cs sz z k) false ro) kill)

def fitK (sz : Nat) (H : Heap) (n b o len m : Nat) (cap : Cap) (news : List AV) (k : AV → Heap → Nat → Bool) : Bool :=
  forceN (Nat.add o (Nat.mul len sz)) fun q => writeK H b q news fun H => forceN (Nat.add len m) fun z => k (.sl b o z cap) H n

def appSl (sz : Nat) (H : Heap) (n : Nat) (s : AV) (b o len : Nat) (cap : Cap) (m : Nat) (news : List AV) (k : AV → Heap → Nat → Bool) : Bool :=
  Cap.casesOn (motive := fun _ => Bool) cap
    (fun c => Bool.rec (growK sz false H n b o len m news k) (fitK sz H n b o len m (.known c) news k) (Nat.ble (Nat.add len m) c))
    (fun es => ifB (Nat.beq es sz) (Bool.rec
      (at_ H b fun bl => bl.ckCells fun _ _ blen _ => Bool.rec (growK sz true H n b o len m news k) (fitK sz H n b o len m (.opn es) news k) (Nat.ble (Nat.add o (Nat.mul (Nat.add len m) sz)) blen))
      (k s H n) (Nat.beq m 0)))

def appendE (P : Program) (t tx : Nat) (H : Heap) (n : Nat) (s x : AV) (k : AV → Heap → Nat → Bool) : Bool :=
  match P.underlying t with
  | some (.slice e) => (match P.underlying tx with
    | some (.slice _) => (match zeroA P e with
      | some (_ :: _) => if (P.info? e).any (fun i => decide (i.bytes ≤ 100000)) then
          srcK H x (P.cellsOf e) fun m news =>
            s.ckSl (Bool.rec (cellsK news fun c => forceN news.length fun t => newOpn H n t c (P.cellsOf e) m k) (k .nils H n) (Nat.beq m 0))
              (fun b o len cap => appSl (P.cellsOf e) H n s b o len cap m news k)
              (fun _ _ _ _ => false)
        else false
      | _ => false)
    | _ => false)
  | _ => false

/-- What append asks of the types. -/
structure AppT (P : Program) (t tx e : Nat) (i : TypeInfo) (zv : Value) : Prop where
  ht : P.underlying t = some (.slice e)
  htx : ∃ e', P.underlying tx = some (.slice e')
  hi : P.info? e = some i
  hz : i.zero = some zv
  hzs : zv.cells.size = i.size
  pos : 0 < i.size
  small : i.bytes ≤ 100000

/-- The answer of append, where a new row is made. -/
theorem app_grow {P : Program} {t tx ty e : Nat} {i : TypeInfo} {zv : Value} (T : AppT P t tx e i zv) {θ : Theta} {h : Nat → Blk} {n B : Nat} {w : World} (r : HRel P θ h B w) (f : Fresh θ n) (hB : B ≤ w.heap.size)
    {base : Option Addr} {sLen sCap m : Nat} {xv : Value} {news olds : List Value} (hs : Src P i.size tx xv m news w)
    (hold : (Builtin.firstCells i.size sLen (.slice base sLen sCap)).run P w.drew = .ok olds.toArray w.drew) (hg : sCap < sLen + m) (hlim : sLen + m ≤ 4096)
    {l : List AV} (hl : concs θ l = some (olds ++ news)) (hlen : l.length = (sLen + m) * i.size) {c : Cells} (hd : l.length ≤ c.dep) (hc : ∀ j, j < l.length → c.get j = l.getD j .bad) :
    ∃ v' w' θ', (Builtin.append_ #[t, tx] ty #[.slice base sLen sCap, xv]).run P w = .ok v' w' ∧ Went P θ h n B w θ' (setB h n (.cells false false l.length c)) (n + 1) w' ∧ VR θ' (.sl n 0 (sLen + m) (.opn i.size)) v' := by
  have hbytes : (sLen + m) * i.bytes ≤ 140737488355328 := Nat.le_trans (Nat.mul_le_mul hlim T.small) (by decide)
  have hrun := run_append_grow_src (P := P) w t tx ty e i zv T.ht T.hi T.hz base sLen sCap olds hold xv m news hs hg (by omega) (growslice_fits hg hbytes)
  have hge := grownCap_ge w (sLen + m) sCap e
  have hsz : ((olds ++ news).toArray ++ Builtin.zeroCells zv.cells (grownCap w (sLen + m) sCap e - (sLen + m))) = ((olds ++ news) ++ (Builtin.zeroCells zv.cells (grownCap w (sLen + m) sCap e - (sLen + m))).toList).toArray := by
    apply Array.ext'
    simp
  rw [hsz] at hrun
  have hzl : (Builtin.zeroCells zv.cells (grownCap w (sLen + m) sCap e - (sLen + m))).toList.length = (grownCap w (sLen + m) sCap e - (sLen + m)) * i.size := by simp [Builtin.zeroCells, T.hzs]
  have hi := f n (Nat.le_refl _)
  have hb := BRel.cells_new (P := P) (w := w) hB n hi e (Builtin.zeroCells zv.cells (grownCap w (sLen + m) sCap e - (sLen + m))).toList false (by simp) hl hd hc
  have htot : l.length + (Builtin.zeroCells zv.cells (grownCap w (sLen + m) sCap e - (sLen + m))).toList.length = grownCap w (sLen + m) sCap e * i.size := by
    rw [hzl, hlen, ← Nat.add_mul]
    congr 1
    omega
  rw [htot] at hb
  refine ⟨_, _, _, hrun, went_alloc r f (by rfl) rfl rfl rfl hb, .inr ?_⟩
  have hq : (grownCap w (sLen + m) sCap e * i.size - 0) / i.size = grownCap w (sLen + m) sCap e := by rw [Nat.sub_zero]; exact Nat.mul_div_cancel _ T.pos
  have := conc_sl (b := n) (o := 0) (len := sLen + m) (cap := .opn i.size) (Theta.add_self θ n ⟨w.heap.size, 0, grownCap w (sLen + m) sCap e * i.size⟩) (by show sLen + m ≤ _; rw [hq]; exact hge)
  rw [this]
  simp only [Cap.of, hq]
  rfl

/-- The answer of append, where there is room. -/
theorem app_fit {P : Program} {t tx ty e : Nat} {i : TypeInfo} {zv : Value} (T : AppT P t tx e i zv) {w : World} {loc : Loc} {o sLen sCap m : Nat} {xv : Value} {news : List Value} (hs : Src P i.size tx xv m news w)
    {cs : Array Value} {te : TypeId} (hw : w.heap[loc.blk]? = some (.cells cs te (0, 0))) (hroom : sLen + m ≤ sCap) (hcs : loc.off + (o + sLen * i.size) + news.length ≤ cs.size) :
    (Builtin.append_ #[t, tx] ty #[.slice (some (loc.addr o)) sLen sCap, xv]).run P w = .ok (.slice (some (loc.addr o)) (sLen + m) sCap) (w.setCells loc.blk (loc.off + (o + sLen * i.size)) news) := by
  have := run_append_room_src (P := P) w t tx ty e i T.ht T.hi loc.blk (loc.off + o) sLen sCap xv m news hs hroom (fun j hj => ?_) (fun j hj => ?_)
  · rw [show loc.off + (o + sLen * i.size) = loc.off + o + sLen * i.size from by omega]
    exact this
  · simp only [World.cell?, hw]
    simp
    omega
  · simp [World.frozen?, hw]

/-- The world's own part: what append answers. -/
def AppRes (P : Program) (t tx ty : Nat) (H : Heap) (n : Nat) (s x : AV) (v : AV) (H' : Heap) (n' : Nat) : Prop :=
  ∀ (θ : Theta) (w : World) (B : Nat) (sv xv : Value), HRel P θ (hfn H) B w → Fresh θ n → B ≤ w.heap.size → VR θ s sv → VR θ x xv →
    ∃ v' w' θ', (Builtin.append_ #[t, tx] ty #[sv, xv]).run P w = .ok v' w' ∧ Went P θ (hfn H) n B w θ' (hfn H') n' w' ∧ VR θ' v v'

theorem addr_lit (l : Loc) (o : Nat) : (⟨l.blk, l.off + o, none⟩ : Addr) = l.addr o := rfl

theorem fit_ok {P : Program} {t tx ty e : Nat} {i : TypeInfo} {zv : Value} (T : AppT P t tx e i zv) {H : Heap} {n b o len m : Nat} {cap : Cap} {x : AV} {news : List AV} {k : AV → Heap → Nat → Bool}
    (hsrc : ∀ (P : Program) (θ : Theta) (B : Nat) (w : World) (xv : Value), HRel P θ (hfn H) B w → VR θ x xv → ∃ vs, concs θ news = some vs ∧ ∀ (tx e' : TypeId), P.underlying tx = some (.slice e') → Src P i.size tx xv m vs w)
    (hnl : news.length = m * i.size)
    (hcap : ∀ ex blen c (loc : Loc) w B θ, hfn H b = .cells false ex blen c → o + (len + m) * i.size ≤ blen → HRel P θ (hfn H) B w → θ.blk b = some loc → cap.ok loc o len → len + m ≤ cap.of loc o ∧ cap.ok loc o (len + m))
    (h : fitK i.size H n b o len m cap news k = true) : ∃ v H' n', k v H' n' = true ∧ AppRes P t tx ty H n (.sl b o len cap) x v H' n' := by
  unfold fitK at h
  rw [forceN_eq] at h
  obtain ⟨bl, hb, h, h1, ⟨ex, blen, c, hbl, hle⟩, hq⟩ := writeK_ok h
  rw [forceN_eq] at h
  have hle : o + len * i.size + news.length ≤ blen := hle
  refine ⟨_, _, _, h, fun θ w B sv xv r f hB vs vx => ?_⟩
  obtain ⟨loc, hl, rfl, hok⟩ := vs.sl'
  obtain ⟨nv, hnv, hS⟩ := hsrc P θ B w xv r vx
  obtain ⟨e', htx⟩ := T.htx
  have hs := hS tx e' htx
  obtain ⟨_, hw⟩ := hq P θ n B w nv loc r f hl hnv
  have hr := r.at hl
  rw [hbl] at hr
  obtain ⟨_, cs, te, hcs, hsz, hle2, _⟩ := hr.2.2 rfl
  obtain ⟨hroom, hok'⟩ := hcap ex blen c loc w B θ hbl (by rw [Nat.add_mul]; omega) r hl hok
  have hvl := concs_length hnv
  refine ⟨_, _, θ, app_fit T hs hcs hroom (by omega), hw, .inr ?_⟩
  show Ev.conc θ (.sl b o (len + m) cap) = _
  rw [conc_sl hl hok']

theorem grow_ok {P : Program} {t tx ty e : Nat} {i : TypeInfo} {zv : Value} (T : AppT P t tx e i zv) {H : Heap} {n b o len m : Nat} {cap : Cap} {x : AV} {news : List AV} {k : AV → Heap → Nat → Bool} {kill : Bool}
    (hsrc : ∀ (P : Program) (θ : Theta) (B : Nat) (w : World) (xv : Value), HRel P θ (hfn H) B w → VR θ x xv → ∃ vs, concs θ news = some vs ∧ ∀ (tx e' : TypeId), P.underlying tx = some (.slice e') → Src P i.size tx xv m vs w)
    (hnl : news.length = m * i.size) (h1 : ∀ a ∈ news, a.one = true)
    (hcap : (kill = false ∧ ∃ c, cap = .known c ∧ c < len + m) ∨ (kill = true ∧ cap = .opn i.size))
    (h : growK i.size kill H n b o len m news k = true) : ∃ v H' n', k v H' n' = true ∧ AppRes P t tx ty H n (.sl b o len cap) x v H' n' := by
  obtain ⟨hb, h⟩ := at_iff.1 h
  obtain ⟨ro, ex, blen, cs, hbl, h⟩ := ckCells_iff.1 h
  rw [forceN_eq] at h
  obtain ⟨hle, h⟩ := ifB_iff.1 h
  have hle : o + len * i.size ≤ blen := by simpa using hle
  -- the tree's room
  have hroomc : ∀ (θ : Theta) (w : World) (B : Nat) (loc : Loc), HRel P θ (hfn H) B w → θ.blk b = some loc → blen ≤ cs.dep := by
    intro θ w B loc r hl
    have hr := r.at hl
    rw [hbl] at hr
    exact hr.1
  by_cases hdep : blen ≤ cs.dep
  · obtain ⟨d, h, hd, hg⟩ := joinK_ok (by show o + len * i.size ≤ cs.dep; omega) h
    have hd : len * i.size + news.length ≤ d.dep := hd
    have hg : ∀ j, j < len * i.size + news.length → d.get j = if j < len * i.size then cs.get (o + j) else news.getD (j - len * i.size) .bad := hg
    simp only [forceN_eq] at h
    have hll : (cs.row o (len * i.size) ++ news).length = len * i.size + news.length := by rw [List.length_append, row_length]
    have hgl : ∀ j, j < (cs.row o (len * i.size) ++ news).length → d.get j = (cs.row o (len * i.size) ++ news).getD j .bad := by
      intro j hj
      rw [hll] at hj
      rw [hg j hj]
      by_cases hjq : j < len * i.size
      · rw [if_pos hjq, List.getD_eq_getElem?_getD, List.getElem?_append_left (by rw [row_length]; exact hjq), row_get hjq]
        rfl
      · rw [if_neg hjq, List.getD_eq_getElem?_getD, List.getD_eq_getElem?_getD, List.getElem?_append_right (by rw [row_length]; omega), row_length]
    have hlen : (cs.row o (len * i.size) ++ news).length = (len + m) * i.size := by rw [hll, hnl, Nat.add_mul]
    have hlim : len + m ≤ 4096 := by
      have h2 : (len + m) * 1 ≤ (len + m) * i.size := Nat.mul_le_mul_left _ T.pos
      have h3 := Cells.dep_le d
      omega
    have hadd : Nat.add (Nat.mul len i.size) news.length = (cs.row o (len * i.size) ++ news).length := hll.symm
    -- what the old cells are
    have olds : ∀ (θ : Theta) (w : World) (B : Nat) (loc : Loc) (c : Nat), HRel P θ (hfn H) B w → θ.blk b = some loc → ∃ ov, concs θ (cs.row o (len * i.size)) = some ov ∧
        (Builtin.firstCells i.size len (.slice (some (loc.addr o)) len c)).run P w.drew = .ok ov.toArray w.drew := by
      intro θ w B loc c r hl
      have hr := r.at hl
      rw [hbl] at hr
      obtain ⟨ov, g1, g2, g3⟩ := row_ok hr (len * i.size) o hle
      exact ⟨ov, g1, run_firstCells_some w.drew i.size len (loc.addr o) len c ov g2 (fun j u hj => by rw [Loc.addr_add]; exact g3 j u hj)⟩
    rcases hcap with ⟨rfl, c, rfl, hlt⟩ | ⟨rfl, rfl⟩
    · obtain ⟨hn, h⟩ := newOpn_ok h
      refine ⟨_, _, _, h, fun θ w B sv xv r f hB vs vx => ?_⟩
      obtain ⟨loc, hl, rfl⟩ := vs.sl
      obtain ⟨nv, hnv, hS⟩ := hsrc P θ B w xv r vx
      obtain ⟨e', htx⟩ := T.htx
      have hs := hS tx e' htx
      obtain ⟨ov, g1, g2⟩ := olds θ w B loc c r hl
      obtain ⟨v', w', θ', h1', h2', h3'⟩ := app_grow (ty := ty) T r f hB hs g2 hlt hlim (concs_append g1 hnv) hlen (by rw [hll]; exact hd) hgl
      refine ⟨v', w', θ', h1', ?_, h3'⟩
      rw [hfn_put _ _ hn, hadd]
      exact h2'
    · cases ro with
      | true => exact (Bool.false_ne_true h).elim
      | false =>
        simp only [hput_eq] at h
        obtain ⟨hn, h⟩ := newOpn_ok h
        refine ⟨_, _, _, h, fun θ w B sv xv r f hB vs vx => ?_⟩
        obtain ⟨loc, hl, rfl, hok⟩ := vs.sl'
        obtain ⟨nv, hnv, hS⟩ := hsrc P θ B w xv r vx
        obtain ⟨e', htx⟩ := T.htx
        have hs := hS tx e' htx
        have hvl := concs_length hnv
        rw [hfn_put _ _ hn, hfn_put _ _ hb, hadd]
        by_cases hroom : len + m ≤ (loc.size - o) / i.size
        · have hr := r.at hl
          rw [hbl] at hr
          obtain ⟨_, rcs, te, hcs, hsz, hle2, _⟩ := hr.2.2 rfl
          have hmul : (len + m) * i.size ≤ loc.size - o := (Nat.le_div_iff_mul_le T.pos).1 hroom
          have hsum : (len + m) * i.size = len * i.size + news.length := by rw [Nat.add_mul, hnl]
          obtain ⟨hst, hw⟩ := went_move r f hl hbl (o := o) (q := len * i.size) hnv (ones_conc h1 hnv) (by omega) hle (c' := d) hd hg
          refine ⟨_, _, _, app_fit T hs hcs (sCap := (Cap.opn i.size).of loc o) hroom (by omega), by rw [hll]; exact hw, .inr ?_⟩
          have := conc_sl (b := n) (o := 0) (len := len + m) (cap := .opn i.size) (Theta.add_self θ n ⟨loc.blk, loc.off + o, loc.size - o⟩) (by show len + m ≤ (loc.size - o - 0) / i.size; rw [Nat.sub_zero]; exact hroom)
          show Ev.conc _ (.sl n 0 (len + m) (.opn i.size)) = _
          rw [this]
          simp only [Cap.of, Nat.sub_zero, Loc.addr, Nat.add_zero]
        · have wk := went_kill r f b
          obtain ⟨ov, g1, g2⟩ := olds θ w B loc ((loc.size - o) / i.size) r hl
          obtain ⟨v', w', θ', h1', h2', h3'⟩ := app_grow (ty := ty) T wk.rel wk.fresh hB hs g2 (by omega) hlim (concs_append g1 hnv) hlen (by rw [hll]; exact hd) hgl
          exact ⟨v', w', θ', h1', wk.trans h2', h3'⟩
  · have key : ∃ v H' n', k v H' n' = true := by
      have jk : ∀ {c : Cells} {o q : Nat} {news : List AV} {k' : Cells → Bool}, joinK c o q news k' = true → ∃ d, k' d = true := by
        have fk : ∀ (l : List AV) (c : Cells) (i : Nat) (k' : Cells → Bool), fillK l c i k' = true → ∃ c', k' c' = true := by
          intro l
          induction l with
          | nil => intro c i k' h; exact ⟨c, h⟩
          | cons a l ih =>
            intro c i k' h
            have h : (c.setK i a fun c => fillK l c (i + 1) k') = true := h
            rw [Cells.setK_eq] at h
            exact ih _ _ _ h
        intro c o q news k' h
        unfold joinK at h
        cases ho : Nat.beq o 0 with
        | true =>
          simp only [ho] at h
          obtain ⟨d, h, _⟩ := Cells.roomK_ok h
          exact fk _ _ _ _ h
        | false =>
          simp only [ho] at h
          obtain ⟨_, h⟩ := rowK_ok h
          obtain ⟨d, h, _⟩ := cellsK_ok h
          exact ⟨d, h⟩
      obtain ⟨d, h⟩ := jk h
      simp only [forceN_eq] at h
      cases kill with
      | false => exact ⟨_, _, _, (newOpn_ok h).2⟩
      | true =>
        cases ro with
        | true => exact (Bool.false_ne_true h).elim
        | false =>
          simp only [hput_eq] at h
          exact ⟨_, _, _, (newOpn_ok h).2⟩
    obtain ⟨v, H', n', hk⟩ := key
    refine ⟨v, H', n', hk, fun θ w B sv xv r f hB vs vx => ?_⟩
    obtain ⟨loc, hl, rfl⟩ := vs.sl
    exact absurd (hroomc θ w B loc r hl) hdep

theorem run_append_none {P : Program} {t tx ty e : Nat} {i : TypeInfo} {zv : Value} (T : AppT P t tx e i zv) {w : World} {xv sv : Value} (hs : Src P i.size tx xv 0 [] w) (hsv : sv = .slice none 0 0 ∨ ∃ a n c, sv = .slice (some a) n c ∧ n ≤ c) :
    (Builtin.append_ #[t, tx] ty #[sv, xv]).run P w = .ok sv w := by
  obtain ⟨e', htx⟩ := T.htx
  rcases hsv with rfl | ⟨a, n, c, rfl, hle⟩
  · simp [Builtin.append_, run_underlying T.ht, run_underlying htx, typeInfo, T.hi, hs.len, hs.cells, Go.sizeOf]
  · simp [Builtin.append_, run_underlying T.ht, run_underlying htx, typeInfo, T.hi, hs.len, hs.cells, hle, storeCells, Go.sizeOf]

theorem heavy_append {P : Program} {env : List AV} {o : Oper} {c : Call} {t tx : Nat} {s x : Operand} {H : Heap} {n : Nat} {k : AV → Heap → Nat → Bool} (ho : o.op = .call c) (hc : c.callee = .builtin .append) (ha : c.args = #[s, x]) (ht : c.argTypes = #[t, tx])
    (h : appendE P t tx H n (ev P env s) (ev P env x) k = true) : ∃ v H' n', k v H' n' = true ∧ HeavySpec P env o H n v H' n' := by
  suffices hh : ∃ v H' n', k v H' n' = true ∧ AppRes P t tx o.type H n (ev P env s) (ev P env x) v H' n' by
    obtain ⟨v, H', n', hk, hr⟩ := hh
    refine ⟨v, H', n', hk, fun θ ac w B r f hB hO => ?_⟩
    have hs := hO.at (x := s) (by simp [ho, Op.operands, Call.operands, hc, ha])
    have hx := hO.at (x := x) (by simp [ho, Op.operands, Call.operands, hc, ha])
    obtain ⟨v', w', θ', h1, h2, h3⟩ := hr θ w B _ _ r f hB hs hx
    refine ⟨v', w', θ', .inl ?_, h2, h3⟩
    simp [execOp, ho, resolve, hc, ha, ht, invoke, builtin, h1]
  unfold appendE at h
  split at h
  · rename_i e hu
    split at h
    · rename_i e2 hu2
      split at h
      · rename_i z zs hz
        split at h
        · rename_i hby
          obtain ⟨i, zv, hi, hzv, hsz, hzc⟩ := zeroA_info hz
          obtain ⟨hzl, _⟩ := zeroA_ok hz
          have T : AppT P t tx e i zv := by
            refine ⟨hu, ⟨e2, hu2⟩, hi, hzv, ?_, ?_, by simpa [hi] using hby⟩
            · obtain ⟨vs, hvs, hcl⟩ := hzc ⟨fun _ => none, fun _ => none⟩
              have := concs_length hvs
              rw [hcl, hsz, ← hzl, ← this]
              simp
            · rw [hsz, ← hzl]; simp
          rw [← hsz] at h
          obtain ⟨m, news, h, hnl, h1, hsrc⟩ := srcK_ok h
          rcases ckSl_iff.1 h with ⟨hx, h⟩ | ⟨b, q, len, cap, hx, h⟩ | ⟨b, q, lo, es, hx, h⟩
          · rw [hx]
            cases hm : Nat.beq m 0 with
            | true =>
              simp only [hm] at h
              have hk := h
              obtain rfl : m = 0 := by simpa using hm
              have hnn : news = [] := List.eq_nil_of_length_eq_zero (by rw [hnl]; simp)
              subst hnn
              refine ⟨_, _, _, hk, fun θ w B sv xv r f hB vs vx => ?_⟩
              obtain ⟨nv, hnv, hS⟩ := hsrc P θ B w xv r vx
              simp only [concs, Option.some.injEq] at hnv
              subst hnv
              exact ⟨sv, w, θ, run_append_none T (hS tx e2 hu2) (.inl vs.nils), Went.refl r f, vs⟩
            | false =>
              simp only [hm] at h
              have hm0 : m ≠ 0 := by intro e; rw [e] at hm; simp at hm
              obtain ⟨c, h, hd, hg⟩ := cellsK_ok h
              rw [forceN_eq] at h
              obtain ⟨hn, h⟩ := newOpn_ok h
              refine ⟨_, _, _, h, fun θ w B sv xv r f hB vs vx => ?_⟩
              obtain ⟨nv, hnv, hS⟩ := hsrc P θ B w xv r vx
              have hs := hS tx e2 hu2
              rw [vs.nils, hfn_put _ _ hn]
              have hlim : 0 + m ≤ 4096 := by
                have h2 : m * 1 ≤ m * i.size := Nat.mul_le_mul_left _ T.pos
                have h3 := Cells.dep_le c
                omega
              have := app_grow (ty := o.type) (base := none) (sLen := 0) (sCap := 0) (olds := []) T r f hB hs (run_firstCells_none w.drew i.size 0 0 0) (by omega) hlim (l := news) (by simpa using hnv) (by simpa using hnl) hd hg
              simpa using this
          · rw [hx]
            unfold appSl at h
            cases cap with
            | known cp =>
              cases hfit : Nat.ble (Nat.add len m) cp with
              | true =>
                simp only [hfit] at h
                have hle : len + m ≤ cp := by simpa using hfit
                exact fit_ok T hsrc hnl (fun _ _ _ _ _ _ _ _ _ _ _ _ => ⟨hle, trivial⟩) h
              | false =>
                simp only [hfit] at h
                have hlt : cp < len + m := by
                  have : ¬ (len + m ≤ cp) := by intro e; have e2 : Nat.ble (Nat.add len m) cp = true := Nat.ble_eq_true_of_le e; rw [e2] at hfit; cases hfit
                  omega
                exact grow_ok T hsrc hnl h1 (.inl ⟨rfl, cp, rfl, hlt⟩) h
            | opn es =>
              obtain ⟨hes, h9⟩ := ifB_iff.1 h
              clear h
              obtain rfl : es = i.size := by simpa using hes
              cases hm : Nat.beq m 0 with
              | true =>
                simp only [hm] at h9
                obtain rfl : m = 0 := by simpa using hm
                have hnn : news = [] := List.eq_nil_of_length_eq_zero (by rw [hnl]; simp)
                rw [hx] at h9
                have hk := h9
                subst hnn
                refine ⟨_, _, _, hk, fun θ w B sv xv r f hB vs vx => ?_⟩
                obtain ⟨nv, hnv, hS⟩ := hsrc P θ B w xv r vx
                simp only [concs, Option.some.injEq] at hnv
                subst hnv
                obtain ⟨loc, hl, hv, hok⟩ := vs.sl'
                exact ⟨sv, w, θ, run_append_none T (hS tx e2 hu2) (.inr ⟨_, _, _, hv, hok⟩), Went.refl r f, vs⟩
              | false =>
                simp only [hm] at h9
                obtain ⟨hb, h⟩ := at_iff.1 h9
                obtain ⟨ro, ex, blen, cs, hbl, h⟩ := ckCells_iff.1 h
                cases hfit : Nat.ble (Nat.add q (Nat.mul (Nat.add len m) i.size)) blen with
                | true =>
                  simp only [hfit] at h
                  have hle : q + (len + m) * i.size ≤ blen := by simpa using hfit
                  refine fit_ok T hsrc hnl (fun ex' blen' c' loc w B θ hb' hle' r hl hok => ?_) h
                  have hr := r.at hl
                  rw [hb'] at hr
                  obtain ⟨_, rcs, te, hcs, hs, hle2, _⟩ := hr.2.2 rfl
                  have : len + m ≤ (loc.size - q) / i.size := (Nat.le_div_iff_mul_le T.pos).2 (by omega)
                  exact ⟨this, this⟩
                | false =>
                  simp only [hfit] at h
                  exact grow_ok T hsrc hnl h1 (.inr ⟨rfl, rfl⟩) h
          · exact (Bool.false_ne_true h).elim
        · cases h
      · cases h
    · cases h
  · cases h

end
end Ev
