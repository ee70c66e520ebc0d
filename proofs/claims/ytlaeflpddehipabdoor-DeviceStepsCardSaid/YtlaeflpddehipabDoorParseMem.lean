/- image.Parse: what it holds in memory on its way. -/
import Derived.Test.YtlaeflpddehipabDoorReader2
import Derived.Test.YtlaeflpddehipabDoorOwnRow
set_option linter.unusedVariables false
namespace Go.Proofs.YtlaeflpddehipabDoor
open Go.RowKit

theorem Tryd.infoReg : (Tryd.prog.info? 88).map (fun i => (i.zero, i.size, i.bytes)) = some (some (.agg #[.bool false, .int .i64 0]), 2, 16) := by kernel_rfl
theorem Tryd.infoLut : (Tryd.prog.info? 90).map (fun i => (i.zero, i.size, i.bytes)) = some (some (.agg #[.slice none 0 0, .int .i64 0]), 2, 32) := by kernel_rfl

theorem Tryd.infoOutInt : (Tryd.prog.info? 3).map (fun i => (i.zero, i.size, i.bytes)) = some (some (.int .i64 0), 1, 8) := by kernel_rfl

def lnV (y : Lay) (L : LN) : Array Value := #[.int .i64 L.given, .slice y.ar L.regs.length y.cr, .slice y.al L.luts.length y.cl, .slice y.ao L.outs.length y.co]
theorem lnCell1 {W : World} {bn T : Nat} {y : Lay} {L : LN} (h : W.heap[bn]? = some (.cells (lnV y L) T (0, 0))) : W.cell? ⟨bn, 1, none⟩ = some (.slice y.ar L.regs.length y.cr) := (cell_block h 1).trans rfl
theorem lnCell2 {W : World} {bn T : Nat} {y : Lay} {L : LN} (h : W.heap[bn]? = some (.cells (lnV y L) T (0, 0))) : W.cell? ⟨bn, 2, none⟩ = some (.slice y.al L.luts.length y.cl) := (cell_block h 2).trans rfl
theorem lnCell3 {W : World} {bn T : Nat} {y : Lay} {L : LN} (h : W.heap[bn]? = some (.cells (lnV y L) T (0, 0))) : W.cell? ⟨bn, 3, none⟩ = some (.slice y.ao L.outs.length y.co) := (cell_block h 3).trans rfl
def regVals (l : List LR) : List Value := (List.range (l.length * 2)).map (regCell l)
def lutVals (l : List LT) (A : Nat → Option Addr) (C : Nat → Nat) : List Value := (List.range (l.length * 2)).map (lutCell l A C)
theorem regVals_len (l : List LR) : (regVals l).length = l.length * 2 := by simp [regVals]
theorem lutVals_len (l : List LT) (A : Nat → Option Addr) (C : Nat → Nat) : (lutVals l A C).length = l.length * 2 := by simp [lutVals]
theorem regVals_get (l : List LR) (j : Nat) (h : j < l.length * 2) : (regVals l)[j]? = some (regCell l j) := by simp [regVals, h]
theorem lutVals_get (l : List LT) (A : Nat → Option Addr) (C : Nat → Nat) (j : Nat) (h : j < l.length * 2) : (lutVals l A C)[j]? = some (lutCell l A C j) := by simp [lutVals, h]
theorem regVals_snoc (l : List LR) (r : LR) : regVals (l ++ [r]) = regVals l ++ [.bool r.init, .int .i64 r.next] := by
  unfold regVals
  have e : (l ++ [r]).length * 2 = l.length * 2 + 1 + 1 := by simp; omega
  rw [e, List.range_succ, List.range_succ, List.map_append, List.map_append, List.append_assoc]
  congr 1
  · refine List.map_congr_left fun j hj => ?_
    have hj' : j < l.length * 2 := by simpa using hj
    have : j / 2 < l.length := by omega
    unfold regCell
    simp [List.getD_eq_getElem?_getD, List.getElem?_append_left this]
  · simp only [List.map_cons, List.map_nil, List.cons_append, List.nil_append]
    rw [regCell_0, regCell_1]
    simp [List.getD_eq_getElem?_getD]
/-- A place more. -/
def at1 {α : Type} (f : Nat → α) (n : Nat) (x : α) (j : Nat) : α := if j = n then x else f j
theorem at1_same {α : Type} (f : Nat → α) (n : Nat) (x : α) : at1 f n x n = x := if_pos rfl
theorem at1_other {α : Type} (f : Nat → α) (n : Nat) (x : α) {j : Nat} (h : j ≠ n) : at1 f n x j = f j := if_neg h
theorem lutVals_snoc (l : List LT) (A : Nat → Option Addr) (C : Nat → Nat) (t : LT) (a : Option Addr) (c : Nat) :
    lutVals (l ++ [t]) (at1 A l.length a) (at1 C l.length c) = lutVals l A C ++ [.slice a t.ins.length c, .int .i64 t.table] := by
  unfold lutVals
  have e : (l ++ [t]).length * 2 = l.length * 2 + 1 + 1 := by simp; omega
  rw [e, List.range_succ, List.range_succ, List.map_append, List.map_append, List.append_assoc]
  congr 1
  · refine List.map_congr_left fun j hj => ?_
    have hj' : j < l.length * 2 := by simpa using hj
    have h2 : j / 2 < l.length := by omega
    have h3 : j / 2 ≠ l.length := by omega
    unfold lutCell
    rw [at1_other _ _ _ h3, at1_other _ _ _ h3]
    simp [List.getD_eq_getElem?_getD, List.getElem?_append_left h2]
  · simp only [List.map_cons, List.map_nil, List.cons_append, List.nil_append]
    rw [lutCell_0, lutCell_1, at1_same, at1_same]
    simp [List.getD_eq_getElem?_getD]

/-- A net in the making: nothing comes out yet. -/
structure Mk (w0 : World) (bn : Nat) (y : Lay) (L : LN) (W : World) : Prop where
  hbn : w0.heap.size ≤ bn
  box : W.heap[bn]? = some (.cells (lnV y L) 26 (0, 0))
  rr : W.ownsRow w0.heap.size 88 2 (.slice y.ar L.regs.length y.cr) L.regs.length (regVals L.regs)
  rl : W.ownsRow w0.heap.size 90 2 (.slice y.al L.luts.length y.cl) L.luts.length (lutVals L.luts y.A y.C)
  ri : ∀ i, i < L.luts.length → W.ownsRow w0.heap.size 3 1 (.slice (y.A i) (L.luts.getD i LT.zero).ins.length (y.C i)) (L.luts.getD i LT.zero).ins.length ((L.luts.getD i LT.zero).ins.map (.int .i64))
  bel : Below w0.heap.size w0 W
  li : ∀ i, (L.luts.getD i LT.zero).ins.length ≤ 5

theorem Mk.start {w0 W : World} {bn : Nat} {g : Int} (hbn : w0.heap.size ≤ bn) (hb : W.heap[bn]? = some (.cells #[.int .i64 g, .slice none 0 0, .slice none 0 0, .slice none 0 0] 26 (0, 0))) (bel : Below w0.heap.size w0 W) :
    Mk w0 bn ⟨none, 0, none, 0, none, 0, fun _ => none, fun _ => 0⟩ ⟨g, [], [], []⟩ W :=
  ⟨hbn, hb, World.ownsRow_nil _ _ _ _, World.ownsRow_nil _ _ _ _, fun i hi => absurd hi (Nat.not_lt_zero _), bel, fun i => by simp [LT.zero]⟩
/-- Behind a call that wrote a block of another type. -/
theorem Mk.grown {w0 W W' : World} {bn br : Nat} {y : Lay} {L : LN} {cs : Array Value} (h : Mk w0 bn y L W) (hr : W.heap[br]? = some (.cells cs 105 (0, 0))) (h0 : w0.heap.size ≤ br) (hg : W.grownBy W' (some br)) : Mk w0 bn y L W' :=
  ⟨h.hbn, boxGrown h.box hr (by decide) hg, rowGrown h.rr hr (by decide) hg, rowGrown h.rl hr (by decide) hg, fun i hi => rowGrown (h.ri i hi) hr (by decide) hg, h.bel.trans (belowGrown hg h.bel.size h0), h.li⟩
theorem Mk.stay {w0 W W' : World} {bn : Nat} {y : Lay} {L : LN} (h : Mk w0 bn y L W) (hb : Below W.heap.size W W') : Mk w0 bn y L W' :=
  ⟨h.hbn, (hb.block bn (boxLt h.box)).trans h.box, rowOld h.rr hb, rowOld h.rl hb, fun i hi => rowOld (h.ri i hi) hb, h.bel.trans (hb.mono h.bel.size), h.li⟩
theorem Mk.size {w0 W : World} {bn : Nat} {y : Lay} {L : LN} (h : Mk w0 bn y L W) : w0.heap.size ≤ W.heap.size := h.bel.size
theorem Mk.withOuts {w0 W : World} {bn : Nat} {y : Lay} {L : LN} (h : Mk w0 bn y L W) (u : Value) (j : Nat) (y' : Lay) (L' : LN) (hv : (lnV y L).setIfInBounds j u = lnV y' L') (h1 : y'.ar = y.ar) (h2 : y'.cr = y.cr) (h3 : L'.regs = L.regs) (h4 : y'.al = y.al) (h5 : y'.cl = y.cl) (h6 : L'.luts = L.luts) (h7 : y'.A = y.A) (h8 : y'.C = y.C) : Mk w0 bn y' L' (W.setCell ⟨bn, j, none⟩ u) := by
  refine ⟨h.hbn, (boxSet h.box j u).trans (by rw [hv]), ?_, ?_, ?_, h.bel.setCell h.hbn u, by rw [h6]; exact h.li⟩
  · rw [h1, h2, h3]; exact rowSet h.rr h.box (by decide) j u
  · rw [h4, h5, h6, h7, h8]; exact rowSet h.rl h.box (by decide) j u
  · rw [h6, h7, h8]; exact fun i hi => rowSet (h.ri i hi) h.box (by decide) j u

/-- One register more. -/
theorem Mk.addReg {w0 W W1 wb : World} {bn : Nat} {y : Lay} {L : LN} {r : LR} {av : Option Addr} {cv : Nat} (h : Mk w0 bn y L W) (hW : Below W.heap.size W W1) (hg : W1.grownBy wb (Value.slice y.ar L.regs.length y.cr).ownBlock)
    (hown : wb.ownsRow w0.heap.size 88 2 (.slice av (L.regs.length + 1) cv) (L.regs.length + 1) (regVals L.regs ++ [.bool r.init, .int .i64 r.next])) :
    wb.heap[bn]? = some (.cells (lnV y L) 26 (0, 0)) ∧ Below w0.heap.size w0 wb ∧ Mk w0 bn { y with ar := av, cr := cv } ⟨L.given, L.regs ++ [r], L.luts, L.outs⟩ (wb.setCell ⟨bn, 1, none⟩ (.slice av (L.regs.length + 1) cv)) := by
  have h1 := h.stay hW
  have hbox := boxCross hg h1.rr h1.box (by decide)
  have hbel : Below w0.heap.size w0 wb := h1.bel.grown hg h1.bel.size (fun k hk => (h1.rr.lt k hk).1)
  refine ⟨hbox, hbel, ?_⟩
  have e : (L.regs ++ [r]).length = L.regs.length + 1 := by simp
  rw [← regVals_snoc, ← e] at hown
  refine ⟨h.hbn, (boxSet hbox 1 _).trans (by simp [lnV]), rowSet hown hbox (by decide) _ _, rowSet (rowCross hg h1.rr h1.rl (by decide)) hbox (by decide) _ _, fun i hi => rowSet (rowCross hg h1.rr (h1.ri i hi) (by decide)) hbox (by decide) _ _, hbel.setCell h.hbn _, h.li⟩
theorem getD_snoc_lt {α : Type} (l : List α) (x d : α) {i : Nat} (h : i < l.length) : (l ++ [x]).getD i d = l.getD i d := by
  simp [List.getD_eq_getElem?_getD, List.getElem?_append_left h]
theorem getD_snoc_eq {α : Type} (l : List α) (x d : α) : (l ++ [x]).getD l.length d = x := by
  simp [List.getD_eq_getElem?_getD]
theorem getD_snoc_gt {α : Type} (l : List α) (x d : α) {i : Nat} (h : l.length < i) : (l ++ [x]).getD i d = d := by
  rw [List.getD_eq_getElem?_getD, List.getElem?_eq_none (by simp; omega)]
  rfl
/-- One table more. -/
theorem Mk.addLut {w0 W W1 wb : World} {bn : Nat} {y : Lay} {L : LN} {t : LT} {ai av : Option Addr} {ci cv : Nat} (h : Mk w0 bn y L W) (hi5 : t.ins.length ≤ 5) (hins : W.ownsRow w0.heap.size 3 1 (.slice ai t.ins.length ci) t.ins.length (t.ins.map (.int .i64))) (hW : Below W.heap.size W W1) (hg : W1.grownBy wb (Value.slice y.al L.luts.length y.cl).ownBlock)
    (hown : wb.ownsRow w0.heap.size 90 2 (.slice av (L.luts.length + 1) cv) (L.luts.length + 1) (lutVals L.luts y.A y.C ++ [.slice ai t.ins.length ci, .int .i64 t.table])) :
    wb.heap[bn]? = some (.cells (lnV y L) 26 (0, 0)) ∧ Below w0.heap.size w0 wb ∧ Mk w0 bn { y with al := av, cl := cv, A := at1 y.A L.luts.length ai, C := at1 y.C L.luts.length ci } ⟨L.given, L.regs, L.luts ++ [t], L.outs⟩ (wb.setCell ⟨bn, 2, none⟩ (.slice av (L.luts.length + 1) cv)) := by
  have h1 := h.stay hW
  have hins1 := rowOld hins hW
  have hbox := boxCross hg h1.rl h1.box (by decide)
  have hbel : Below w0.heap.size w0 wb := h1.bel.grown hg h1.bel.size (fun k hk => (h1.rl.lt k hk).1)
  refine ⟨hbox, hbel, ?_⟩
  have e : (L.luts ++ [t]).length = L.luts.length + 1 := by simp
  rw [← lutVals_snoc, ← e] at hown
  refine ⟨h.hbn, (boxSet hbox 2 _).trans (by simp [lnV]), rowSet (rowCross hg h1.rl h1.rr (by decide)) hbox (by decide) _ _, rowSet hown hbox (by decide) _ _, fun i hi => rowSet (?_) hbox (by decide) _ _, hbel.setCell h.hbn _, ?_⟩
  · have hi' : i < L.luts.length + 1 := by simpa using hi
    by_cases hlt : i < L.luts.length
    · have hne : i ≠ L.luts.length := by omega
      simp only [getD_snoc_lt _ _ _ hlt, at1_other _ _ _ hne]
      exact rowCross hg h1.rl (h1.ri i hlt) (by decide)
    · obtain rfl : i = L.luts.length := by omega
      simp only [getD_snoc_eq, at1_same]
      exact rowCross hg h1.rl hins1 (by decide)
  · intro i
    simp only
    rcases Nat.lt_trichotomy i L.luts.length with hlt | rfl | hgt
    · rw [getD_snoc_lt _ _ _ hlt]; exact h.li i
    · rw [getD_snoc_eq]; exact hi5
    · rw [getD_snoc_gt _ _ _ hgt]; simp [LT.zero]

/-- What changed but the reader's block and the net's own. -/
structure But (w W : World) (b1 b2 : Nat) : Prop where
  os : W.os = w.os
  tape : W.tape = w.tape
  output : W.output = w.output
  size : w.heap.size ≤ W.heap.size
  block : ∀ k, k < w.heap.size → k ≠ b1 → k ≠ b2 → W.heap[k]? = w.heap[k]?
theorem But.refl (w : World) (b1 b2 : Nat) : But w w b1 b2 := ⟨rfl, rfl, rfl, Nat.le_refl _, fun _ _ _ _ => rfl⟩
theorem But.grown {w W W' : World} {b1 b2 : Nat} (h : But w W b1 b2) (hg : W.grownBy W' (some b1)) : But w W' b1 b2 :=
  ⟨hg.os.trans h.os, hg.tape.trans h.tape, hg.output.trans h.output, Nat.le_trans h.size hg.size, fun k hk h1 h2 => (hg.block k (Nat.lt_of_lt_of_le hk h.size) (by intro e; cases e; exact h1 rfl)).trans (h.block k hk h1 h2)⟩
theorem But.stay {w W W' : World} {b1 b2 : Nat} (h : But w W b1 b2) (hb : Below W.heap.size W W') : But w W' b1 b2 :=
  ⟨hb.os.trans h.os, hb.tape.trans h.tape, hb.output.trans h.output, Nat.le_trans h.size hb.size, fun k hk h1 h2 => (hb.block k (Nat.lt_of_lt_of_le hk h.size)).trans (h.block k hk h1 h2)⟩
theorem But.row {w W W' : World} {b1 b2 : Nat} {v : Value} (h : But w W b1 b2) (hg : W.grownBy W' v.ownBlock) (hv : ∀ k, v.ownBlock = some k → w.heap.size ≤ k) : But w W' b1 b2 :=
  ⟨hg.os.trans h.os, hg.tape.trans h.tape, hg.output.trans h.output, Nat.le_trans h.size hg.size, fun k hk h1 h2 => (hg.block k (Nat.lt_of_lt_of_le hk h.size) (fun e => by have := hv k e.symm; omega)).trans (h.block k hk h1 h2)⟩
theorem But.set {w W : World} {b1 b2 : Nat} (h : But w W b1 b2) (j : Nat) (u : Value) : But w (W.setCell ⟨b2, j, none⟩ u) b1 b2 :=
  ⟨h.os, h.tape, h.output, Nat.le_trans h.size (by simp [World.setCell]), fun k hk h1 h2 => (heap_setCell_other _ _ _ _ h2).trans (h.block k hk h1 h2)⟩

/-- The same, with what comes out: its row lies behind w3. -/
structure Out (w0 w3 : World) (br bn : Nat) (y : Lay) (L : LN) (W : World) : Prop where
  box : W.heap[bn]? = some (.cells (lnV y L) 26 (0, 0))
  ro : W.ownsRow w3.heap.size 3 1 (.slice y.ao L.outs.length y.co) L.outs.length (L.outs.map (.int .i64))
  but : But w3 W br bn
theorem Out.start {w0 w3 : World} {br bn : Nat} {y : Lay} {L : LN} (h : Mk w0 bn y L w3) (ho : L.outs = []) (ha : y.ao = none) (hc : y.co = 0) : Out w0 w3 br bn y L w3 := by
  refine ⟨h.box, ?_, But.refl _ _ _⟩
  rw [ho, ha, hc]
  exact World.ownsRow_nil _ _ _ _
theorem Out.grown {w0 w3 W W' : World} {br bn : Nat} {y : Lay} {L : LN} {cs : Array Value} (h : Out w0 w3 br bn y L W) (hr : W.heap[br]? = some (.cells cs 105 (0, 0))) (hg : W.grownBy W' (some br)) : Out w0 w3 br bn y L W' :=
  ⟨boxGrown h.box hr (by decide) hg, rowGrown h.ro hr (by decide) hg, h.but.grown hg⟩
theorem Out.stay {w0 w3 W W' : World} {br bn : Nat} {y : Lay} {L : LN} (h : Out w0 w3 br bn y L W) (hb : Below W.heap.size W W') : Out w0 w3 br bn y L W' :=
  ⟨(hb.block bn (boxLt h.box)).trans h.box, rowOld h.ro hb, h.but.stay hb⟩
theorem Out.add {w0 w3 W W1 wb : World} {br bn : Nat} {y : Lay} {L : LN} {x : Int} {av : Option Addr} {cv : Nat} (h : Out w0 w3 br bn y L W) (hW : Below W.heap.size W W1) (hg : W1.grownBy wb (Value.slice y.ao L.outs.length y.co).ownBlock)
    (hown : wb.ownsRow w3.heap.size 3 1 (.slice av (L.outs.length + 1) cv) (L.outs.length + 1) (L.outs.map (.int .i64) ++ [.int .i64 x])) :
    wb.heap[bn]? = some (.cells (lnV y L) 26 (0, 0)) ∧ Out w0 w3 br bn { y with ao := av, co := cv } ⟨L.given, L.regs, L.luts, L.outs ++ [x]⟩ (wb.setCell ⟨bn, 3, none⟩ (.slice av (L.outs.length + 1) cv)) := by
  have h1 := h.stay hW
  have hbox := boxCross hg h1.ro h1.box (by decide)
  refine ⟨hbox, ?_⟩
  have e : (L.outs ++ [x]).length = L.outs.length + 1 := by simp
  have e2 : L.outs.map (Value.int .i64) ++ [.int .i64 x] = (L.outs ++ [x]).map (.int .i64) := by simp
  rw [e2, ← e] at hown
  exact ⟨(boxSet hbox 3 _).trans (by simp [lnV]), rowSet hown hbox (by decide) _ _, (h1.but.row hg (fun k hk => (h1.ro.lt k hk).1)).set _ _⟩
theorem Out.below {w0 w3 W : World} {br bn : Nat} {y y0 : Lay} {L L0 : LN} (h : Out w0 w3 br bn y L W) (h0 : Mk w0 bn y0 L0 w3) (hbr : w0.heap.size ≤ br) : Below w0.heap.size w0 W := by
  have hs := h0.bel.size
  exact h0.bel.trans ⟨h.but.os, h.but.tape, h.but.output, h.but.size, fun k hk => h.but.block k (by omega) (by omega) (by have := h0.hbn; omega)⟩

theorem Cells.congr2 {B : Nat} {w : World} {a : Option Addr} {m : Nat} {f g : Nat → Value} (h : Cells B w a m f) (e : ∀ j, j < m → f j = g j) : Cells B w a m g := by
  rcases h with h | ⟨b, off, rfl, hB, hc⟩
  · exact .inl h
  · exact .inr ⟨b, off, rfl, hB, fun j hj => (hc j hj).trans (by rw [e j hj])⟩
theorem rowCells {w : World} {base e s n c : Nat} {a : Option Addr} {xs : List Value} (h : w.ownsRow base e s (.slice a n c) n xs) (f : Nat → Value) (hf : ∀ j, j < n * s → xs[j]? = some (f j)) : Cells w.heap.size w a (n * s) f := by
  obtain ⟨a', c', e', _, _, hc⟩ := Cells.of_owns h
  cases e'
  exact hc.congr2 fun j hj => by rw [List.getD_eq_getElem?_getD, hf j hj]; rfl
/-- The net that was made, as it lies. -/
theorem Out.net {w0 w3 W : World} {br bn : Nat} {y y0 : Lay} {L L0 : LN} {cs : Array Value} (h : Out w0 w3 br bn y L W) (h0 : Mk w0 bn y0 L0 w3) (hr3 : w3.heap[br]? = some (.cells cs 105 (0, 0))) (h1 : y.ar = y0.ar) (h2 : y.cr = y0.cr) (h3 : L.regs = L0.regs) (h4 : y.al = y0.al) (h5 : y.cl = y0.cl) (h6 : L.luts = L0.luts) (h7 : y.A = y0.A) (h8 : y.C = y0.C)
    (k1 : L.regs.length ≤ maxLen) (k2 : L.luts.length ≤ maxLen) (k3 : L.outs.length ≤ maxLen) : LnIn W.heap.size W bn y L := by
  have far : ∀ {e s n c : Nat} {a : Option Addr} {xs : List Value}, w3.ownsRow w0.heap.size e s (.slice a n c) n xs → e ≠ 105 → e ≠ 26 → W.ownsRow w0.heap.size e s (.slice a n c) n xs := by
    intro e s n c a xs hrow hne hne'
    exact rowKeep hrow fun k hk => h.but.block k (hrow.lt k hk).2 (by rintro rfl; exact rowBoxNe hrow hr3 hne hk) (by rintro rfl; exact rowBoxNe hrow h0.box hne' hk)
  refine ⟨(cell_block h.box 0).trans rfl, (cell_block h.box 1).trans rfl, (cell_block h.box 2).trans rfl, (cell_block h.box 3).trans rfl, ⟨?_, ?_, ?_, ?_, k1, k2, ?_, k3⟩, boxLt h.box⟩
  · rw [h1, h3]
    exact rowCells (far h0.rr (by decide) (by decide)) _ fun j hj => regVals_get _ _ hj
  · rw [h4, h6, h7, h8]
    exact rowCells (far h0.rl (by decide) (by decide)) _ fun j hj => lutVals_get _ _ _ _ hj
  · rw [h6, h7]
    intro i hi
    have := rowCells (far (h0.ri i hi) (by decide) (by decide)) (fun j => .int .i64 ((L0.luts.getD i LT.zero).ins.getD j 0)) fun j hj => by
      rw [Nat.mul_one] at hj
      generalize (L0.luts.getD i LT.zero).ins = li at hj ⊢
      simp [List.getElem?_map, List.getElem?_eq_getElem hj]
    rw [Nat.mul_one] at this
    exact this
  · have := rowCells h.ro (fun j => .int .i64 (L.outs.getD j 0)) fun j hj => by
      rw [Nat.mul_one] at hj
      simp [List.getElem?_map, List.getElem?_eq_getElem hj]
    rw [Nat.mul_one] at this
    exact this
  · rw [h6]
    intro i
    have := h0.li i
    unfold maxLen
    omega

/-- The net that was made, in whatever world that agrees where it was made. -/
theorem Out.netS {w0 w3 W : World} {br bn : Nat} {y y0 : Lay} {L L0 : LN} {cs : Array Value} (h : Out w0 w3 br bn y L W) (h0 : Mk w0 bn y0 L0 w3) (hr3 : w3.heap[br]? = some (.cells cs 105 (0, 0))) (h1 : y.ar = y0.ar) (h2 : y.cr = y0.cr) (h3 : L.regs = L0.regs) (h4 : y.al = y0.al) (h5 : y.cl = y0.cl) (h6 : L.luts = L0.luts) (h7 : y.A = y0.A) (h8 : y.C = y0.C)
    (k1 : L.regs.length ≤ maxLen) (k2 : L.luts.length ≤ maxLen) (k3 : L.outs.length ≤ maxLen) (wx : World) (hwx : ∀ k, w0.heap.size ≤ k → k < W.heap.size → wx.heap[k]? = W.heap[k]?) : LnIn wx.heap.size wx bn y L := by
  have far : ∀ {e s n c : Nat} {a : Option Addr} {xs : List Value}, w3.ownsRow w0.heap.size e s (.slice a n c) n xs → e ≠ 105 → e ≠ 26 → wx.ownsRow w0.heap.size e s (.slice a n c) n xs := by
    intro e s n c a xs hrow hne hne'
    exact rowKeep hrow fun k hk => (hwx k (hrow.lt k hk).1 (Nat.lt_of_lt_of_le (hrow.lt k hk).2 h.but.size)).trans <| h.but.block k (hrow.lt k hk).2 (by rintro rfl; exact rowBoxNe hrow hr3 hne hk) (by rintro rfl; exact rowBoxNe hrow h0.box hne' hk)
  have hbox := (hwx bn h0.hbn (boxLt h.box)).trans h.box
  refine ⟨(cell_block hbox 0).trans rfl, (cell_block hbox 1).trans rfl, (cell_block hbox 2).trans rfl, (cell_block hbox 3).trans rfl, ⟨?_, ?_, ?_, ?_, k1, k2, ?_, k3⟩, boxLt hbox⟩
  · rw [h1, h3]
    exact rowCells (far h0.rr (by decide) (by decide)) _ fun j hj => regVals_get _ _ hj
  · rw [h4, h6, h7, h8]
    exact rowCells (far h0.rl (by decide) (by decide)) _ fun j hj => lutVals_get _ _ _ _ hj
  · rw [h6, h7]
    intro i hi
    have := rowCells (far (h0.ri i hi) (by decide) (by decide)) (fun j => .int .i64 ((L0.luts.getD i LT.zero).ins.getD j 0)) fun j hj => by
      rw [Nat.mul_one] at hj
      generalize (L0.luts.getD i LT.zero).ins = li at hj ⊢
      simp [List.getElem?_map, List.getElem?_eq_getElem hj]
    rw [Nat.mul_one] at this
    exact this
  · have := rowCells (rowKeep h.ro fun k hk => hwx k (Nat.le_trans h0.bel.size (h.ro.lt k hk).1) (h.ro.lt k hk).2) (fun j => .int .i64 (L.outs.getD j 0)) fun j hj => by
      rw [Nat.mul_one] at hj
      simp [List.getElem?_map, List.getElem?_eq_getElem hj]
    rw [Nat.mul_one] at this
    exact this
  · rw [h6]
    intro i
    have := h0.li i
    unfold maxLen
    omega

/-! ### the reader -/
def Rdr (w : World) (br : Nat) (st : Rd) (n : Nat) : Prop := ∃ (s : ByteArray) (b : Bool), w.heap[br]? = some (.cells #[.string s, .bool b] 105 (0, 0)) ∧ (bl s, b) = st ∧ s.size ≤ n
theorem Rdr.stay {w w' : World} {br : Nat} {st : Rd} {n : Nat} (h : Rdr w br st n) (hb : Below w.heap.size w w') : Rdr w' br st n := by
  obtain ⟨s, b, h1, h2, h3⟩ := h
  exact ⟨s, b, (hb.block br (boxLt h1)).trans h1, h2, h3⟩
theorem Rdr.cross {w wb : World} {br : Nat} {st : Rd} {n : Nat} (h : Rdr w br st n) {b1 e1 s1 n1 : Nat} {v1 : Value} {xs1 : List Value} (hgb : w.grownBy wb v1.ownBlock) (h1 : w.ownsRow b1 e1 s1 v1 n1 xs1) (hne : e1 ≠ 105) : Rdr wb br st n := by
  obtain ⟨s, b, hb, h2, h3⟩ := h
  exact ⟨s, b, boxCross hgb h1 hb hne, h2, h3⟩
theorem Rdr.set {w : World} {br bn T : Nat} {st : Rd} {n : Nat} {cs : Array Value} (h : Rdr w br st n) (hb : w.heap[bn]? = some (.cells cs T (0, 0))) (hne : T ≠ 105) (j : Nat) (u : Value) : Rdr (w.setCell ⟨bn, j, none⟩ u) br st n := by
  obtain ⟨s, b, h1, h2, h3⟩ := h
  exact ⟨s, b, (heap_setCell_other _ _ _ _ (boxNe h1 hb hne.symm)).trans h1, h2, h3⟩
theorem Rdr.bad {w : World} {br : Nat} {n : Nat} {s : ByteArray} {b : Bool} (h : w.heap[br]? = some (.cells #[.string s, .bool b] 105 (0, 0))) (hs : s.size ≤ n) (b' : Bool) : Rdr (w.setCell ⟨br, 1, none⟩ (.bool b')) br (bl s, b') n ∧ w.grownBy (w.setCell ⟨br, 1, none⟩ (.bool b')) (some br) :=
  ⟨⟨s, b', (set_bad h (.bool b')).1, rfl, hs⟩, (set_bad h (.bool b')).2⟩
theorem grownFrom {w W w' : World} {r : Option Nat} (hb : Below w.heap.size w W) (h : W.grownBy w' r) : w.grownBy w' r :=
  ⟨h.os.trans hb.os, h.tape.trans hb.tape, h.output.trans hb.output, Nat.le_trans hb.size h.size, fun k hk hne => (h.block k (Nat.lt_of_lt_of_le hk hb.size) hne).trans (hb.block k hk)⟩
theorem number_at (br : Nat) (st : Rd) (n : Nat) (hn : n ≤ 1000000) (w W : World) (hW : Below w.heap.size w W) (h : Rdr w br st n) :
    Calls Tryd.prog 45 #[.pointer (some ⟨br, 0, none⟩)] W fun e w' => e = .returned (.int .i64 ((rd st).1 : Nat)) ∧ Rdr w' br (rd st).2 n ∧ w.grownBy w' (some br) := by
  obtain ⟨s, b, h1, rfl, h3⟩ := h.stay hW
  refine (number_rd br s b W h1 (by omega)).mono ?_
  rintro e w' ⟨s', rfl, h4, h5, h6, h7⟩
  refine ⟨rfl, ⟨s', (rd (bl s, b)).2.2, h5, ?_, by omega⟩, grownFrom hW h6⟩
  rw [h4]
theorem many_at (br : Nat) (st : Rd) (n : Nat) (hn : n ≤ 1000000) (w W : World) (hW : Below w.heap.size w W) (h : Rdr w br st n) :
    Calls Tryd.prog 46 #[.pointer (some ⟨br, 0, none⟩)] W fun e w' => e = .returned (.int .i64 ((rdMany st).1 : Nat)) ∧ Rdr w' br (rdMany st).2 n ∧ w.grownBy w' (some br) := by
  obtain ⟨s, b, h1, rfl, h3⟩ := h.stay hW
  refine (many_rd br s b W h1 (by omega)).mono ?_
  rintro e w' ⟨s', rfl, h4, h5, h6, h7⟩
  refine ⟨rfl, ⟨s', (rdMany (bl s, b)).2.2, h5, ?_, by omega⟩, grownFrom hW h6⟩
  rw [h4]
theorem Mk.read {w0 W W' : World} {bn br : Nat} {y : Lay} {L : LN} {st : Rd} {n : Nat} (h : Mk w0 bn y L W) (hr : Rdr W br st n) (h0 : w0.heap.size ≤ br) (hg : W.grownBy W' (some br)) : Mk w0 bn y L W' := by
  obtain ⟨s, b, h1, _, _⟩ := hr
  exact h.grown h1 h0 hg
theorem Out.read {w0 w3 W W' : World} {bn br : Nat} {y : Lay} {L : LN} {st : Rd} {n : Nat} (h : Out w0 w3 br bn y L W) (hr : Rdr W br st n) (hg : W.grownBy W' (some br)) : Out w0 w3 br bn y L W' := by
  obtain ⟨s, b, h1, _, _⟩ := hr
  exact h.grown h1 hg

/-! ### the steps of the loops -/
theorem stepReg {w0 W W1 wb : World} {bn br : Nat} {y : Lay} {g : Int} {rs : List LR} {r : LR} {st : Rd} {n : Nat} {av : Option Addr} {cv : Nat} (h : Mk w0 bn y ⟨g, rs, [], []⟩ W) (hr : Rdr W br st n) (hW : Below W.heap.size W W1) (hg : W1.grownBy wb (Value.slice y.ar rs.length y.cr).ownBlock)
    (hown : wb.ownsRow w0.heap.size 88 2 (.slice av (rs.length + 1) cv) (rs.length + 1) (regVals rs ++ [.bool r.init, .int .i64 r.next])) :
    wb.heap[bn]? = some (.cells (lnV y ⟨g, rs, [], []⟩) 26 (0, 0)) ∧ Mk w0 bn { y with ar := av, cr := cv } ⟨g, rs ++ [r], [], []⟩ (wb.setCell ⟨bn, 1, none⟩ (.slice av (rs.length + 1) cv)) ∧ Rdr (wb.setCell ⟨bn, 1, none⟩ (.slice av (rs.length + 1) cv)) br st n := by
  obtain ⟨h1, h2, h3⟩ := h.addReg (r := r) hW hg hown
  exact ⟨h1, h3, ((hr.stay hW).cross hg (h.stay hW).rr (by decide)).set h1 (by decide) _ _⟩
theorem stepLut {w0 W W1 wb : World} {bn br : Nat} {y : Lay} {g : Int} {rs : List LR} {ls : List LT} {ns : List Int} {tb : Int} {st : Rd} {n : Nat} {ai av : Option Addr} {ci cv : Nat} (h : Mk w0 bn y ⟨g, rs, ls, []⟩ W) (hr : Rdr W br st n) (hi5 : ns.length ≤ 5) (hins : W.ownsRow w0.heap.size 3 1 (.slice ai ns.length ci) ns.length (ns.map (.int .i64))) (hW : Below W.heap.size W W1) (hg : W1.grownBy wb (Value.slice y.al ls.length y.cl).ownBlock)
    (hown : wb.ownsRow w0.heap.size 90 2 (.slice av (ls.length + 1) cv) (ls.length + 1) (lutVals ls y.A y.C ++ [.slice ai ns.length ci, .int .i64 tb])) :
    wb.heap[bn]? = some (.cells (lnV y ⟨g, rs, ls, []⟩) 26 (0, 0)) ∧ Mk w0 bn { y with al := av, cl := cv, A := at1 y.A ls.length ai, C := at1 y.C ls.length ci } ⟨g, rs, ls ++ [⟨ns, tb⟩], []⟩ (wb.setCell ⟨bn, 2, none⟩ (.slice av (ls.length + 1) cv)) ∧ Rdr (wb.setCell ⟨bn, 2, none⟩ (.slice av (ls.length + 1) cv)) br st n := by
  obtain ⟨h1, h2, h3⟩ := h.addLut (t := ⟨ns, tb⟩) hi5 hins hW hg hown
  exact ⟨h1, h3, ((hr.stay hW).cross hg (h.stay hW).rl (by decide)).set h1 (by decide) _ _⟩
theorem stepOut {w0 w3 W W1 wb : World} {bn br : Nat} {y : Lay} {g : Int} {rs : List LR} {ls : List LT} {os : List Int} {x : Int} {st : Rd} {n : Nat} {av : Option Addr} {cv : Nat} (h : Out w0 w3 br bn y ⟨g, rs, ls, os⟩ W) (hr : Rdr W br st n) (hW : Below W.heap.size W W1) (hg : W1.grownBy wb (Value.slice y.ao os.length y.co).ownBlock)
    (hown : wb.ownsRow w3.heap.size 3 1 (.slice av (os.length + 1) cv) (os.length + 1) (os.map (.int .i64) ++ [.int .i64 x])) :
    wb.heap[bn]? = some (.cells (lnV y ⟨g, rs, ls, os⟩) 26 (0, 0)) ∧ Out w0 w3 br bn { y with ao := av, co := cv } ⟨g, rs, ls, os ++ [x]⟩ (wb.setCell ⟨bn, 3, none⟩ (.slice av (os.length + 1) cv)) ∧ Rdr (wb.setCell ⟨bn, 3, none⟩ (.slice av (os.length + 1) cv)) br st n := by
  obtain ⟨h1, h3⟩ := h.add (x := x) hW hg hown
  exact ⟨h1, h3, ((hr.stay hW).cross hg (h.stay hW).ro (by decide)).set h1 (by decide) _ _⟩

/-- A table in the making: its inputs so far. -/
structure Ins (wr : World) (br bt : Nat) (ai : Option Addr) (ci : Nat) (ns : List Int) (W : World) : Prop where
  new : wr.heap.size ≤ bt
  box : W.heap[bt]? = some (.cells #[.slice ai ns.length ci, .int .i64 0] 90 (0, 0))
  row : W.ownsRow wr.heap.size 3 1 (.slice ai ns.length ci) ns.length (ns.map (.int .i64))
  gr : wr.grownBy W (some br)
theorem Ins.start (wr : World) (br : Nat) : Ins wr br wr.heap.size none 0 [] (wr.alloc (.cells #[.slice none 0 0, .int .i64 0] 90)) :=
  ⟨Nat.le_refl _, box_new _ _, World.ownsRow_nil _ _ _ _, ⟨rfl, rfl, rfl, by simp, fun k hk _ => Below.heap_alloc _ _ _ hk⟩⟩
theorem Ins.read {wr W W' : World} {br bt : Nat} {ai : Option Addr} {ci : Nat} {ns : List Int} {st : Rd} {n : Nat} (h : Ins wr br bt ai ci ns W) (hr : Rdr W br st n) (hg : W.grownBy W' (some br)) : Ins wr br bt ai ci ns W' := by
  obtain ⟨s, b, h1, _, _⟩ := hr
  exact ⟨h.new, boxGrown h.box h1 (by decide) hg, rowGrown h.row h1 (by decide) hg, grown_two h.gr hg⟩
theorem Ins.stay {wr W W' : World} {br bt : Nat} {ai : Option Addr} {ci : Nat} {ns : List Int} (h : Ins wr br bt ai ci ns W) (hb : Below W.heap.size W W') : Ins wr br bt ai ci ns W' :=
  ⟨h.new, (hb.block bt (boxLt h.box)).trans h.box, rowOld h.row hb, ⟨hb.os.trans h.gr.os, hb.tape.trans h.gr.tape, hb.output.trans h.gr.output, Nat.le_trans h.gr.size hb.size, fun k hk hne => (hb.block k (Nat.lt_of_lt_of_le hk h.gr.size)).trans (h.gr.block k hk hne)⟩⟩
theorem grownRow {wr W W' : World} {r : Option Nat} {v : Value} (h : wr.grownBy W r) (hg : W.grownBy W' v.ownBlock) (hv : ∀ k, v.ownBlock = some k → wr.heap.size ≤ k) : wr.grownBy W' r :=
  ⟨hg.os.trans h.os, hg.tape.trans h.tape, hg.output.trans h.output, Nat.le_trans h.size hg.size, fun k hk hne => (hg.block k (Nat.lt_of_lt_of_le hk h.size) (fun e => by have := hv k e.symm; omega)).trans (h.block k hk hne)⟩
theorem grownSet {wr W : World} {r : Option Nat} {b j : Nat} {u : Value} (h : wr.grownBy W r) (hb : wr.heap.size ≤ b) : wr.grownBy (W.setCell ⟨b, j, none⟩ u) r :=
  ⟨h.os, h.tape, h.output, Nat.le_trans h.size (by simp [World.setCell]), fun k hk hne => (heap_setCell_other _ _ _ _ (by show k ≠ b; omega)).trans (h.block k hk hne)⟩
theorem stepIns {wr W W1 wb : World} {br bt : Nat} {ai av : Option Addr} {ci cv : Nat} {ns : List Int} {x : Int} {st : Rd} {n : Nat} (h : Ins wr br bt ai ci ns W) (hr : Rdr W br st n) (hW : Below W.heap.size W W1) (hg : W1.grownBy wb (Value.slice ai ns.length ci).ownBlock)
    (hown : wb.ownsRow wr.heap.size 3 1 (.slice av (ns.length + 1) cv) (ns.length + 1) (ns.map (.int .i64) ++ [.int .i64 x])) :
    wb.heap[bt]? = some (.cells #[.slice ai ns.length ci, .int .i64 0] 90 (0, 0)) ∧ Ins wr br bt av cv (ns ++ [x]) (wb.setCell ⟨bt, 0, none⟩ (.slice av (ns.length + 1) cv)) ∧ Rdr (wb.setCell ⟨bt, 0, none⟩ (.slice av (ns.length + 1) cv)) br st n := by
  have h1 := h.stay hW
  have hbox := boxCross hg h1.row h1.box (by decide)
  have e : (ns ++ [x]).length = ns.length + 1 := by simp
  have e2 : ns.map (Value.int .i64) ++ [.int .i64 x] = (ns ++ [x]).map (.int .i64) := by simp
  refine ⟨hbox, ⟨h.new, (boxSet hbox 0 _).trans (by rw [e]; simp), ?_, grownSet (grownRow h1.gr hg (fun k hk => (h1.row.lt k hk).1)) h.new⟩, ((hr.stay hW).cross hg h1.row (by decide)).set hbox (by decide) _ _⟩
  rw [e2, ← e] at hown
  rw [← e]
  exact rowSet hown hbox (by decide) _ _
/-- The table's number is set: the net beside it. -/
theorem Ins.done {w0 wr W : World} {br bt bn : Nat} {ai : Option Addr} {ci : Nat} {ns : List Int} {y : Lay} {L : LN} {st st' : Rd} {n n' : Nat} (h : Ins wr br bt ai ci ns W) (hm : Mk w0 bn y L wr) (hr0 : Rdr wr br st' n') (hr : Rdr W br st n) (hbr : w0.heap.size ≤ br) (x : Int) :
    (W.setCell ⟨bt, 1, none⟩ (.int .i64 x)).heap[bt]? = some (.cells #[.slice ai ns.length ci, .int .i64 x] 90 (0, 0)) ∧ (W.setCell ⟨bt, 1, none⟩ (.int .i64 x)).ownsRow w0.heap.size 3 1 (.slice ai ns.length ci) ns.length (ns.map (.int .i64)) ∧ Mk w0 bn y L (W.setCell ⟨bt, 1, none⟩ (.int .i64 x)) ∧ Rdr (W.setCell ⟨bt, 1, none⟩ (.int .i64 x)) br st n :=
  ⟨(boxSet h.box 1 _).trans (by simp), rowBase (rowSet h.row h.box (by decide) _ _) hm.bel.size, hm.read hr0 hbr (grownSet h.gr h.new), hr.set h.box (by decide) _ _⟩

/-! ### what is read, step by step -/
theorem rdRegs_next {K i : Nat} {st0 st : Rd} {rs : List LR} (hi : i < K) (h : rdRegs K st0 = (rs ++ (rdRegs (K - i) st).1, (rdRegs (K - i) st).2)) : rdRegs K st0 = ((rs ++ [(rdReg st).1]) ++ (rdRegs (K - (i + 1)) (rdReg st).2).1, (rdRegs (K - (i + 1)) (rdReg st).2).2) := by
  obtain ⟨d, hd⟩ : ∃ d, K - i = d + 1 := ⟨K - i - 1, by omega⟩
  have hd' : K - (i + 1) = d := by omega
  rw [h, hd, hd', List.append_assoc]
  rfl
theorem rdLuts_next {K i : Nat} {st0 st : Rd} {rs : List LT} (hi : i < K) (h : rdLuts K st0 = (rs ++ (rdLuts (K - i) st).1, (rdLuts (K - i) st).2)) : rdLuts K st0 = ((rs ++ [(rdLut st).1]) ++ (rdLuts (K - (i + 1)) (rdLut st).2).1, (rdLuts (K - (i + 1)) (rdLut st).2).2) := by
  obtain ⟨d, hd⟩ : ∃ d, K - i = d + 1 := ⟨K - i - 1, by omega⟩
  have hd' : K - (i + 1) = d := by omega
  rw [h, hd, hd', List.append_assoc]
  rfl
theorem rdInts_next {K i : Nat} {st0 st : Rd} {rs : List Int} (hi : i < K) (h : rdInts K st0 = (rs ++ (rdInts (K - i) st).1, (rdInts (K - i) st).2)) : rdInts K st0 = ((rs ++ [((rd st).1 : Int)]) ++ (rdInts (K - (i + 1)) (rd st).2).1, (rdInts (K - (i + 1)) (rd st).2).2) := by
  obtain ⟨d, hd⟩ : ∃ d, K - i = d + 1 := ⟨K - i - 1, by omega⟩
  have hd' : K - (i + 1) = d := by omega
  rw [h, hd, hd', List.append_assoc]
  rfl
theorem rdMany_le (st : Rd) : (rdMany st).1 ≤ 20000 := by
  unfold rdMany
  split
  · simp
  · omega
end Go.Proofs.YtlaeflpddehipabDoor
