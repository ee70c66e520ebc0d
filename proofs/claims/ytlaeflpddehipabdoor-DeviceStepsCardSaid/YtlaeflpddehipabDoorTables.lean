/- rungworklaw.tables, walked (written by gen_tables.py). -/
import Derived.Test.YtlaeflpddehipabDoorLsPlain
import Derived.Test.YtlaeflpddehipabDoorSrcAll
import Derived.Test.YtlaeflpddehipabDoorOwnRow
import Derived.Test.YtlaeflpddehipabDoorEnds
import Derived.Laws.Rows
import Derived.Laws.ResultCell
import Derived.Deep.DeepCutAuto
set_option linter.unusedVariables false
set_option linter.unusedSimpArgs false
set_option linter.unusedSectionVars false
namespace Go.Proofs.YtlaeflpddehipabDoor
open Go.RowKit
attribute [local go_sem ↓] Go.wp_at_zero Go.wp_at_succ

theorem results_two {P : Program} {fn : Func} {p u : Tmp} {ty : TypeId} (h : fn.results = #[.cell p ty, .tmp u]) (tmps : Array Value) (w : World) (g : Nat) (t : TypeId) (cs : Array Value) (fr : Nat × Nat) (d : TypeDesc)
    (hp : tmps.getD p undef = .pointer (some ⟨g, 0, none⟩)) (hg : w.heap[g]? = some (.cells cs t fr))
    (hu : P.underlying ty = some d) (hd : (match d with | .struct _ | .array _ _ => true | _ => false) = true) (hi : (P.info? ty).map (·.size) = some cs.size) :
    (results fn tmps).run P w = .ok (.tuple #[.agg cs, tmps.getD u undef]) w := by
  rw [results_cell_tmp h, hp]
  simp [asAddr, run_loadVar_row w g t ty cs fr d hg hu hd hi]
theorem Tryd.infoRReg : (Tryd.prog.info? 87).map (fun i => (i.zero, i.size, i.bytes)) = some (some (.agg #[.bool false, .int .i64 0]), 2, 16) := by kernel_rfl
theorem Tryd.infoRLut : (Tryd.prog.info? 91).map (fun i => (i.zero, i.size, i.bytes)) = some (some (.agg #[.slice none 0 0, .int .i64 0]), 2, 32) := by kernel_rfl
def tRegs (l : List LR) : List Value := (List.range (l.length * 2)).map (regCell l)
def tLuts (l : List LT) (A : Nat → Option Addr) (C : Nat → Nat) : List Value := (List.range (l.length * 2)).map (lutCell l A C)
theorem tRegs_snoc (l : List LR) (r : LR) : tRegs (l ++ [r]) = tRegs l ++ [.bool r.init, .int .i64 r.next] := by
  unfold tRegs
  have e : (l ++ [r]).length * 2 = l.length * 2 + 1 + 1 := by simp; omega
  rw [e, List.range_succ, List.range_succ, List.map_append, List.map_append, List.append_assoc]
  congr 1
  · refine List.map_congr_left fun j hj => ?_
    have hj' : j < l.length * 2 := by simpa using hj
    have : j / 2 < l.length := by omega
    unfold regCell
    simp [List.getD_eq_getElem?_getD, List.getElem?_append_left this]
  · simp only [List.map_cons, List.map_nil, List.cons_append, List.nil_append]
    rw [regCell_0, regCell_1]
    simp [List.getD_eq_getElem?_getD]
theorem tLuts_snoc (l : List LT) (A : Nat → Option Addr) (C : Nat → Nat) (t : LT) : tLuts (l ++ [t]) A C = tLuts l A C ++ [.slice (A l.length) t.ins.length (C l.length), .int .i64 t.table] := by
  unfold tLuts
  have e : (l ++ [t]).length * 2 = l.length * 2 + 1 + 1 := by simp; omega
  rw [e, List.range_succ, List.range_succ, List.map_append, List.map_append, List.append_assoc]
  congr 1
  · refine List.map_congr_left fun j hj => ?_
    have hj' : j < l.length * 2 := by simpa using hj
    have h2 : j / 2 < l.length := by omega
    unfold lutCell
    simp [List.getD_eq_getElem?_getD, List.getElem?_append_left h2]
  · simp only [List.map_cons, List.map_nil, List.cons_append, List.nil_append]
    rw [lutCell_0, lutCell_1]
    simp [List.getD_eq_getElem?_getD]
/-- The document's net of tables in the making. -/
def TAt (g : Int) (y : Lay) (no : Nat) (w2 : World) (bR : Nat) (R : List LR) (T : List LT) (wx : World) : Prop :=
  ∃ a1 c1 a2 c2, w2.heap.size ≤ bR ∧ wx.heap[bR]? = some (.cells #[.int .i64 g, .slice a1 R.length c1, .slice a2 T.length c2, .slice y.ao no y.co] 30 (0, 0)) ∧
    wx.ownsRow w2.heap.size 87 2 (.slice a1 R.length c1) R.length (tRegs R) ∧ wx.ownsRow w2.heap.size 91 2 (.slice a2 T.length c2) T.length (tLuts T y.A y.C) ∧ Below w2.heap.size w2 wx
theorem t_alloc (w : World) (o : Obj) : Below w.heap.size w (w.alloc o).drew := ((Below.refl _ _).alloc (Nat.le_refl _) o).drew
theorem t_pushR {g : Int} {y : Lay} {a1 a2 av : Option Addr} {no c1 c2 cv bR : Nat} {w2 wr W1 wb : World} {R : List LR} {T : List LT} {x : LR} (hbm : w2.heap.size ≤ bR)
    (hm : wr.heap[bR]? = some (.cells #[.int .i64 g, .slice a1 R.length c1, .slice a2 T.length c2, .slice y.ao no y.co] 30 (0, 0)))
    (hR : wr.ownsRow w2.heap.size 87 2 (.slice a1 R.length c1) R.length (tRegs R)) (hT : wr.ownsRow w2.heap.size 91 2 (.slice a2 T.length c2) T.length (tLuts T y.A y.C)) (hbe : Below w2.heap.size w2 wr)
    (hb : Below wr.heap.size wr W1) (hg : W1.grownBy wb (Value.slice a1 R.length c1).ownBlock)
    (hown : wb.ownsRow w2.heap.size 87 2 (.slice av (R.length + 1) cv) (R.length + 1) (tRegs R ++ [.bool x.init, .int .i64 x.next])) :
    wb.heap[bR]? = some (.cells #[.int .i64 g, .slice a1 R.length c1, .slice a2 T.length c2, .slice y.ao no y.co] 30 (0, 0)) ∧ TAt g y no w2 bR (R ++ [x]) T (wb.setCell ⟨bR, 1, none⟩ (.slice av (R.length + 1) cv)) := by
  have hm1 := (hb.block bR (boxLt hm)).trans hm
  have hR1 := rowOld hR hb
  have hT1 := rowOld hT hb
  have hmb := boxCross hg hR1 hm1 (by decide)
  have hTb := rowCross hg hR1 hT1 (by decide)
  have hbw : Below w2.heap.size w2 wb := (hbe.trans (hb.mono hbe.size)).grown hg (Nat.le_trans hbe.size hb.size) (fun k hk => (hR1.lt k hk).1)
  have e : (R ++ [x]).length = R.length + 1 := by simp
  refine ⟨hmb, av, cv, a2, c2, hbm, ?_, ?_, own_not hTb hmb (by decide) _ _, hbw.setCell hbm _⟩
  · rw [set_box hmb 1, e]; simp
  · rw [e, tRegs_snoc]
    exact own_not hown hmb (by decide) _ _
theorem t_pushT {g : Int} {y : Lay} {a1 a2 av : Option Addr} {no c1 c2 cv bR : Nat} {w2 wr W1 wb : World} {R : List LR} {T : List LT} {x : LT} (hbm : w2.heap.size ≤ bR)
    (hm : wr.heap[bR]? = some (.cells #[.int .i64 g, .slice a1 R.length c1, .slice a2 T.length c2, .slice y.ao no y.co] 30 (0, 0)))
    (hR : wr.ownsRow w2.heap.size 87 2 (.slice a1 R.length c1) R.length (tRegs R)) (hT : wr.ownsRow w2.heap.size 91 2 (.slice a2 T.length c2) T.length (tLuts T y.A y.C)) (hbe : Below w2.heap.size w2 wr)
    (hb : Below wr.heap.size wr W1) (hg : W1.grownBy wb (Value.slice a2 T.length c2).ownBlock)
    (hown : wb.ownsRow w2.heap.size 91 2 (.slice av (T.length + 1) cv) (T.length + 1) (tLuts T y.A y.C ++ [.slice (y.A T.length) x.ins.length (y.C T.length), .int .i64 x.table])) :
    wb.heap[bR]? = some (.cells #[.int .i64 g, .slice a1 R.length c1, .slice a2 T.length c2, .slice y.ao no y.co] 30 (0, 0)) ∧ TAt g y no w2 bR R (T ++ [x]) (wb.setCell ⟨bR, 2, none⟩ (.slice av (T.length + 1) cv)) := by
  have hm1 := (hb.block bR (boxLt hm)).trans hm
  have hR1 := rowOld hR hb
  have hT1 := rowOld hT hb
  have hmb := boxCross hg hT1 hm1 (by decide)
  have hRb := rowCross hg hT1 hR1 (by decide)
  have hbw : Below w2.heap.size w2 wb := (hbe.trans (hb.mono hbe.size)).grown hg (Nat.le_trans hbe.size hb.size) (fun k hk => (hT1.lt k hk).1)
  have e : (T ++ [x]).length = T.length + 1 := by simp
  refine ⟨hmb, a1, c1, av, cv, hbm, ?_, own_not hRb hmb (by decide) _ _, ?_, hbw.setCell hbm _⟩
  · rw [set_box hmb 2, e]; simp
  · rw [e, tLuts_snoc]
    exact own_not hown hmb (by decide) _ _
theorem set4 {W : World} {b T : Nat} {x0 x1 x2 x3 : Value} (h : W.heap[b]? = some (.cells #[x0, x1, x2, x3] T (0, 0))) (v0 v1 v2 v3 : Value) :
    ((((W.setCell ⟨b, 0, none⟩ v0).setCell ⟨b, 1, none⟩ v1).setCell ⟨b, 2, none⟩ v2).setCell ⟨b, 3, none⟩ v3).heap[b]? = some (.cells #[v0, v1, v2, v3] T (0, 0)) := by
  have h1 := set_box h 0 v0
  have h2 := set_box h1 1 v1
  have h3 := set_box h2 2 v2
  have h4 := set_box h3 3 v3
  simpa using h4
theorem below4 {w W : World} {k : Nat} (h : Below w.heap.size w W) (v0 v1 v2 v3 : Value) : Below w.heap.size w ((((W.setCell ⟨w.heap.size + k, 0, none⟩ v0).setCell ⟨w.heap.size + k, 1, none⟩ v1).setCell ⟨w.heap.size + k, 2, none⟩ v2).setCell ⟨w.heap.size + k, 3, none⟩ v3) :=
  (((h.setCell (Nat.le_add_right _ _) v0).setCell (Nat.le_add_right _ _) v1).setCell (Nat.le_add_right _ _) v2).setCell (Nat.le_add_right _ _) v3
theorem own4 {W : World} {b base E s n : Nat} {v : Value} {xs : List Value} (h : W.ownsRow base E s v n xs) (hb : b < base) (v0 v1 v2 v3 : Value) :
    ((((W.setCell ⟨b, 0, none⟩ v0).setCell ⟨b, 1, none⟩ v1).setCell ⟨b, 2, none⟩ v2).setCell ⟨b, 3, none⟩ v3).ownsRow base E s v n xs :=
  rowKeep h fun k hk => by
    have h1 := (h.lt k hk).1
    have hne : k ≠ b := by omega
    rw [heap_setCell_other _ _ _ _ hne, heap_setCell_other _ _ _ _ hne, heap_setCell_other _ _ _ _ hne, heap_setCell_other _ _ _ _ hne]
/-- Its rows, when it is made. -/
theorem t_rows {y : Lay} {base B : Nat} {w wx : World} {L : LN} {a1 a2 : Option Addr} {c1 c2 : Nat} (hR : wx.ownsRow base 87 2 (.slice a1 L.regs.length c1) L.regs.length (tRegs L.regs)) (hT : wx.ownsRow base 91 2 (.slice a2 L.luts.length c2) L.luts.length (tLuts L.luts y.A y.C)) (hr : LnRows B w y L) (hB : B ≤ wx.heap.size) (hb : Below B w wx) :
    LnRows wx.heap.size wx ⟨a1, c1, a2, c2, y.ao, y.co, y.A, y.C⟩ L := by
  obtain ⟨b1, d1, e1, _, _, hc1⟩ := Cells.of_owns hR
  obtain ⟨b2, d2, e2, _, _, hc2⟩ := Cells.of_owns hT
  cases e1
  cases e2
  refine ⟨hc1.congr fun j hj => ?_, hc2.congr fun j hj => ?_, fun i hi => ((hr.ri i hi).stay hb).mono hB, (hr.ro.stay hb).mono hB, hr.lr, hr.ll, hr.li, hr.lo⟩
  · simp [List.getD_eq_getElem?_getD, tRegs, hj]
  · simp [List.getD_eq_getElem?_getD, tLuts, hj]
/-- Which nets the law looks at. -/
def LN.fine (L : LN) : Prop := L.regs.length ≤ 40 ∧ L.luts.length ≤ 60 ∧ L.outs.length ≤ 40 ∧ ¬ (1000 < L.given ∧ L.given ≤ 20000) ∧ ∀ i, i < L.luts.length → (L.luts.getD i LT.zero).ins.length ≤ 10
/-- What tables hands back. -/
def TabPost (L : LN) (y : Lay) (w : World) (e : Ending) (w' : World) : Prop :=
  (L.fine ∧ ∃ a1 c1 a2 c2, e = .returned (.tuple #[.agg #[.int .i64 L.given, .slice a1 L.regs.length c1, .slice a2 L.luts.length c2, .slice y.ao L.outs.length y.co], .bool true]) ∧ LnRows w'.heap.size w' ⟨a1, c1, a2, c2, y.ao, y.co, y.A, y.C⟩ L ∧ Below w.heap.size w w') ∨
  (¬ L.fine ∧ ∃ g a1 n1 c1 a2 n2 c2 a3 n3 c3, e = .returned (.tuple #[.agg #[.int .i64 g, .slice a1 n1 c1, .slice a2 n2 c2, .slice a3 n3 c3], .bool false]) ∧ Below w.heap.size w w')
section
variable (B : Nat) (y : Lay) (L : LN) (w : World)
set_option maxRecDepth 100000 in
set_option maxHeartbeats 12800000 in
theorem tables_any (h : LnRows B w y L) (hB : B ≤ w.heap.size) : Calls Tryd.prog 7 #[.agg #[.int .i64 L.given, .slice y.ar L.regs.length y.cr, .slice y.al L.luts.length y.cl, .slice y.ao L.outs.length y.co]] w (TabPost L y w) := by
  obtain ⟨i1, hi1, hz10, hz11, hz12⟩ := info_parts Tryd.infoRReg
  obtain ⟨i2, hi2, hz20, hz21, hz22⟩ := info_parts Tryd.infoRLut
  have H := hid h
  obtain ⟨ar, cr, al, cl, ao, co, A, C⟩ := y
  simp only
  obtain ⟨nr, hNr⟩ : ∃ n, L.regs.length = n := ⟨_, rfl⟩
  obtain ⟨nl, hNl⟩ : ∃ n, L.luts.length = n := ⟨_, rfl⟩
  obtain ⟨no, hNo⟩ : ∃ n, L.outs.length = n := ⟨_, rfl⟩
  obtain ⟨g, hG⟩ : ∃ n, L.given = n := ⟨_, rfl⟩
  have HP : Hid (∀ e w', (((nr ≤ 40 ∧ nl ≤ 60 ∧ no ≤ 40 ∧ ¬ (1000 < g ∧ g ≤ 20000) ∧ ∀ i, i < nl → (L.luts.getD i LT.zero).ins.length ≤ 10) ∧ ∃ a1 c1 a2 c2, e = .returned (.tuple #[.agg #[.int .i64 g, .slice a1 nr c1, .slice a2 nl c2, .slice ao no co], .bool true]) ∧ LnRows w'.heap.size w' ⟨a1, c1, a2, c2, ao, co, A, C⟩ L ∧ Below w.heap.size w w') ∨
      (¬ (nr ≤ 40 ∧ nl ≤ 60 ∧ no ≤ 40 ∧ ¬ (1000 < g ∧ g ≤ 20000) ∧ ∀ i, i < nl → (L.luts.getD i LT.zero).ins.length ≤ 10) ∧ ∃ g a1 n1 c1 a2 n2 c2 a3 n3 c3, e = .returned (.tuple #[.agg #[.int .i64 g, .slice a1 n1 c1, .slice a2 n2 c2, .slice a3 n3 c3], .bool false]) ∧ Below w.heap.size w w')) → TabPost L ⟨ar, cr, al, cl, ao, co, A, C⟩ w e w') := by
    intro e w' hh
    unfold TabPost LN.fine
    rw [hNr, hNl, hNo, hG]
    exact hh
  generalize TabPost L ⟨ar, cr, al, cl, ao, co, A, C⟩ w = PP at HP ⊢
  have HB1 := hid (show Below w.heap.size w (w.alloc (.cells #[.int .i64 g, .slice ar nr cr, .slice al nl cl, .slice ao no co] 26)) from (Below.refl _ _).alloc (Nat.le_refl _) _)
  have HX : Hid (LnIn (w.heap.size + 1) (w.alloc (.cells #[.int .i64 g, .slice ar nr cr, .slice al nl cl, .slice ao no co] 26)) w.heap.size ⟨ar, cr, al, cl, ao, co, A, C⟩ L) := ⟨by rw [hG]; exact (cell_new _ _ _ _).trans rfl, by rw [hNr]; exact (cell_new _ _ _ _).trans rfl, by rw [hNl]; exact (cell_new _ _ _ _).trans rfl, by rw [hNo]; exact (cell_new _ _ _ _).trans rfl, (h.stay (HB1.out.mono hB)).mono (by omega), Nat.lt_succ_self _⟩
  have HSZ1 := hid (show (w.alloc (.cells #[.int .i64 g, .slice ar nr cr, .slice al nl cl, .slice ao no co] 26)).heap.size = w.heap.size + 1 by simp)
  rw [hNr, hNl, hNo, hG]
  have HNR := hid hNr
  have HNL := hid hNl
  have HNO := hid hNo
  have HG := hid hG
  clear h hNr hNl hNo hG
  go_enter Tryd.func7, Tryd.ntmps7
  go_upto_region 1 with fail
  have HB2 := hid (show Below w.heap.size w ((w.alloc (.cells #[.int .i64 g, .slice ar nr cr, .slice al nl cl, .slice ao no co] 26)).alloc (.cells #[.int .i64 0, .slice none 0 0, .slice none 0 0, .slice none 0 0] 30)) from HB1.out.alloc (by have := HSZ1.out; omega) _)
  have HX2 := hid (HX.out.stay (show Below (w.heap.size + 1) _ ((w.alloc (.cells #[.int .i64 g, .slice ar nr cr, .slice al nl cl, .slice ao no co] 26)).alloc (.cells #[.int .i64 0, .slice none 0 0, .slice none 0 0, .slice none 0 0] 30)) from ((Below.refl _ _).alloc (by have := HSZ1.out; omega) _)))
  have HZ2 : Hid (((w.alloc (.cells #[.int .i64 g, .slice ar nr cr, .slice al nl cl, .slice ao no co] 26)).alloc (.cells #[.int .i64 0, .slice none 0 0, .slice none 0 0, .slice none 0 0] 30)).heap[w.heap.size + 1]? = some (.cells #[.int .i64 0, .slice none 0 0, .slice none 0 0, .slice none 0 0] 30 (0, 0))) := by unfold Hid; have h := alloc_at (w.alloc (.cells #[.int .i64 g, .slice ar nr cr, .slice al nl cl, .slice ao no co] 26)) (.cells #[.int .i64 0, .slice none 0 0, .slice none 0 0, .slice none 0 0] 30); rw [HSZ1.out] at h; exact h
  have hsz2 : ((w.alloc (.cells #[.int .i64 g, .slice ar nr cr, .slice al nl cl, .slice ao no co] 26)).alloc (.cells #[.int .i64 0, .slice none 0 0, .slice none 0 0, .slice none 0 0] 30)).heap.size = w.heap.size + 2 := by simp
  clear HX HB1 HSZ1
  generalize (w.alloc (.cells #[.int .i64 g, .slice ar nr cr, .slice al nl cl, .slice ao no co] 26)).alloc (.cells #[.int .i64 0, .slice none 0 0, .slice none 0 0, .slice none 0 0] 30) = w2 at *
  have x0 := HX2.out.g
  have x1 := HX2.out.regs
  have x2 := HX2.out.luts
  have x3 := HX2.out.outs
  rw [HG.out] at x0
  rw [HNR.out] at x1
  rw [HNL.out] at x2
  rw [HNO.out] at x3
  simp only at x1 x2 x3
  have hlt2 : w.heap.size < w2.heap.size := by omega
  obtain ⟨bR, hbR⟩ : ∃ z, w.heap.size + 2 = z := ⟨_, rfl⟩
  have HT3 := hid (show TAt g ⟨ar, cr, al, cl, ao, co, A, C⟩ no w2 w2.heap.size (L.regs.take 0) (L.luts.take 0) (w2.alloc (.cells #[.int .i64 g, .slice none 0 0, .slice none 0 0, .slice ao no co] 30)) from ⟨none, 0, none, 0, Nat.le_refl _, alloc_at _ _, World.ownsRow_nil _ _ _ _, World.ownsRow_nil _ _ _ _, (Below.refl _ _).alloc (Nat.le_refl _) _⟩)
  have eR : w2.heap.size = bR := by omega
  rw [eR] at HT3
  have HBox3 : Hid ((w2.alloc (.cells #[.int .i64 g, .slice none 0 0, .slice none 0 0, .slice ao no co] 30)).heap[bR]? = some (.cells #[.int .i64 g, .slice none 0 0, .slice none 0 0, .slice ao no co] 30 (0, 0))) := by rw [← eR]; exact alloc_at _ _
  have HB23 := hid (show Below w2.heap.size w2 (w2.alloc (.cells #[.int .i64 g, .slice none 0 0, .slice none 0 0, .slice ao no co] 30)) from (Below.refl _ _).alloc (Nat.le_refl _) _)
  go_upto_region 2 with fail
  (try rw [hbR] at ⊢)
  generalize w2.alloc (.cells #[.int .i64 g, .slice none 0 0, .slice none 0 0, .slice ao no co] 30) = w3 at *
  have HX3 := hid (HX2.out.stay (HB23.out.mono (by omega)))
  have x0 := HX3.out.g
  have x1 := HX3.out.regs
  have x2 := HX3.out.luts
  have x3 := HX3.out.outs
  rw [HG.out] at x0
  rw [HNR.out] at x1
  rw [HNL.out] at x2
  rw [HNO.out] at x3
  simp only at x1 x2 x3
  have hz3 := (HB23.out.block (w.heap.size + 1) (by omega)).trans HZ2.out
  have z0 : w3.cell? ⟨w.heap.size + 1, 0, none⟩ = some (.int .i64 0) := (cell_block hz3 0).trans rfl
  have z1 : w3.cell? ⟨w.heap.size + 1, 1, none⟩ = some (.slice none 0 0) := (cell_block hz3 1).trans rfl
  have z2 : w3.cell? ⟨w.heap.size + 1, 2, none⟩ = some (.slice none 0 0) := (cell_block hz3 2).trans rfl
  have z3 : w3.cell? ⟨w.heap.size + 1, 3, none⟩ = some (.slice none 0 0) := (cell_block hz3 3).trans rfl
  have zf := free_block hz3
  have k0 : w3.cell? ⟨bR, 0, none⟩ = some (.int .i64 g) := (cell_block HBox3.out 0).trans rfl
  have k1 : w3.cell? ⟨bR, 1, none⟩ = some (.slice none 0 0) := (cell_block HBox3.out 1).trans rfl
  have k2 : w3.cell? ⟨bR, 2, none⟩ = some (.slice none 0 0) := (cell_block HBox3.out 2).trans rfl
  have k3 : w3.cell? ⟨bR, 3, none⟩ = some (.slice ao no co) := (cell_block HBox3.out 3).trans rfl
  have HB3 := hid (HB2.out.trans (HB23.out.mono (by omega)))
  have HZ3 := hid hz3
  have hltR : bR < w3.heap.size := boxLt HBox3.out
  have hlt3 : w.heap.size + 1 < w3.heap.size := by omega
  clear hz3
  by_cases n1 : (40 : Int) < (nr : Int)
  · go_wp2_with fail
    refine bodyPost_ret (results_two rfl _ _ (w.heap.size + 1) 30 _ (0, 0) _ rfl (set4 HZ3.out _ _ _ _) Tryd.underlying30 rfl (by kernel_rfl)) rfl (HP.out _ _ (.inr ⟨fun h => by have := h.1; have := h.2.1; have := h.2.2.1; omega, _, _, _, _, _, _, _, _, _, _, rfl, below4 HB3.out _ _ _ _⟩))
  have d1 : decide ((40 : Int) < (nr : Int)) = false := decide_eq_false n1
  by_cases n2 : (60 : Int) < (nl : Int)
  · go_wp2_with fail
    refine bodyPost_ret (results_two rfl _ _ (w.heap.size + 1) 30 _ (0, 0) _ rfl (set4 HZ3.out _ _ _ _) Tryd.underlying30 rfl (by kernel_rfl)) rfl (HP.out _ _ (.inr ⟨fun h => by have := h.1; have := h.2.1; have := h.2.2.1; omega, _, _, _, _, _, _, _, _, _, _, rfl, below4 HB3.out _ _ _ _⟩))
  have d2 : decide ((60 : Int) < (nl : Int)) = false := decide_eq_false n2
  by_cases n3 : (40 : Int) < (no : Int)
  · go_wp2_with fail
    refine bodyPost_ret (results_two rfl _ _ (w.heap.size + 1) 30 _ (0, 0) _ rfl (set4 HZ3.out _ _ _ _) Tryd.underlying30 rfl (by kernel_rfl)) rfl (HP.out _ _ (.inr ⟨fun h => by have := h.1; have := h.2.1; have := h.2.2.1; omega, _, _, _, _, _, _, _, _, _, _, rfl, below4 HB3.out _ _ _ _⟩))
  have d3 : decide ((40 : Int) < (no : Int)) = false := decide_eq_false n3
  by_cases n4 : 1000 < g ∧ g ≤ 20000
  · obtain ⟨n5, n6⟩ := n4
    go_wp2_with fail
    refine bodyPost_ret (results_two rfl _ _ (w.heap.size + 1) 30 _ (0, 0) _ rfl (set4 HZ3.out _ _ _ _) Tryd.underlying30 rfl (by kernel_rfl)) rfl (HP.out _ _ (.inr ⟨fun h => absurd ⟨n5, n6⟩ h.2.2.2.1, _, _, _, _, _, _, _, _, _, _, rfl, below4 HB3.out _ _ _ _⟩))
  go_cut [37] (fun s wx => s = .bool false ∧ w3 = wx)
  case first =>
    by_cases n5 : 1000 < g
    · have d5 : decide (g ≤ 20000) = false := decide_eq_false (fun h => n4 ⟨n5, h⟩)
      go_wp2_with fail
      go_meet
      exact ⟨rfl, rfl⟩
    · have d5 : decide (1000 < g) = false := decide_eq_false n5
      go_wp2_with fail
      go_meet
      exact ⟨rfl, rfl⟩
  case rest =>
  obtain ⟨rfl, rfl⟩ := hcut
  clear x0 x1 x2 x3 z0 z1 z2 z3 zf k0 k1 k2 k3 HZ3 HBox3 HX3
  go_wp2_with fail
  go_loopw [5] (fun v wr => ∃ k : Nat, k ≤ nr ∧ v = .int .i64 k ∧ TAt g ⟨ar, cr, al, cl, ao, co, A, C⟩ no w2 bR (L.regs.take k) (L.luts.take 0) wr) (fun v _ => nr - (intOf v).toNat)
  case atStart => exact ⟨0, Nat.zero_le _, rfl, HT3.out⟩
  case round =>
    obtain ⟨k, hle, rfl, hat⟩ := hrel
    have HAT := hid hat
    obtain ⟨a1, c1, a2, c2, _, hm, hR, hT, hbe⟩ := hat
    have h' := HX2.out.stay (hbe.mono (by omega))
    have x1 := h'.regs
    rw [HNR.out] at x1
    simp only at x1
    have hltr : w.heap.size < wr.heap.size := by have := hbe.size; omega
    by_cases hlt : k < nr
    · have hrl : Cells (w.heap.size + 1) wr ar (L.regs.length * 2) (regCell L.regs) := h'.rows.rr
      obtain ⟨b1, off, rfl, hb1, d0, d1⟩ := Cells.two hrl k (by rw [HNR.out]; exact hlt)
      rw [regCell_0] at d0
      rw [regCell_1] at d1
      have hb12 : b1 < w2.heap.size := by omega
      have hblr : b1 < wr.heap.size := by have := hbe.size; omega
      have hlen : (L.regs.take k).length = k := by have := HNR.out; simp; omega
      have htk : L.regs.take (k + 1) = L.regs.take k ++ [L.regs.getD k LR.zero] := by
        have hl : k < L.regs.length := by rw [HNR.out]; exact hlt
        rw [List.take_succ_eq_append_getElem hl]
        simp [List.getD_eq_getElem?_getD, hl]
      obtain ⟨x, hx⟩ : ∃ x, L.regs.getD k LR.zero = x := ⟨_, rfl⟩
      rw [hx] at d0 d1 htk
      obtain ⟨xi, xn⟩ := x
      simp only at d0 d1
      have cc : wr.cell? ⟨bR, 1, none⟩ = some (.slice a1 k c1) := by rw [hlen] at hm; exact (cell_block hm 1).trans rfl
      have hbmlt := boxLt hm
      have hrow' : wr.ownsRow w2.heap.size 87 2 (.slice a1 k c1) k (tRegs (L.regs.take k)) := by rw [hlen] at hR; exact hR
      have HM := hid hm
      have HR := hid hR
      have HT := hid hT
      have HROW' := hid hrow'
      have HBE := hid hbe
      have HLEN := hid hlen
      have HTK := hid htk
      have hkI : ((k : Nat) : Int) < (nr : Int) := by omega
      have hbR2 : w2.heap.size ≤ bR := by omega
      clear h' hx hm hR hT hrow' hbe hlen htk hrl HAT HT3
      go_upto_region 7 with fail
      refine wpEnds.begin (fun w' => w'.cell? ⟨bR, 1, none⟩ = some (.slice a1 k c1) ∧ w'.cell? ⟨w.heap.size, 1, none⟩ = some (.slice (some ⟨b1, off, none⟩) nr cr) ∧ w'.cell? ⟨b1, off + k * 2, none⟩ = some (.bool xi) ∧ w'.cell? ⟨b1, off + k * 2 + 1, none⟩ = some (.int .i64 xn)) 10 (by kernel_rfl) ⟨cc, x1, d0, d1⟩ (fun hHeld => ?_)
      refine wpEnds.take 0 11 (v := ?va0) rfl (by kernel_rfl) (by kernel_rfl) (by kernel_rfl) (by kernel_rfl) (by kernel_rfl) (fun _ _ _ h => h) (by rfl) hHeld (fun w' hSw => ?hya0) ?resta0
      case hya0 => ((try dsimp only at hSw); go_simp; try with_reducible rfl)
      case resta0 =>
      (try simp only [Act.put, List.setIfInBounds_toArray, List.set_cons_zero, List.set_cons_succ])
      refine wpEnds.take 1 11 (v := ?va1) rfl (by kernel_rfl) (by kernel_rfl) (by kernel_rfl) (by kernel_rfl) (by kernel_rfl) (fun _ _ _ h => h) (by rfl) hHeld (fun w' hSw => ?hya1) ?resta1
      case hya1 => ((try dsimp only at hSw); go_simp; try with_reducible rfl)
      case resta1 =>
      (try simp only [Act.put, List.setIfInBounds_toArray, List.set_cons_zero, List.set_cons_succ])
      refine wpEnds.take 2 11 (v := ?va2) rfl (by kernel_rfl) (by kernel_rfl) (by kernel_rfl) (by kernel_rfl) (by kernel_rfl) (fun _ _ _ h => h) (by rfl) hHeld (fun w' hSw => ?hya2) ?resta2
      case hya2 => ((try dsimp only at hSw); go_simp; try with_reducible rfl)
      case resta2 =>
      (try simp only [Act.put, List.setIfInBounds_toArray, List.set_cons_zero, List.set_cons_succ])
      refine wpEnds.take 3 11 (v := ?va3) rfl (by kernel_rfl) (by kernel_rfl) (by kernel_rfl) (by kernel_rfl) (by kernel_rfl) (fun _ _ _ h => h) (by rfl) hHeld (fun w' hSw => ?hya3) ?resta3
      case hya3 => ((try dsimp only at hSw); go_simp; try with_reducible rfl)
      case resta3 =>
      (try simp only [Act.put, List.setIfInBounds_toArray, List.set_cons_zero, List.set_cons_succ])
      refine wpEnds.take 4 11 (v := ?va4) rfl (by kernel_rfl) (by kernel_rfl) (by kernel_rfl) (by kernel_rfl) (by kernel_rfl) (fun _ _ _ h => h) (by rfl) hHeld (fun w' hSw => ?hya4) ?resta4
      case hya4 => ((try dsimp only at hSw); go_simp; try with_reducible rfl)
      case resta4 =>
      (try simp only [Act.put, List.setIfInBounds_toArray, List.set_cons_zero, List.set_cons_succ])
      refine wpEnds.take 5 11 (v := ?va5) rfl (by kernel_rfl) (by kernel_rfl) (by kernel_rfl) (by kernel_rfl) (by kernel_rfl) (fun _ _ _ h => h) (by rfl) hHeld (fun w' hSw => ?hya5) ?resta5
      case hya5 => ((try dsimp only at hSw); go_simp; try with_reducible rfl)
      case resta5 =>
      (try simp only [Act.put, List.setIfInBounds_toArray, List.set_cons_zero, List.set_cons_succ])
      refine wpEnds.take 6 11 (v := ?va6) rfl (by kernel_rfl) (by kernel_rfl) (by kernel_rfl) (by kernel_rfl) (by kernel_rfl) (fun _ _ _ h => h) (by rfl) hHeld (fun w' hSw => ?hya6) ?resta6
      case hya6 => ((try dsimp only at hSw); go_simp; try with_reducible rfl)
      case resta6 =>
      (try simp only [Act.put, List.setIfInBounds_toArray, List.set_cons_zero, List.set_cons_succ])
      refine wpEnds.one 7 (by kernel_rfl) rfl (fun K hK => ?_)
      go_simp
      refine hK.out _ _ ⟨((t_alloc _ _).cell hbmlt).trans cc, ((t_alloc _ _).cell hltr).trans x1, ((t_alloc _ _).cell hblr).trans d0, ((t_alloc _ _).cell hblr).trans d1⟩ ?_
      clear hK K
      (try simp only [Act.put, List.setIfInBounds_toArray, List.set_cons_zero, List.set_cons_succ])
      refine wpEnds.one 8 (by kernel_rfl) rfl (fun K hK => ?_)
      refine append_held (by rfl) _ _ 27 (by rfl) w2.heap.size 87 i1 _ 2 16 Tryd.underlying27 hi1 hz10 hz11 hz12 (by rfl) (by decide) (.slice a1 k c1) k (tRegs (L.regs.take k)) (by rfl) ((HROW'.out.alloc _).drew) (some ⟨wr.heap.size, 0, none⟩) 1 1 [.bool xi, .int .i64 xn] (by rfl) (by intro h; cases h) (by rfl) (by rintro ad' h j u hj'; cases h; rw [Addr.add_at]; exact (cell_new _ _ _ _).trans (by simpa using hj')) (by simp [Value.oneCell']) (by unfold maxLen; omega) (by omega) (by have := HBE.out.size; simp; omega) ?_
      intro av1 cv1 wb HPO HRN hgb
      have P := t_pushR (y := ⟨some ⟨b1, off, none⟩, cr, al, cl, ao, co, A, C⟩) (x := ⟨xi, xn⟩) hbR2 HM.out HR.out HT.out HBE.out (t_alloc wr _) (by have h := hgb.out; rw [HLEN.out]; exact h) (by have h := HRN.out; rw [HLEN.out]; exact h)
      rw [HLEN.out] at P
      have cb : wb.cell? ⟨bR, 1, none⟩ = some (.slice a1 k c1) := (cell_block P.1 1).trans rfl
      have hbfr := free_block P.1
      have hblt := boxLt P.1
      have HEND := hid P.2
      have hbwx : Below w2.heap.size w2 wb := ((HBE.out.trans ((t_alloc wr _).mono HBE.out.size)).grown hgb.out (Nat.le_trans HBE.out.size (t_alloc wr (.cells #[.bool xi, .int .i64 xn] 87)).size) (fun k hk => (HROW'.out.lt k hk).1))
      have y1 := (hbwx.cell (p := ⟨w.heap.size, 1, none⟩) hlt2).trans (((HBE.out.cell (p := ⟨w.heap.size, 1, none⟩) hlt2).symm).trans x1)
      have g0 := (hbwx.cell (p := ⟨b1, off + k * 2, none⟩) hb12).trans (((HBE.out.cell (p := ⟨b1, off + k * 2, none⟩) hb12).symm).trans d0)
      have g1 := (hbwx.cell (p := ⟨b1, off + k * 2 + 1, none⟩) hb12).trans (((HBE.out.cell (p := ⟨b1, off + k * 2 + 1, none⟩) hb12).symm).trans d1)
      clear P HPO HRN hgb hbwx
      refine hK.out _ _ ⟨cb, y1, g0, g1⟩ ?_
      clear hK K
      (try simp only [Act.put, List.setIfInBounds_toArray, List.set_cons_zero, List.set_cons_succ])
      refine wpEnds.take 9 11 (v := ?va9) rfl (by kernel_rfl) (by kernel_rfl) (by kernel_rfl) (by kernel_rfl) (by kernel_rfl) (fun _ _ _ h => h) (by rfl) ⟨cb, y1, g0, g1⟩ (fun w' hSw => ?hya9) ?resta9
      case hya9 => ((try dsimp only at hSw); go_simp; try with_reducible rfl)
      case resta9 =>
      (try simp only [Act.put, List.setIfInBounds_toArray, List.set_cons_zero, List.set_cons_succ])
      refine wpEnds.last 10 (by kernel_rfl) (by kernel_rfl) rfl (fun K hK => ?_)
      go_simp
      refine hK.out _ _ ?_
      clear hK K
      (try simp only [Act.put, List.setIfInBounds_toArray, List.set_cons_zero, List.set_cons_succ])
      go_wp2_with fail
      go_roundw
      case rel => exact ⟨k + 1, hlt, by go_num, by rw [HTK.out]; exact HEND.out⟩
      case measure => simp [intOf]; omega
    · obtain rfl : nr = k := by omega
      have hall : L.regs.take nr = L.regs := List.take_of_length_le (by rw [HNR.out]; exact Nat.le_refl _)
      have HAT0 := HAT
      rw [hall] at HAT0
      obtain ⟨w4, rfl⟩ : ∃ wo : World, wo = wr := ⟨_, rfl⟩
      clear HAT hm hR hT hbe h' hltr hall HT3 hlt hle
      go_wp2_with fail
      clear x1
      go_loopw [6] (fun v wr => ∃ k : Nat, k ≤ nl ∧ v = .int .i64 k ∧ TAt g ⟨ar, cr, al, cl, ao, co, A, C⟩ no w2 bR L.regs (L.luts.take k) wr ∧ ∀ i, i < k → (L.luts.getD i LT.zero).ins.length ≤ 10) (fun v _ => nl - (intOf v).toNat)
      case atStart => exact ⟨0, Nat.zero_le _, rfl, HAT0.out, fun i hi => by omega⟩
      case round =>
        obtain ⟨k, hle, rfl, hat, hten⟩ := hrel
        have HTEN := hid hten
        have HAT := hid hat
        obtain ⟨a1, c1, a2, c2, _, hm, hR, hT, hbe⟩ := hat
        have h' := HX2.out.stay (hbe.mono (by omega))
        have x1 := h'.luts
        rw [HNL.out] at x1
        simp only at x1
        have hltr : w.heap.size < wr.heap.size := by have := hbe.size; omega
        have hzr := (hbe.block (w.heap.size + 1) (by omega)).trans HZ2.out
        have HZR := hid hzr
        have HBR := hid (HB2.out.trans (hbe.mono (by omega)))
        have hbR2 : w2.heap.size ≤ bR := by omega
        have z0 : wr.cell? ⟨w.heap.size + 1, 0, none⟩ = some (.int .i64 0) := (cell_block hzr 0).trans rfl
        have z1 : wr.cell? ⟨w.heap.size + 1, 1, none⟩ = some (.slice none 0 0) := (cell_block hzr 1).trans rfl
        have z2 : wr.cell? ⟨w.heap.size + 1, 2, none⟩ = some (.slice none 0 0) := (cell_block hzr 2).trans rfl
        have z3 : wr.cell? ⟨w.heap.size + 1, 3, none⟩ = some (.slice none 0 0) := (cell_block hzr 3).trans rfl
        have zf := free_block hzr
        clear hten HAT0 hzr
        by_cases hlt : k < nl
        · have hrl : Cells (w.heap.size + 1) wr al (L.luts.length * 2) (lutCell L.luts A C) := h'.rows.rl
          obtain ⟨b1, off, rfl, hb1, d0, d1⟩ := Cells.two hrl k (by rw [HNL.out]; exact hlt)
          rw [lutCell_0] at d0
          rw [lutCell_1] at d1
          have hb12 : b1 < w2.heap.size := by omega
          have hblr : b1 < wr.heap.size := by have := hbe.size; omega
          have hlen : (L.luts.take k).length = k := by have := HNL.out; simp; omega
          have htk : L.luts.take (k + 1) = L.luts.take k ++ [L.luts.getD k LT.zero] := by
            have hl : k < L.luts.length := by rw [HNL.out]; exact hlt
            rw [List.take_succ_eq_append_getElem hl]
            simp [List.getD_eq_getElem?_getD, hl]
          obtain ⟨x, hx⟩ : ∃ x, L.luts.getD k LT.zero = x := ⟨_, rfl⟩
          rw [hx] at d0 d1 htk
          have HX := hid hx
          obtain ⟨xs, xt⟩ := x
          simp only at d0 d1
          have hkI : ((k : Nat) : Int) < (nl : Int) := by omega
          obtain ⟨m, hml⟩ : ∃ m, xs.length = m := ⟨_, rfl⟩
          rw [hml] at d0
          have HML := hid hml
          have k0 : wr.cell? ⟨bR, 0, none⟩ = some (.int .i64 g) := (cell_block hm 0).trans rfl
          have k1 : wr.cell? ⟨bR, 1, none⟩ = some (.slice a1 nr c1) := by rw [HNR.out] at hm; exact (cell_block hm 1).trans rfl
          have cc : wr.cell? ⟨bR, 2, none⟩ = some (.slice a2 k c2) := by rw [hlen] at hm; exact (cell_block hm 2).trans rfl
          have k3 : wr.cell? ⟨bR, 3, none⟩ = some (.slice ao no co) := (cell_block hm 3).trans rfl
          by_cases h10 : (10 : Int) < (m : Int)
          · clear HTEN hx hml htk hlen
            go_wp2_with fail
            refine bodyPost_ret (results_two rfl _ _ (w.heap.size + 1) 30 _ (0, 0) _ rfl (set4 HZR.out _ _ _ _) Tryd.underlying30 rfl (by kernel_rfl)) rfl (HP.out _ _ (.inr ⟨fun h => ?_, _, _, _, _, _, _, _, _, _, _, rfl, below4 HBR.out _ _ _ _⟩))
            have h5 := h.2.2.2.2 k hlt
            rw [HX.out] at h5
            have h6 := HML.out
            simp only at h5
            omega
          have d10 : decide ((10 : Int) < (m : Int)) = false := decide_eq_false h10
          have hbmlt := boxLt hm
          have hrow' : wr.ownsRow w2.heap.size 91 2 (.slice a2 k c2) k (tLuts (L.luts.take k) A C) := by rw [hlen] at hT; exact hT
          have HM := hid hm
          have HR := hid hR
          have HT := hid hT
          have HROW' := hid hrow'
          have HBE := hid hbe
          have HLEN := hid hlen
          have HTK := hid htk
          clear h' hx hm hR hT hrow' hbe hlen htk hrl HAT z0 z1 z2 z3 zf k0 k1 k3 hml
          go_upto_region 13 with fail
          refine wpEnds.begin (fun w' => w'.cell? ⟨bR, 2, none⟩ = some (.slice a2 k c2) ∧ w'.cell? ⟨w.heap.size, 2, none⟩ = some (.slice (some ⟨b1, off, none⟩) nl cl) ∧ w'.cell? ⟨b1, off + k * 2, none⟩ = some (.slice (A k) m (C k)) ∧ w'.cell? ⟨b1, off + k * 2 + 1, none⟩ = some (.int .i64 xt)) 10 (by kernel_rfl) ⟨cc, x1, d0, d1⟩ (fun hHeld => ?_)
          refine wpEnds.take 0 11 (v := ?vb0) rfl (by kernel_rfl) (by kernel_rfl) (by kernel_rfl) (by kernel_rfl) (by kernel_rfl) (fun _ _ _ h => h) (by rfl) hHeld (fun w' hSw => ?hyb0) ?restb0
          case hyb0 => ((try dsimp only at hSw); go_simp; try with_reducible rfl)
          case restb0 =>
          (try simp only [Act.put, List.setIfInBounds_toArray, List.set_cons_zero, List.set_cons_succ])
          refine wpEnds.take 1 11 (v := ?vb1) rfl (by kernel_rfl) (by kernel_rfl) (by kernel_rfl) (by kernel_rfl) (by kernel_rfl) (fun _ _ _ h => h) (by rfl) hHeld (fun w' hSw => ?hyb1) ?restb1
          case hyb1 => ((try dsimp only at hSw); go_simp; try with_reducible rfl)
          case restb1 =>
          (try simp only [Act.put, List.setIfInBounds_toArray, List.set_cons_zero, List.set_cons_succ])
          refine wpEnds.take 2 11 (v := ?vb2) rfl (by kernel_rfl) (by kernel_rfl) (by kernel_rfl) (by kernel_rfl) (by kernel_rfl) (fun _ _ _ h => h) (by rfl) hHeld (fun w' hSw => ?hyb2) ?restb2
          case hyb2 => ((try dsimp only at hSw); go_simp; try with_reducible rfl)
          case restb2 =>
          (try simp only [Act.put, List.setIfInBounds_toArray, List.set_cons_zero, List.set_cons_succ])
          refine wpEnds.take 3 11 (v := ?vb3) rfl (by kernel_rfl) (by kernel_rfl) (by kernel_rfl) (by kernel_rfl) (by kernel_rfl) (fun _ _ _ h => h) (by rfl) hHeld (fun w' hSw => ?hyb3) ?restb3
          case hyb3 => ((try dsimp only at hSw); go_simp; try with_reducible rfl)
          case restb3 =>
          (try simp only [Act.put, List.setIfInBounds_toArray, List.set_cons_zero, List.set_cons_succ])
          refine wpEnds.take 4 11 (v := ?vb4) rfl (by kernel_rfl) (by kernel_rfl) (by kernel_rfl) (by kernel_rfl) (by kernel_rfl) (fun _ _ _ h => h) (by rfl) hHeld (fun w' hSw => ?hyb4) ?restb4
          case hyb4 => ((try dsimp only at hSw); go_simp; try with_reducible rfl)
          case restb4 =>
          (try simp only [Act.put, List.setIfInBounds_toArray, List.set_cons_zero, List.set_cons_succ])
          refine wpEnds.take 5 11 (v := ?vb5) rfl (by kernel_rfl) (by kernel_rfl) (by kernel_rfl) (by kernel_rfl) (by kernel_rfl) (fun _ _ _ h => h) (by rfl) hHeld (fun w' hSw => ?hyb5) ?restb5
          case hyb5 => ((try dsimp only at hSw); go_simp; try with_reducible rfl)
          case restb5 =>
          (try simp only [Act.put, List.setIfInBounds_toArray, List.set_cons_zero, List.set_cons_succ])
          refine wpEnds.take 6 11 (v := ?vb6) rfl (by kernel_rfl) (by kernel_rfl) (by kernel_rfl) (by kernel_rfl) (by kernel_rfl) (fun _ _ _ h => h) (by rfl) hHeld (fun w' hSw => ?hyb6) ?restb6
          case hyb6 => ((try dsimp only at hSw); go_simp; try with_reducible rfl)
          case restb6 =>
          (try simp only [Act.put, List.setIfInBounds_toArray, List.set_cons_zero, List.set_cons_succ])
          refine wpEnds.one 7 (by kernel_rfl) rfl (fun K hK => ?_)
          go_simp
          refine hK.out _ _ ⟨((t_alloc _ _).cell hbmlt).trans cc, ((t_alloc _ _).cell hltr).trans x1, ((t_alloc _ _).cell hblr).trans d0, ((t_alloc _ _).cell hblr).trans d1⟩ ?_
          clear hK K
          (try simp only [Act.put, List.setIfInBounds_toArray, List.set_cons_zero, List.set_cons_succ])
          refine wpEnds.one 8 (by kernel_rfl) rfl (fun K hK => ?_)
          refine append_held (by rfl) _ _ 28 (by rfl) w2.heap.size 91 i2 _ 2 32 Tryd.underlying28 hi2 hz20 hz21 hz22 (by rfl) (by decide) (.slice a2 k c2) k (tLuts (L.luts.take k) A C) (by rfl) ((HROW'.out.alloc _).drew) (some ⟨wr.heap.size, 0, none⟩) 1 1 [.slice (A k) m (C k), .int .i64 xt] (by rfl) (by intro h; cases h) (by rfl) (by rintro ad' h j u hj'; cases h; rw [Addr.add_at]; exact (cell_new _ _ _ _).trans (by simpa using hj')) (by simp [Value.oneCell']) (by unfold maxLen; omega) (by omega) (by have := HBE.out.size; simp; omega) ?_
          intro av1 cv1 wb HPO HRN hgb
          have P := t_pushT (y := ⟨ar, cr, some ⟨b1, off, none⟩, cl, ao, co, A, C⟩) (x := ⟨xs, xt⟩) hbR2 HM.out HR.out HT.out HBE.out (t_alloc wr _) (by have h := hgb.out; rw [HLEN.out]; exact h) (by have h := HRN.out; rw [HLEN.out]; rw [HML.out]; exact h)
          rw [HLEN.out] at P
          have cb : wb.cell? ⟨bR, 2, none⟩ = some (.slice a2 k c2) := (cell_block P.1 2).trans rfl
          have hbfr := free_block P.1
          have hblt := boxLt P.1
          have HEND := hid P.2
          have hbwx : Below w2.heap.size w2 wb := ((HBE.out.trans ((t_alloc wr _).mono HBE.out.size)).grown hgb.out (Nat.le_trans HBE.out.size (t_alloc wr (.cells #[.slice (A k) m (C k), .int .i64 xt] 91)).size) (fun k hk => (HROW'.out.lt k hk).1))
          have y1 := (hbwx.cell (p := ⟨w.heap.size, 2, none⟩) hlt2).trans (((HBE.out.cell (p := ⟨w.heap.size, 2, none⟩) hlt2).symm).trans x1)
          have g0 := (hbwx.cell (p := ⟨b1, off + k * 2, none⟩) hb12).trans (((HBE.out.cell (p := ⟨b1, off + k * 2, none⟩) hb12).symm).trans d0)
          have g1 := (hbwx.cell (p := ⟨b1, off + k * 2 + 1, none⟩) hb12).trans (((HBE.out.cell (p := ⟨b1, off + k * 2 + 1, none⟩) hb12).symm).trans d1)
          clear P HPO HRN hgb hbwx
          refine hK.out _ _ ⟨cb, y1, g0, g1⟩ ?_
          clear hK K
          (try simp only [Act.put, List.setIfInBounds_toArray, List.set_cons_zero, List.set_cons_succ])
          refine wpEnds.take 9 11 (v := ?vb9) rfl (by kernel_rfl) (by kernel_rfl) (by kernel_rfl) (by kernel_rfl) (by kernel_rfl) (fun _ _ _ h => h) (by rfl) ⟨cb, y1, g0, g1⟩ (fun w' hSw => ?hyb9) ?restb9
          case hyb9 => ((try dsimp only at hSw); go_simp; try with_reducible rfl)
          case restb9 =>
          (try simp only [Act.put, List.setIfInBounds_toArray, List.set_cons_zero, List.set_cons_succ])
          refine wpEnds.last 10 (by kernel_rfl) (by kernel_rfl) rfl (fun K hK => ?_)
          go_simp
          refine hK.out _ _ ?_
          clear hK K
          (try simp only [Act.put, List.setIfInBounds_toArray, List.set_cons_zero, List.set_cons_succ])
          go_wp2_with fail
          go_roundw
          case rel => exact ⟨k + 1, hlt, by go_num, by rw [HTK.out]; exact HEND.out, fun i hi => by
            by_cases e : i = k
            · subst e; rw [HX.out]; have := HML.out; simp only; omega
            · exact HTEN.out i (by omega)⟩
          case measure => simp [intOf]; omega
        · obtain rfl : nl = k := by omega
          have hall : L.luts.take nl = L.luts := List.take_of_length_le (by rw [HNL.out]; exact Nat.le_refl _)
          have hat' := HAT.out
          rw [hall] at hat'
          obtain ⟨a1, c1, a2, c2, _, hm, hR, hT, _⟩ := hat'
          have HR := hid hR
          have HT := hid hT
          rw [HNR.out, HNL.out] at hm
          have k0 : wr.cell? ⟨bR, 0, none⟩ = some (.int .i64 g) := (cell_block hm 0).trans rfl
          have k1 : wr.cell? ⟨bR, 1, none⟩ = some (.slice a1 nr c1) := (cell_block hm 1).trans rfl
          have k2 : wr.cell? ⟨bR, 2, none⟩ = some (.slice a2 nl c2) := (cell_block hm 2).trans rfl
          have k3 : wr.cell? ⟨bR, 3, none⟩ = some (.slice ao no co) := (cell_block hm 3).trans rfl
          have hbRr := boxLt hm
          clear HAT hm hR hT h' hall
          go_wp2_with fail
          refine bodyPost_ret (results_two rfl _ _ (w.heap.size + 1) 30 _ (0, 0) _ rfl (set4 HZR.out _ _ _ _) Tryd.underlying30 rfl (by kernel_rfl)) rfl (HP.out _ _ (.inl ⟨⟨by omega, by omega, by omega, n4, HTEN.out⟩, a1, c1, a2, c2, rfl, ?_, below4 HBR.out _ _ _ _⟩))
          have B4 := below4 HBR.out (k := 1) (.int .i64 g) (.slice a1 nr c1) (.slice a2 nl c2) (.slice ao no co)
          have R4 := own4 HR.out (b := w.heap.size + 1) (by omega) (.int .i64 g) (.slice a1 nr c1) (.slice a2 nl c2) (.slice ao no co)
          have T4 := own4 HT.out (b := w.heap.size + 1) (by omega) (.int .i64 g) (.slice a1 nr c1) (.slice a2 nl c2) (.slice ao no co)
          exact t_rows (y := ⟨ar, cr, al, cl, ao, co, A, C⟩) R4 T4 H.out (Nat.le_trans hB B4.size) (B4.mono hB)
end
end Go.Proofs.YtlaeflpddehipabDoor
