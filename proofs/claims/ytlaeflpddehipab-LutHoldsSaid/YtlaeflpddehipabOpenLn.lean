/- From what an argument reads as to what lies in memory: nets of tables. -/
import Derived.Test.YtlaeflpddehipabOpen
import Derived.Test.YtlaeflpddehipabLn
import Derived.Deep.Strs
set_option linter.unusedVariables false
namespace Go.Proofs.Ytlaeflpddehipab
open Go.RowKit Go.ChangeShapes Go.WideShapes Go.ChangeAt

section
variable {H : Type} {enc : TypeId × Value → H} {w : World} {held : Bool}

theorem Try.cells_int : Try.prog.cellsOf 3 = 1 := by kernel_rfl
theorem Try.cells_bool : Try.prog.cellsOf 4 = 1 := by kernel_rfl
theorem Try.cells_ints : Try.prog.cellsOf 24 = 1 := by kernel_rfl
theorem Try.cells_regs : Try.prog.cellsOf 22 = 1 := by kernel_rfl
theorem Try.cells_luts : Try.prog.cellsOf 23 = 1 := by kernel_rfl
theorem Try.cells_reg : Try.prog.cellsOf 58 = 2 := by kernel_rfl
theorem Try.cells_lut : Try.prog.cellsOf 44 = 2 := by kernel_rfl
theorem Try.cells_ln : Try.prog.cellsOf 26 = 4 := by kernel_rfl

theorem Cells.congr' {B : Nat} {w : World} {a : Option Addr} {m : Nat} {f g : Nat → Value} (h : Cells B w a m f) (e : ∀ j, j < m → f j = g j) : Cells B w a m g := by
  rcases h with h | ⟨b, off, rfl, hB, hc⟩
  · exact .inl h
  · exact .inr ⟨b, off, rfl, hB, fun j hj => (hc j hj).trans (by rw [e j hj])⟩

set_option maxRecDepth 100000 in
theorem open_reg {m : Nat} {cs : List Value} {y : DataW H × List MemPlace} (h : DataW.trod enc Try.prog w 0 (fun _ => true) held m 58 cs = some y) : ∃ r : LR, cs = [.bool r.init, .int .i64 r.next] ∧ I64 r.next := by
  obtain ⟨xs, n, _, _, hl, hlen, hf⟩ := DataW.trod_struct Try.underlying58 h
  have hl' : cs.length = 2 := hl.trans Try.cells_reg
  have hx : xs.length = 2 := hlen
  match cs, hl' with
  | [v0, v1], _ =>
    match xs, hx with
    | [x0, x1], _ =>
      have f0 : DataW.trod enc Try.prog w 0 (fun _ => true) held n 4 ([v0, v1].take (Try.prog.cellsOf 4)) = some x0 := hf 0 _ rfl
      have f1 : DataW.trod enc Try.prog w 0 (fun _ => true) held n 3 ([v1].take (Try.prog.cellsOf 3)) = some x1 := hf 1 _ rfl
      rw [Try.cells_bool] at f0
      rw [Try.cells_int] at f1
      obtain ⟨z0, rfl⟩ := cell_bool Try.underlying4 f0
      obtain ⟨z1, rfl, w1⟩ := cell_int Try.underlying3 f1
      exact ⟨⟨z0, z1⟩, rfl, w1⟩

set_option maxRecDepth 100000 in
theorem open_lut {m : Nat} {cs : List Value} {y : DataW H × List MemPlace} (h : DataW.trod enc Try.prog w 0 (fun _ => true) held m 44 cs = some y) :
    ∃ (z : LT × Option Addr × Nat), cs = [.slice z.2.1 z.1.ins.length z.2.2, .int .i64 z.1.table] ∧ (z.2.1 = none → z.1.ins.length = 0 ∧ z.2.2 = 0) ∧ z.1.ins.length ≤ maxLen ∧ Cells w.heap.size w z.2.1 z.1.ins.length (fun j => .int .i64 (z.1.ins.getD j 0)) ∧ I64 z.1.table ∧ (∀ k ∈ z.1.ins, I64 k) := by
  obtain ⟨xs, n, _, _, hl, hlen, hf⟩ := DataW.trod_struct Try.underlying44 h
  have hl' : cs.length = 2 := hl.trans Try.cells_lut
  have hx : xs.length = 2 := hlen
  match cs, hl' with
  | [v0, v1], _ =>
    match xs, hx with
    | [x0, x1], _ =>
      have f0 : DataW.trod enc Try.prog w 0 (fun _ => true) held n 24 ([v0, v1].take (Try.prog.cellsOf 24)) = some x0 := hf 0 _ rfl
      have f1 : DataW.trod enc Try.prog w 0 (fun _ => true) held n 3 ([v1].take (Try.prog.cellsOf 3)) = some x1 := hf 1 _ rfl
      rw [Try.cells_ints] at f0
      rw [Try.cells_int] at f1
      obtain ⟨a, c, l, e1, ha, hlc, hcm, hfit, hro⟩ := open_introw Try.underlying24 Try.underlying3 Try.cells_int f0
      obtain ⟨z1, rfl, w1⟩ := cell_int Try.underlying3 f1
      have e1' : v0 = .slice a l.length c := by simpa using e1
      subst e1'
      exact ⟨(⟨l, z1⟩, a, c), rfl, ha, Nat.le_trans hlc hcm, hro, w1, hfit⟩

set_option maxRecDepth 100000 in
theorem open_ln {fuel : Nat} {cs : List Value} {x : DataW H × List MemPlace} (h : DataW.trod enc Try.prog w 0 (fun _ => true) held fuel 26 cs = some x) :
    ∃ (y : Lay) (L : LN), cs = [.int .i64 L.given, .slice y.ar L.regs.length y.cr, .slice y.al L.luts.length y.cl, .slice y.ao L.outs.length y.co] ∧ LnRows w.heap.size w y L ∧ I64 L.given ∧ (∀ r ∈ L.regs, I64 r.next) ∧ (∀ t ∈ L.luts, I64 t.table ∧ ∀ k ∈ t.ins, I64 k) ∧ (∀ k ∈ L.outs, I64 k) ∧
      (y.ar = none → L.regs.length = 0 ∧ y.cr = 0) ∧ (y.al = none → L.luts.length = 0 ∧ y.cl = 0) ∧ (y.ao = none → L.outs.length = 0 ∧ y.co = 0) := by
  obtain ⟨xs, n, _, _, hl, hlen, hf⟩ := DataW.trod_struct Try.underlying26 h
  have hl' : cs.length = 4 := hl.trans Try.cells_ln
  have hx : xs.length = 4 := hlen
  match cs, hl' with
  | [v0, v1, v2, v3], _ =>
    match xs, hx with
    | [x0, x1, x2, x3], _ =>
      have f0 : DataW.trod enc Try.prog w 0 (fun _ => true) held n 3 ([v0, v1, v2, v3].take (Try.prog.cellsOf 3)) = some x0 := hf 0 _ rfl
      have f1 : DataW.trod enc Try.prog w 0 (fun _ => true) held n 22 ([v1, v2, v3].take (Try.prog.cellsOf 22)) = some x1 := hf 1 _ rfl
      have f2 : DataW.trod enc Try.prog w 0 (fun _ => true) held n 23 ([v2, v3].take (Try.prog.cellsOf 23)) = some x2 := hf 2 _ rfl
      have f3 : DataW.trod enc Try.prog w 0 (fun _ => true) held n 24 ([v3].take (Try.prog.cellsOf 24)) = some x3 := hf 3 _ rfl
      rw [Try.cells_int] at f0
      rw [Try.cells_regs] at f1
      rw [Try.cells_luts] at f2
      rw [Try.cells_ints] at f3
      obtain ⟨g, rfl, wg⟩ := cell_int Try.underlying3 f0
      obtain ⟨ar, nr, cr, VR, e1, har, hnr, hcr, hVR, hcellsR⟩ := open_row Try.underlying22 Try.cells_reg (by omega) f1
      obtain ⟨al, nl, cl, VL, e2, hal, hnl, hcl, hVL, hcellsL⟩ := open_row Try.underlying23 Try.cells_lut (by omega) f2
      obtain ⟨ao, co, lo, e3, hao, hlo, hco, hfo, hro⟩ := open_introw Try.underlying24 Try.underlying3 Try.cells_int f3
      have e1' : v1 = .slice ar nr cr := by simpa using e1
      have e2' : v2 = .slice al nl cl := by simpa using e2
      have e3' : v3 = .slice ao lo.length co := by simpa using e3
      subst e1' e2' e3'
      have hR : ∀ i, i < nr → ∃ r : LR, VR i = [.bool r.init, .int .i64 r.next] ∧ I64 r.next := by
        intro i hi
        obtain ⟨_, m, y, hy⟩ := hVR i hi
        exact open_reg hy
      have hL : ∀ i, i < nl → ∃ (z : LT × Option Addr × Nat), VL i = [.slice z.2.1 z.1.ins.length z.2.2, .int .i64 z.1.table] ∧ (z.2.1 = none → z.1.ins.length = 0 ∧ z.2.2 = 0) ∧ z.1.ins.length ≤ maxLen ∧ Cells w.heap.size w z.2.1 z.1.ins.length (fun j => .int .i64 (z.1.ins.getD j 0)) ∧ I64 z.1.table ∧ (∀ k ∈ z.1.ins, I64 k) := by
        intro i hi
        obtain ⟨_, m, y, hy⟩ := hVL i hi
        exact open_lut hy
      obtain ⟨fr, hfr⟩ := Deep.choose_lt (α := LR) hR
      obtain ⟨fl, hfl⟩ := Deep.choose_lt (α := LT × Option Addr × Nat) hL
      have gr : ∀ i, i < nr → ((List.range nr).map fr).getD i LR.zero = fr i := by intro i hi; simp [List.getD_eq_getElem?_getD, hi]
      have gl : ∀ i, i < nl → ((List.range nl).map fun i => (fl i).1).getD i LT.zero = (fl i).1 := by intro i hi; simp [List.getD_eq_getElem?_getD, hi]
      refine ⟨⟨ar, cr, al, cl, ao, co, fun i => (fl i).2.1, fun i => (fl i).2.2⟩, ⟨g, (List.range nr).map fr, (List.range nl).map fun i => (fl i).1, lo⟩, by simp, ⟨?_, ?_, ?_, hro, by simpa using Nat.le_trans hnr hcr, by simpa using Nat.le_trans hnl hcl, ?_, Nat.le_trans hlo hco⟩, wg, ?_, ?_, hfo, by simpa using har, by simpa using hal, hao⟩
      · have hlen : ((List.range nr).map fr).length = nr := by simp
        simp only [hlen]
        refine hcellsR.congr' fun j hj => ?_
        have hj2 : j / 2 < nr := by omega
        rw [(hfr _ hj2).1]
        unfold regCell
        rw [gr _ hj2]
        rcases Nat.mod_two_eq_zero_or_one j with h | h <;> simp [h]
      · have hlen : ((List.range nl).map fun i => (fl i).1).length = nl := by simp
        simp only [hlen]
        refine hcellsL.congr' fun j hj => ?_
        have hj2 : j / 2 < nl := by omega
        rw [(hfl _ hj2).1]
        unfold lutCell
        rw [gl _ hj2]
        rcases Nat.mod_two_eq_zero_or_one j with h | h <;> simp [h]
      · intro i hi
        have hi' : i < nl := by simpa using hi
        simp only [gl i hi']
        exact (hfl i hi').2.2.2.1
      · intro i
        by_cases hi : i < nl
        · simp only [gl i hi]; exact (hfl i hi).2.2.1
        · have e : ((List.range nl).map fun i => (fl i).1).getD i LT.zero = LT.zero := by
            rw [List.getD_eq_getElem?_getD, List.getElem?_eq_none (by simp; omega)]
            rfl
          simp only [e]
          exact Nat.zero_le _
      · intro r hr
        obtain ⟨i, hi, rfl⟩ := List.mem_map.1 hr
        exact (hfr i (by simpa using hi)).2
      · intro t ht
        obtain ⟨i, hi, rfl⟩ := List.mem_map.1 ht
        exact (hfl i (by simpa using hi)).2.2.2.2
end
end Go.Proofs.Ytlaeflpddehipab
