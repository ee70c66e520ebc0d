/- GateSteps: the document's net in the making; what stands. -/
import Derived.Test.YtlaeflpddehipaaDoorRefStep
import Derived.Test.YtlaeflpddehipaaDoorSameBits
import Derived.Test.YtlaeflpddehipaaDoorPlace
import Derived.Test.YtlaeflpddehipaaDoorBesideMem
import Derived.Test.YtlaeflpddehipaaDoorOwnRow
import Derived.Test.YtlaeflpddehipaaDoorEnds
import Derived.Test.YtlaeflpddehipaaDoorRefRight
set_option linter.unusedVariables false
set_option linter.unusedSimpArgs false
namespace Go.Proofs.YtlaeflpddehipaaDoor
open Go.RowKit Go.Maps

theorem Tryd.infoRefNode : (Tryd.prog.info? 31).map (fun i => (i.zero, i.size, i.bytes)) = some (some (.agg #[.int .i64 0, .int .i64 0, .int .i64 0, .int .i64 0]), 4, 32) := by kernel_rfl
theorem g_alloc_drew (w : World) (o : Obj) : Below w.heap.size w (w.alloc o).drew := ((Below.refl _ _).alloc (Nat.le_refl _) o).drew
/-- The document's net in the making. -/
def GAt (g : Int) (a' : Option Addr) (no c' : Nat) (w2 : World) (bR : Nat) (L : List GN) (wx : World) : Prop :=
  ∃ ad cn, w2.heap.size ≤ bR ∧ wx.heap[bR]? = some (.cells #[.int .i64 g, .slice ad L.length cn, .slice a' no c'] 29 (0, 0)) ∧
    wx.ownsRow w2.heap.size 31 4 (.slice ad L.length cn) L.length (nodeVals L) ∧ Below w2.heap.size w2 wx
theorem g_push {g : Int} {a' ad av : Option Addr} {no c' cn cv bR : Nat} {w2 wr W1 wb : World} {L : List GN} {x : GN} (hbm : w2.heap.size ≤ bR)
    (hm : wr.heap[bR]? = some (.cells #[.int .i64 g, .slice ad L.length cn, .slice a' no c'] 29 (0, 0)))
    (hN : wr.ownsRow w2.heap.size 31 4 (.slice ad L.length cn) L.length (nodeVals L)) (hbe : Below w2.heap.size w2 wr)
    (hb : Below wr.heap.size wr W1) (hg : W1.grownBy wb (Value.slice ad L.length cn).ownBlock)
    (hown : wb.ownsRow w2.heap.size 31 4 (.slice av (L.length + 1) cv) (L.length + 1) (nodeVals L ++ x.cells.toList)) :
    wb.heap[bR]? = some (.cells #[.int .i64 g, .slice ad L.length cn, .slice a' no c'] 29 (0, 0)) ∧ GAt g a' no c' w2 bR (L ++ [x]) (wb.setCell ⟨bR, 1, none⟩ (.slice av (L.length + 1) cv)) := by
  have hm1 := (hb.block bR (boxLt hm)).trans hm
  have hN1 := rowOld hN hb
  have hmb := boxCross hg hN1 hm1 (by decide)
  have hbw : Below w2.heap.size w2 wb := (hbe.trans (hb.mono hbe.size)).grown hg (Nat.le_trans hbe.size hb.size) (fun k hk => (hN1.lt k hk).1)
  refine ⟨hmb, av, cv, hbm, ?_, ?_, ?_⟩
  · rw [set_box hmb 1]; simp
  · rw [← nodeVals_app1] at hown
    have e : (L ++ [x]).length = L.length + 1 := by simp
    rw [e]
    exact own_not hown hmb (by decide) _ _
  · exact hbw.setCell hbm _
theorem g_rows {g : Int} {a a' : Option Addr} {c no c' bR B : Nat} {w w2 wx : World} {N : Net} (h : GAt g a' no c' w2 bR N.nodes wx) (hr : NetRows B w a c a' c' N) (hB : B ≤ w2.heap.size) (hb : Below B w wx) (hno : N.outs.length = no) :
    ∃ ad cn, wx.heap[bR]? = some (.cells #[.int .i64 g, .slice ad N.nodes.length cn, .slice a' no c'] 29 (0, 0)) ∧ NetRows wx.heap.size wx ad cn a' c' N := by
  obtain ⟨ad, cn, hbm, hm, hN, hbe⟩ := h
  obtain ⟨a1, c1, e1, _, _, hc1⟩ := Cells.of_owns hN
  cases e1
  refine ⟨ad, cn, hm, ⟨hc1.congr fun j hj => ?_, (hr.ro.stay hb).mono (Nat.le_trans hB hbe.size), hr.ln, hr.lo⟩⟩
  rw [List.getD_eq_getElem?_getD, nodeVals_get _ _ hj]
  rfl
theorem keep_box {w3 w' : World} {b : Nat} {x0 x1 x2 : Value} (hlt : b < w3.heap.size) (c0 : w3.cell? ⟨b, 0, none⟩ = some x0) (c1 : w3.cell? ⟨b, 1, none⟩ = some x1) (c2 : w3.cell? ⟨b, 2, none⟩ = some x2) (h : Below w3.heap.size w3 w') :
    w'.cell? ⟨b, 0, none⟩ = some x0 ∧ w'.cell? ⟨b, 1, none⟩ = some x1 ∧ w'.cell? ⟨b, 2, none⟩ = some x2 ∧ Below w3.heap.size w3 w' :=
  ⟨(h.cell (p := ⟨b, 0, none⟩) hlt).trans c0, (h.cell (p := ⟨b, 1, none⟩) hlt).trans c1, (h.cell (p := ⟨b, 2, none⟩) hlt).trans c2, h⟩
theorem keep_box1 {w3 w' : World} {b bg og : Nat} {x0 x1 x2 y : Value} (hlt : b < w3.heap.size) (hlg : bg < w3.heap.size) (c0 : w3.cell? ⟨b, 0, none⟩ = some x0) (c1 : w3.cell? ⟨b, 1, none⟩ = some x1) (c2 : w3.cell? ⟨b, 2, none⟩ = some x2) (d : w3.cell? ⟨bg, og, none⟩ = some y) (h : Below w3.heap.size w3 w') :
    w'.cell? ⟨b, 0, none⟩ = some x0 ∧ w'.cell? ⟨b, 1, none⟩ = some x1 ∧ w'.cell? ⟨b, 2, none⟩ = some x2 ∧ w'.cell? ⟨bg, og, none⟩ = some y ∧ Below w3.heap.size w3 w' :=
  ⟨(h.cell (p := ⟨b, 0, none⟩) hlt).trans c0, (h.cell (p := ⟨b, 1, none⟩) hlt).trans c1, (h.cell (p := ⟨b, 2, none⟩) hlt).trans c2, (h.cell (p := ⟨bg, og, none⟩) hlg).trans d, h⟩
section
variable {B b : Nat} {a : Option Addr} {c : Nat} {a' : Option Addr} {c' : Nat} {N : Net} {w9 W : World}
theorem gGates (h : NetIn B w9 b a c a' c' N) (hB : B ≤ w9.heap.size) (hb : Below w9.heap.size w9 W) :
    Calls Tryd.prog 8 #[.pointer (some ⟨b, 0, none⟩)] W fun e w' => e = .returned (.int .i64 (N.gates : Nat)) ∧ Below w9.heap.size w9 w' := by
  refine (Gates_any B b a c a' c' N W (h.stay (hb.mono hB)) (Nat.le_trans hB hb.size)).mono ?_
  rintro e w' ⟨rfl, hb'⟩
  exact ⟨rfl, hb.trans (hb'.mono hb.size)⟩
theorem gRight {r : Bool} (h : NetIn B w9 b a c a' c' N) (hr : N.right = r) (hB : B ≤ w9.heap.size) (hb : Below w9.heap.size w9 W) :
    Calls Tryd.prog 6 #[.pointer (some ⟨b, 0, none⟩)] W fun e w' => e = .returned (.bool r) ∧ Below w9.heap.size w9 w' := by
  refine (Right_any B b a c a' c' N W (h.stay (hb.mono hB)) (Nat.le_trans hB hb.size)).mono ?_
  rintro e w' ⟨rfl, hb'⟩
  rw [hr]
  exact ⟨rfl, hb.trans (hb'.mono hb.size)⟩
theorem NetRows.stay (h : NetRows B w9 a c a' c' N) (hb : Below B w9 W) : NetRows B W a c a' c' N := ⟨h.rn.stay hb, h.ro.stay hb, h.ln, h.lo⟩
theorem rGates {n no : Nat} {g : Int} (h : NetRows B w9 a c a' c' N) (hg : N.given = g) (hn : N.nodes.length = n) (hno : N.outs.length = no) (hB : B ≤ w9.heap.size) (hb : Below w9.heap.size w9 W) :
    Calls Tryd.prog 9 #[.agg #[.int .i64 g, .slice a n c, .slice a' no c']] W fun e w' => e = .returned (.int .i64 (N.gates : Nat)) ∧ Below w9.heap.size w9 w' := by
  subst hn hno hg
  refine (RefGates_any B a c a' c' N W (h.stay (hb.mono hB)) (Nat.le_trans hB hb.size)).mono ?_
  rintro e w' ⟨rfl, hb'⟩
  exact ⟨rfl, hb.trans (hb'.mono hb.size)⟩
theorem rRight {n no : Nat} {g : Int} {r : Bool} (h : NetRows B w9 a c a' c' N) (hr : N.right = r) (hg : N.given = g) (hn : N.nodes.length = n) (hno : N.outs.length = no) (hB : B ≤ w9.heap.size) (hb : Below w9.heap.size w9 W) :
    Calls Tryd.prog 7 #[.agg #[.int .i64 g, .slice a n c, .slice a' no c']] W fun e w' => e = .returned (.bool r) ∧ Below w9.heap.size w9 w' := by
  subst hn hno hg
  refine (RefRight_any B a c a' c' N W (h.stay (hb.mono hB)) (Nat.le_trans hB hb.size)).mono ?_
  rintro e w' ⟨rfl, hb'⟩
  rw [hr]
  exact ⟨rfl, hb.trans (hb'.mono hb.size)⟩
theorem rFirst {n no : Nat} {g : Int} (h : NetRows B W a c a' c' N) (hg : N.given = g) (hn : N.nodes.length = n) (hno : N.outs.length = no) (hB : B ≤ W.heap.size) (hl : N.nodes.length ≤ 20000) :
    Calls Tryd.prog 11 #[.agg #[.int .i64 g, .slice a n c, .slice a' no c']] W fun e w' =>
      ∃ bs, e = .returned (.map (some bs)) ∧ W.heap.size ≤ bs ∧ Regs w' bs N.nodes (fun i => N.first.getD i false) N.nodes.length ∧ Below W.heap.size W w' := by
  rw [← hn, ← hno, ← hg]
  exact First_any B a c a' c' N W h hB hl
theorem rStep {n no m bs : Nat} {g : Int} {ag : Option Addr} {cg : Nat} {regs given : List Bool} (h : NetRows B w9 a c a' c' N) (hg : N.given = g) (hn : N.nodes.length = n) (hno : N.outs.length = no) (hB : B ≤ w9.heap.size) (hr : N.right = true)
    (hrl : regs.length = N.nodes.length) (hrg : Regs w9 bs N.nodes (fun i => regs.getD i false) m) (hm : m ≤ 20000) (hbs : bs < w9.heap.size)
    (hgv : Cells w9.heap.size w9 ag given.length (fun i => .bool (given.getD i false))) (hgl : given.length ≤ 20000) (hb : Below w9.heap.size w9 W) :
    Calls Tryd.prog 12 #[.agg #[.int .i64 g, .slice a n c, .slice a' no c'], .map (some bs), .slice ag given.length cg] W fun e w' =>
      ∃ v bs', e = .returned (.tuple #[v, .map (some bs')]) ∧ w'.ownsRow w9.heap.size 4 1 v no ((N.outVals regs given).map .bool) ∧ w9.heap.size ≤ bs' ∧ Regs w' bs' N.nodes (fun i => (N.regs' regs given).getD i false) m ∧ Below w9.heap.size w9 w' := by
  subst hn hno hg
  refine (RefStep_any B a c a' c' N W bs m regs ag cg given (h.stay (hb.mono hB)) (Nat.le_trans hB hb.size) hr hrl (hrg.stay hb hbs) hm ((hgv.stay hb).mono hb.size) hgl).mono ?_
  rintro e w' ⟨v, bs', rfl, hown, hbs', hreg, hb'⟩
  exact ⟨v, bs', rfl, ownsRow_base hown hb.size, Nat.le_trans hb.size hbs', hreg, hb.trans (hb'.mono hb.size)⟩
end
theorem Regs.grown {w w' : World} {bs r : Nat} {l : List GN} {f : Nat → Bool} {n : Nat} (h : Regs w bs l f n) (hg : w.grownBy w' (some r)) (hC : bs ≠ r) : Regs w' bs l f n := by
  obtain ⟨D, ⟨es, clock, hb, F, hs, hD⟩, h2⟩ := h
  exact ⟨D, ⟨es, clock, (hg.block bs (by rcases Nat.lt_or_ge bs w.heap.size with q | q; exact q; rw [Array.getElem?_eq_none (by omega)] at hb; cases hb) (by simp; exact hC)).trans hb, F, hs, hD⟩, h2⟩
theorem sameBits_same {w : World} {a a' : Option Addr} {c c' n : Nat} {l : List Bool} (hn : l.length = n) (hm : n ≤ maxLen) (hx : Cells w.heap.size w a n (fun i => .bool (l.getD i false))) (hy : Cells w.heap.size w a' n (fun i => .bool (l.getD i false))) :
    Calls Tryd.prog 13 #[.slice a n c, .slice a' n c'] w (Yes w) := by
  refine (sameBits_any _ a a' n c n c' l l w hn.symm hn.symm hm hx hy).mono ?_
  intro e w' h
  have h2 := h.below
  rw [decide_eq_true rfl] at h2
  exact h2
/-- The round's registers and nets. -/
def GRel (C : Nat) (w4 : World) (b : Nat) (a : Option Addr) (c : Nat) (a' : Option Addr) (c' : Nat) (N : Net) (s r ng : Nat) (v9 v10 : Value) (wr : World) : Prop :=
  ∃ (i : Nat) (regs : List Bool) (bs : Nat), i ≤ ng ∧ v10 = .int .i64 i ∧ v9 = .map (some bs) ∧ SimOk C wr b a c a' c' N s r regs ∧ Regs wr bs N.nodes (fun i => regs.getD i false) N.nodes.length ∧ bs ≠ r ∧ bs < wr.heap.size ∧ Below w4.heap.size w4 wr
end Go.Proofs.YtlaeflpddehipaaDoor
