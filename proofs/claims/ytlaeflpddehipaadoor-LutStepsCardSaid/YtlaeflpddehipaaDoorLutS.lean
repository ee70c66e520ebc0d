/- LutSteps, walked (written by gen_lsteps.py). -/
import Derived.Test.YtlaeflpddehipaaDoorLsStep
import Derived.Test.YtlaeflpddehipaaDoorLnDepth
import Derived.Test.YtlaeflpddehipaaDoorRefDepth
import Derived.Test.YtlaeflpddehipaaDoorTables
import Derived.Test.YtlaeflpddehipaaDoorPlaceNil
import Derived.Test.YtlaeflpddehipaaDoorSameBits
set_option linter.unusedVariables false
set_option linter.unusedSimpArgs false
set_option linter.unusedSectionVars false
namespace Go.Proofs.YtlaeflpddehipaaDoor
open Go.RowKit
attribute [local go_sem ↓] Go.wp_at_zero Go.wp_at_succ

theorem l_same {w : World} {a a' : Option Addr} {c c' n : Nat} {l : List Bool} (hn : l.length = n) (hm : n ≤ maxLen) (hx : Cells w.heap.size w a n (fun i => .bool (l.getD i false))) (hy : Cells w.heap.size w a' n (fun i => .bool (l.getD i false))) :
    Calls Tryd.prog 13 #[.slice a n c, .slice a' n c'] w (Yes w) := by
  refine (sameBits_any _ a a' n c n c' l l w hn.symm hn.symm hm hx hy).mono ?_
  intro e w' h
  have h2 := h.below
  rw [decide_eq_true rfl] at h2
  exact h2
section
variable {B b : Nat} {y : Lay} {L : LN} {w9 W : World}
theorem lRight {r : Bool} (h : LnIn B w9 b y L) (hr : L.right = r) (hB : B ≤ w9.heap.size) (hb : Below w9.heap.size w9 W) :
    Calls Tryd.prog 17 #[.pointer (some ⟨b, 0, none⟩)] W fun e w' => e = .returned (.bool r) ∧ Below w9.heap.size w9 w' := by
  refine (LnRight_any B b y L W (h.stay (hb.mono hB)) (Nat.le_trans hB hb.size)).mono ?_
  rintro e w' ⟨rfl, hb'⟩
  rw [hr]
  exact ⟨rfl, hb.trans (hb'.mono hb.size)⟩
theorem tRight {r : Bool} {g : Int} {a1 a2 a3 : Option Addr} {c1 c2 c3 n1 n2 n3 : Nat} {A : Nat → Option Addr} {C : Nat → Nat} (h : LnRows B w9 ⟨a1, c1, a2, c2, a3, c3, A, C⟩ L) (hr : L.right = r) (hg : L.given = g) (h1 : L.regs.length = n1) (h2 : L.luts.length = n2) (h3 : L.outs.length = n3) (hB : B ≤ w9.heap.size) (hb : Below w9.heap.size w9 W) :
    Calls Tryd.prog 18 #[.agg #[.int .i64 g, .slice a1 n1 c1, .slice a2 n2 c2, .slice a3 n3 c3]] W fun e w' => e = .returned (.bool r) ∧ Below w9.heap.size w9 w' := by
  subst hg h1 h2 h3
  refine (RefLnRight_any B ⟨a1, c1, a2, c2, a3, c3, A, C⟩ L W (h.stay (hb.mono hB)) (Nat.le_trans hB hb.size)).mono ?_
  rintro e w' ⟨rfl, hb'⟩
  rw [hr]
  exact ⟨rfl, hb.trans (hb'.mono hb.size)⟩
theorem lDepth (h : LnIn B w9 b y L) (hr : L.right = true) (hB : B ≤ w9.heap.size) (hb : Below w9.heap.size w9 W) :
    Calls Tryd.prog 19 #[.pointer (some ⟨b, 0, none⟩)] W fun e w' => e = .returned (.int .i64 (L.depth : Nat)) ∧ Below w9.heap.size w9 w' := by
  refine (LnDepth_any B b y L W (h.stay (hb.mono hB)) (Nat.le_trans hB hb.size) hr).mono ?_
  rintro e w' ⟨rfl, hb'⟩
  exact ⟨rfl, hb.trans (hb'.mono hb.size)⟩
theorem tDepth {g : Int} {a1 a2 a3 : Option Addr} {c1 c2 c3 n1 n2 n3 : Nat} {A : Nat → Option Addr} {C : Nat → Nat} (h : LnRows B w9 ⟨a1, c1, a2, c2, a3, c3, A, C⟩ L) (hr : L.right = true) (hg : L.given = g) (h1 : L.regs.length = n1) (h2 : L.luts.length = n2) (h3 : L.outs.length = n3) (hB : B ≤ w9.heap.size) (hb : Below w9.heap.size w9 W) :
    Calls Tryd.prog 20 #[.agg #[.int .i64 g, .slice a1 n1 c1, .slice a2 n2 c2, .slice a3 n3 c3]] W fun e w' => e = .returned (.int .i64 (L.depth : Nat)) ∧ Below w9.heap.size w9 w' := by
  subst hg h1 h2 h3
  refine (RefDepth_any B ⟨a1, c1, a2, c2, a3, c3, A, C⟩ L W (h.stay (hb.mono hB)) (Nat.le_trans hB hb.size) hr).mono ?_
  rintro e w' ⟨rfl, hb'⟩
  exact ⟨rfl, hb.trans (hb'.mono hb.size)⟩
theorem tStep {g : Int} {a1 a2 a3 rg ag : Option Addr} {c1 c2 c3 n1 n2 n3 cgr cg : Nat} {A : Nat → Option Addr} {C : Nat → Nat} {regs given : List Bool} (h : LnRows B w9 ⟨a1, c1, a2, c2, a3, c3, A, C⟩ L) (hr : L.right = true) (hg : L.given = g) (h1 : L.regs.length = n1) (h2 : L.luts.length = n2) (h3 : L.outs.length = n3) (hB : B ≤ w9.heap.size)
    (hrl : regs.length = n1) (hrg : Cells w9.heap.size w9 rg n1 (fun j => .bool (regs.getD j false))) (hrn : rg = none → n1 = 0 ∧ cgr = 0) (hgv : Cells w9.heap.size w9 ag given.length (fun j => .bool (given.getD j false))) (hgl : given.length ≤ 1000000) (hb : Below w9.heap.size w9 W) :
    Calls Tryd.prog 22 #[.agg #[.int .i64 g, .slice a1 n1 c1, .slice a2 n2 c2, .slice a3 n3 c3], .slice rg n1 cgr, .slice ag given.length cg] W fun e w' =>
      ∃ v u, e = .returned (.tuple #[v, u]) ∧ w'.ownsRow w9.heap.size 4 1 v n3 ((L.outV regs given).map .bool) ∧ w'.ownsRow w9.heap.size 4 1 u n1 ((L.next regs given).map .bool) ∧ Below w9.heap.size w9 w' := by
  subst hg h1 h2 h3
  rw [← hrl] at hrg hrn
  have key := RefLnStep_any B ⟨a1, c1, a2, c2, a3, c3, A, C⟩ L W regs given rg cgr ag cg (h.stay (hb.mono hB)) (Nat.le_trans hB hb.size) hr hrl ((hrg.stay hb).mono hb.size) hrn ((hgv.stay hb).mono hb.size) hgl
  rw [hrl] at key
  refine key.mono ?_
  rintro e w' ⟨v, u, rfl, hv, hu, hb'⟩
  exact ⟨v, u, rfl, lsBase0 hv hb.size, lsBase0 hu hb.size, hb.trans (hb'.mono hb.size)⟩
end
theorem keep4 {w3 w' : World} {b : Nat} {x0 x1 x2 x3 : Value} (hlt : b < w3.heap.size) (c0 : w3.cell? ⟨b, 0, none⟩ = some x0) (c1 : w3.cell? ⟨b, 1, none⟩ = some x1) (c2 : w3.cell? ⟨b, 2, none⟩ = some x2) (c3 : w3.cell? ⟨b, 3, none⟩ = some x3) (h : Below w3.heap.size w3 w') :
    w'.cell? ⟨b, 0, none⟩ = some x0 ∧ w'.cell? ⟨b, 1, none⟩ = some x1 ∧ w'.cell? ⟨b, 2, none⟩ = some x2 ∧ w'.cell? ⟨b, 3, none⟩ = some x3 ∧ Below w3.heap.size w3 w' :=
  ⟨(h.cell (p := ⟨b, 0, none⟩) hlt).trans c0, (h.cell (p := ⟨b, 1, none⟩) hlt).trans c1, (h.cell (p := ⟨b, 2, none⟩) hlt).trans c2, (h.cell (p := ⟨b, 3, none⟩) hlt).trans c3, h⟩
theorem keep41 {w3 w' : World} {b bg og : Nat} {x0 x1 x2 x3 y : Value} (hlt : b < w3.heap.size) (hlg : bg < w3.heap.size) (c0 : w3.cell? ⟨b, 0, none⟩ = some x0) (c1 : w3.cell? ⟨b, 1, none⟩ = some x1) (c2 : w3.cell? ⟨b, 2, none⟩ = some x2) (c3 : w3.cell? ⟨b, 3, none⟩ = some x3) (d : w3.cell? ⟨bg, og, none⟩ = some y) (h : Below w3.heap.size w3 w') :
    w'.cell? ⟨b, 0, none⟩ = some x0 ∧ w'.cell? ⟨b, 1, none⟩ = some x1 ∧ w'.cell? ⟨b, 2, none⟩ = some x2 ∧ w'.cell? ⟨b, 3, none⟩ = some x3 ∧ w'.cell? ⟨bg, og, none⟩ = some y ∧ Below w3.heap.size w3 w' :=
  ⟨(h.cell (p := ⟨b, 0, none⟩) hlt).trans c0, (h.cell (p := ⟨b, 1, none⟩) hlt).trans c1, (h.cell (p := ⟨b, 2, none⟩) hlt).trans c2, (h.cell (p := ⟨b, 3, none⟩) hlt).trans c3, (h.cell (p := ⟨bg, og, none⟩) hlg).trans d, h⟩
/-- The round: both nets' registers. -/
def LRel (C : Nat) (w4 : World) (s b nr ng : Nat) (v11 v13 : Value) (wr : World) : Prop :=
  ∃ (i : Nat) (regs : List Bool), i ≤ ng ∧ v13 = .int .i64 i ∧ regs.length = nr ∧ LSim C wr s b regs ∧ wr.ownsRow C 4 1 v11 nr (regs.map .bool) ∧ Below C w4 wr
section
variable (B : Nat) (y : Lay) (L : LN) (ag : Option Addr) (cg : Nat) (gs : List (List Bool)) (A' : Nat → Option Addr) (C' : Nat → Nat) (ap : Option Addr) (cp : Nat) (put : List Bool) (w : World)
set_option maxRecDepth 100000 in
set_option maxHeartbeats 3200000 in
theorem ls_long (h : LnRows B w y L) (hB : B ≤ w.heap.size) (hl : ¬ L.fine ∨ 30 < gs.length ∨ 60 < put.length) : Calls Tryd.prog 4 #[.agg #[.int .i64 L.given, .slice y.ar L.regs.length y.cr, .slice y.al L.luts.length y.cl, .slice y.ao L.outs.length y.co], .slice ag gs.length cg, .slice ap put.length cp] w (Yes w) := by
  generalize gs.length = ng at *
  generalize put.length = np at *
  have HL := hid hl
  clear hl
  have HI1 := hid (show LnIn (w.heap.size + 1) (w.alloc (.cells #[.int .i64 L.given, .slice y.ar L.regs.length y.cr, .slice y.al L.luts.length y.cl, .slice y.ao L.outs.length y.co] 54)) w.heap.size y L from ⟨(cell_new _ _ _ _).trans rfl, (cell_new _ _ _ _).trans rfl, (cell_new _ _ _ _).trans rfl, (cell_new _ _ _ _).trans rfl, (h.stay (((Below.refl _ _).alloc (Nat.le_refl _) _).mono hB)).mono (by omega), Nat.lt_succ_self _⟩)
  have HB1 := hid (show Below w.heap.size w (w.alloc (.cells #[.int .i64 L.given, .slice y.ar L.regs.length y.cr, .slice y.al L.luts.length y.cl, .slice y.ao L.outs.length y.co] 54)) from (Below.refl _ _).alloc (Nat.le_refl _) _)
  have hsz1 : (w.alloc (.cells #[.int .i64 L.given, .slice y.ar L.regs.length y.cr, .slice y.al L.luts.length y.cl, .slice y.ao L.outs.length y.co] 54)).heap.size = w.heap.size + 1 := by simp
  have H := hid h
  clear h
  go_enter Tryd.func4, Tryd.ntmps4
  go_upto_region 1 with fail
  generalize w.alloc (.cells #[.int .i64 L.given, .slice y.ar L.regs.length y.cr, .slice y.al L.luts.length y.cl, .slice y.ao L.outs.length y.co] 54) = w1 at *
  have x0 := HI1.out.g
  have x1 := HI1.out.regs
  have x2 := HI1.out.luts
  have x3 := HI1.out.outs
  have hlt1 : w.heap.size < w1.heap.size := by omega
  have hB1 : B ≤ w1.heap.size := by omega
  go_upto_region 2 with (go_at_call 15; (with_reducible refine (tables_any B y L w1 (H.out.stay (HB1.out.mono hB)) hB1).mono ?_); rintro e w2 (⟨hf, a1, c1, a2, c2, rfl, hrows, hb⟩ | ⟨hf, g, a1, n1, c1, a2, n2, c2, a3, n3, c3, rfl, hb⟩))
  · have HBX := hid ((HB1.out.trans (hb.mono (by omega))).alloc (by have := hb.size; omega) (.cells #[.int .i64 L.given, .slice a1 L.regs.length c1, .slice a2 L.luts.length c2, .slice y.ao L.outs.length y.co] 58))
    clear hrows hb x0 x1 x2 x3
    by_cases h3 : (30 : Int) < (ng : Int)
    · go_wp2_with fail
      go_ret
      exact ⟨rfl, HBX.out⟩
    · have d3 : decide ((30 : Int) < (ng : Int)) = false := decide_eq_false h3
      have h4 : (60 : Int) < (np : Int) := by
        rcases HL.out with h | h | h
        · exact absurd hf h
        · omega
        · omega
      go_wp2_with fail
      go_ret
      exact ⟨rfl, HBX.out⟩
  · have HBX := hid ((HB1.out.trans (hb.mono (by omega))).alloc (by have := hb.size; omega) (.cells #[.int .i64 g, .slice a1 n1 c1, .slice a2 n2 c2, .slice a3 n3 c3] 58))
    clear hb x0 x1 x2 x3
    go_wp2_with fail
    go_ret
    exact ⟨rfl, HBX.out⟩
set_option maxRecDepth 100000 in
set_option maxHeartbeats 6400000 in
theorem ls_wrong (h : LnRows B w y L) (hB : B ≤ w.heap.size) (hf : L.fine) (h30 : gs.length ≤ 30) (h60 : put.length ≤ 60) (hr : L.right = false) (he : ErrType w) : Calls Tryd.prog 4 #[.agg #[.int .i64 L.given, .slice y.ar L.regs.length y.cr, .slice y.al L.luts.length y.cl, .slice y.ao L.outs.length y.co], .slice ag gs.length cg, .slice ap put.length cp] w (Yes w) := by
  have HE := hid he
  clear he
  have d3 : decide ((30 : Int) < (gs.length : Int)) = false := decide_eq_false (by omega)
  have d4 : decide ((60 : Int) < (put.length : Int)) = false := decide_eq_false (by omega)
  have HR := hid hr
  have HF := hid hf
  clear hr hf
  have HI1 := hid (show LnIn (w.heap.size + 1) (w.alloc (.cells #[.int .i64 L.given, .slice y.ar L.regs.length y.cr, .slice y.al L.luts.length y.cl, .slice y.ao L.outs.length y.co] 54)) w.heap.size y L from ⟨(cell_new _ _ _ _).trans rfl, (cell_new _ _ _ _).trans rfl, (cell_new _ _ _ _).trans rfl, (cell_new _ _ _ _).trans rfl, (h.stay (((Below.refl _ _).alloc (Nat.le_refl _) _).mono hB)).mono (by omega), Nat.lt_succ_self _⟩)
  have HB1 := hid (show Below w.heap.size w (w.alloc (.cells #[.int .i64 L.given, .slice y.ar L.regs.length y.cr, .slice y.al L.luts.length y.cl, .slice y.ao L.outs.length y.co] 54)) from (Below.refl _ _).alloc (Nat.le_refl _) _)
  have hsz1 : (w.alloc (.cells #[.int .i64 L.given, .slice y.ar L.regs.length y.cr, .slice y.al L.luts.length y.cl, .slice y.ao L.outs.length y.co] 54)).heap.size = w.heap.size + 1 := by simp
  have H := hid h
  clear h
  go_enter Tryd.func4, Tryd.ntmps4
  go_upto_region 1 with fail
  generalize w.alloc (.cells #[.int .i64 L.given, .slice y.ar L.regs.length y.cr, .slice y.al L.luts.length y.cl, .slice y.ao L.outs.length y.co] 54) = w1 at *
  have x0 := HI1.out.g
  have x1 := HI1.out.regs
  have x2 := HI1.out.luts
  have x3 := HI1.out.outs
  have hlt1 : w.heap.size < w1.heap.size := by omega
  have hB1 : B ≤ w1.heap.size := by omega
  go_upto_region 2 with (go_at_call 15; (with_reducible refine (tables_any B y L w1 (H.out.stay (HB1.out.mono hB)) hB1).mono ?_); rintro e w2 hpost; obtain ⟨_, a1, c1, a2, c2, rfl, hrows, hb⟩ := hpost.resolve_right (fun h => h.1 HF.out); have HROW2 := hid hrows; have HB2 := hid hb; clear hrows hb hpost)
  clear x0 x1 x2 x3
  have HBOX3 := hid (show (w2.alloc (.cells #[.int .i64 L.given, .slice a1 L.regs.length c1, .slice a2 L.luts.length c2, .slice y.ao L.outs.length y.co] 58)).heap[w2.heap.size]? = some (.cells #[.int .i64 L.given, .slice a1 L.regs.length c1, .slice a2 L.luts.length c2, .slice y.ao L.outs.length y.co] 58 (0, 0)) from alloc_at _ _)
  have HB3 := hid (show Below w2.heap.size w2 (w2.alloc (.cells #[.int .i64 L.given, .slice a1 L.regs.length c1, .slice a2 L.luts.length c2, .slice y.ao L.outs.length y.co] 58)) from (Below.refl _ _).alloc (Nat.le_refl _) _)
  obtain ⟨nr, hNr⟩ : ∃ n, L.regs.length = n := ⟨_, rfl⟩
  obtain ⟨nl, hNl⟩ : ∃ n, L.luts.length = n := ⟨_, rfl⟩
  obtain ⟨no, hNo⟩ : ∃ n, L.outs.length = n := ⟨_, rfl⟩
  obtain ⟨g, hG⟩ : ∃ n, L.given = n := ⟨_, rfl⟩
  rw [hNr, hNl, hNo, hG] at HBOX3 HB3
  rw [hNr, hNl, hNo, hG]
  have HNR := hid hNr
  have HNL := hid hNl
  have HNO := hid hNo
  have HG := hid hG
  clear hNr hNl hNo hG
  obtain ⟨bT, hbT⟩ : ∃ z, w2.heap.size = z := ⟨_, rfl⟩
  have HBT := hid hbT
  rw [hbT] at HBOX3
  (try rw [hbT])
  generalize w2.alloc (.cells #[.int .i64 g, .slice a1 nr c1, .slice a2 nl c2, .slice y.ao no y.co] 58) = w3 at *
  clear hbT
  have HI3 := hid ((HI1.out.stay ((HB2.out.trans (HB3.out.mono HB2.out.size)).mono (by omega))).mono (show w.heap.size + 1 ≤ w3.heap.size by have := HB2.out.size; have := HB3.out.size; omega))
  have HROWS3 := hid ((HROW2.out.stay HB3.out).mono HB3.out.size)
  have HBW3 := hid (HB1.out.trans ((HB2.out.trans (HB3.out.mono HB2.out.size)).mono (by omega)))
  clear HI1 HB1 HROW2 HB2 HB3 hlt1 hB1 hsz1
  go_upto_region 5 with (go_at_call 16; (with_reducible refine (LsNew_wrong _ _ _ L w3 HI3.out (Nat.le_refl _) HR.out).mono ?_); rintro e w5 ⟨rfl, hb⟩; have HI5 := hid (HI3.out.stay hb); have HROWS5 := hid (HROWS3.out.stay hb); have HBW5 := hid (HBW3.out.trans (hb.mono HBW3.out.size)); have HBOX5 := hid ((hb.block bT (boxLt HBOX3.out)).trans HBOX3.out); have hle5 := hb.size;  clear hb)
  have x0 : w5.cell? ⟨bT, 0, none⟩ = some (.int .i64 g) := (cell_block HBOX5.out 0).trans rfl
  have x1 : w5.cell? ⟨bT, 1, none⟩ = some (.slice a1 nr c1) := (cell_block HBOX5.out 1).trans rfl
  have x2 : w5.cell? ⟨bT, 2, none⟩ = some (.slice a2 nl c2) := (cell_block HBOX5.out 2).trans rfl
  have x3 : w5.cell? ⟨bT, 3, none⟩ = some (.slice y.ao no y.co) := (cell_block HBOX5.out 3).trans rfl
  have hbT5 := boxLt HBOX5.out
  go_cut [47] (fun s47 wx => s47 = .bool false ∧ Below w5.heap.size w5 wx)
  case first =>
    go_region_held3 (fun w' => w'.cell? ⟨bT, 0, none⟩ = some (.int .i64 g) ∧ w'.cell? ⟨bT, 1, none⟩ = some (.slice a1 nr c1) ∧ w'.cell? ⟨bT, 2, none⟩ = some (.slice a2 nl c2) ∧ w'.cell? ⟨bT, 3, none⟩ = some (.slice y.ao no y.co) ∧ Below w5.heap.size w5 w')
      ((refine keep4 hbT5 x0 x1 x2 x3 ?_; first | assumption | exact Below.refl _ _ | exact (Below.refl _ _).drew))
      (first
        | (go_at_call 17; (with_reducible refine (lRight HI5.out HR.out hle5 (by first | assumption | exact Below.refl _ _ | exact (Below.refl _ _).drew)).mono ?_); rintro e wx ⟨rfl, hbx⟩)
        | (go_at_call 18; (with_reducible refine (tRight HROWS5.out HR.out HG.out HNR.out HNL.out HNO.out hle5 (by first | assumption | exact Below.refl _ _ | exact (Below.refl _ _).drew)).mono ?_); rintro e wx ⟨rfl, hbx⟩)
        | fail)
    all_goals (go_wp2_with fail; go_meet; exact ⟨rfl, by assumption⟩)
  case rest =>
  obtain ⟨rfl, hb6⟩ := hcut
  have HBW6 := hid (HBW5.out.trans (hb6.mono HBW5.out.size))
  clear hb6 x0 x1 x2 x3
  go_wp2_with (go_at_call 10; (with_reducible refine (bare_same 1 _ (HE.out.stay HBW6.out)).mono ?_); rintro e w7 ⟨rfl, hb7⟩; have HB7 := hid (HBW6.out.trans (hb7.mono HBW6.out.size)))
  go_ret
  exact ⟨rfl, HB7.out⟩
set_option maxRecDepth 100000 in
set_option maxHeartbeats 12800000 in
theorem ls_right (hgr : GivenRows B w ag gs A' C') (hput : Cells B w ap put.length (fun j => .bool (put.getD j false))) (hpn : ap = none → put.length = 0 ∧ cp = 0) (h : LnRows B w y L) (hB : B ≤ w.heap.size) (hf : L.fine) (h30 : gs.length ≤ 30) (h60 : put.length ≤ 60) (hr : L.right = true) (he : ErrType w) : Calls Tryd.prog 4 #[.agg #[.int .i64 L.given, .slice y.ar L.regs.length y.cr, .slice y.al L.luts.length y.cl, .slice y.ao L.outs.length y.co], .slice ag gs.length cg, .slice ap put.length cp] w (Yes w) := by
  have HE := hid he
  have HGR := hid hgr
  obtain ⟨np, hnp⟩ : ∃ n, put.length = n := ⟨_, rfl⟩
  rw [hnp] at hput hpn h60
  rw [hnp]
  have HNP := hid hnp
  have HPUT := hid hput
  have HPN := hid hpn
  clear he hgr hput hpn hnp
  have d3 : decide ((30 : Int) < (gs.length : Int)) = false := decide_eq_false (by omega)
  have d4 : decide ((60 : Int) < (np : Int)) = false := decide_eq_false (by omega)
  have HR := hid hr
  have HF := hid hf
  clear hr hf
  have HI1 := hid (show LnIn (w.heap.size + 1) (w.alloc (.cells #[.int .i64 L.given, .slice y.ar L.regs.length y.cr, .slice y.al L.luts.length y.cl, .slice y.ao L.outs.length y.co] 54)) w.heap.size y L from ⟨(cell_new _ _ _ _).trans rfl, (cell_new _ _ _ _).trans rfl, (cell_new _ _ _ _).trans rfl, (cell_new _ _ _ _).trans rfl, (h.stay (((Below.refl _ _).alloc (Nat.le_refl _) _).mono hB)).mono (by omega), Nat.lt_succ_self _⟩)
  have HB1 := hid (show Below w.heap.size w (w.alloc (.cells #[.int .i64 L.given, .slice y.ar L.regs.length y.cr, .slice y.al L.luts.length y.cl, .slice y.ao L.outs.length y.co] 54)) from (Below.refl _ _).alloc (Nat.le_refl _) _)
  have hsz1 : (w.alloc (.cells #[.int .i64 L.given, .slice y.ar L.regs.length y.cr, .slice y.al L.luts.length y.cl, .slice y.ao L.outs.length y.co] 54)).heap.size = w.heap.size + 1 := by simp
  have H := hid h
  clear h
  go_enter Tryd.func4, Tryd.ntmps4
  go_upto_region 1 with fail
  generalize w.alloc (.cells #[.int .i64 L.given, .slice y.ar L.regs.length y.cr, .slice y.al L.luts.length y.cl, .slice y.ao L.outs.length y.co] 54) = w1 at *
  have x0 := HI1.out.g
  have x1 := HI1.out.regs
  have x2 := HI1.out.luts
  have x3 := HI1.out.outs
  have hlt1 : w.heap.size < w1.heap.size := by omega
  have hB1 : B ≤ w1.heap.size := by omega
  go_upto_region 2 with (go_at_call 15; (with_reducible refine (tables_any B y L w1 (H.out.stay (HB1.out.mono hB)) hB1).mono ?_); rintro e w2 hpost; obtain ⟨_, a1, c1, a2, c2, rfl, hrows, hb⟩ := hpost.resolve_right (fun h => h.1 HF.out); have HROW2 := hid hrows; have HB2 := hid hb; clear hrows hb hpost)
  clear x0 x1 x2 x3
  have HBOX3 := hid (show (w2.alloc (.cells #[.int .i64 L.given, .slice a1 L.regs.length c1, .slice a2 L.luts.length c2, .slice y.ao L.outs.length y.co] 58)).heap[w2.heap.size]? = some (.cells #[.int .i64 L.given, .slice a1 L.regs.length c1, .slice a2 L.luts.length c2, .slice y.ao L.outs.length y.co] 58 (0, 0)) from alloc_at _ _)
  have HB3 := hid (show Below w2.heap.size w2 (w2.alloc (.cells #[.int .i64 L.given, .slice a1 L.regs.length c1, .slice a2 L.luts.length c2, .slice y.ao L.outs.length y.co] 58)) from (Below.refl _ _).alloc (Nat.le_refl _) _)
  obtain ⟨nr, hNr⟩ : ∃ n, L.regs.length = n := ⟨_, rfl⟩
  obtain ⟨nl, hNl⟩ : ∃ n, L.luts.length = n := ⟨_, rfl⟩
  obtain ⟨no, hNo⟩ : ∃ n, L.outs.length = n := ⟨_, rfl⟩
  obtain ⟨g, hG⟩ : ∃ n, L.given = n := ⟨_, rfl⟩
  rw [hNr, hNl, hNo, hG] at HBOX3 HB3
  rw [hNr, hNl, hNo, hG]
  have HNR := hid hNr
  have HNL := hid hNl
  have HNO := hid hNo
  have HG := hid hG
  clear hNr hNl hNo hG
  obtain ⟨bT, hbT⟩ : ∃ z, w2.heap.size = z := ⟨_, rfl⟩
  have HBT := hid hbT
  rw [hbT] at HBOX3
  (try rw [hbT])
  generalize w2.alloc (.cells #[.int .i64 g, .slice a1 nr c1, .slice a2 nl c2, .slice y.ao no y.co] 58) = w3 at *
  clear hbT
  have HI3 := hid ((HI1.out.stay ((HB2.out.trans (HB3.out.mono HB2.out.size)).mono (by omega))).mono (show w.heap.size + 1 ≤ w3.heap.size by have := HB2.out.size; have := HB3.out.size; omega))
  have HROWS3 := hid ((HROW2.out.stay HB3.out).mono HB3.out.size)
  have HBW3 := hid (HB1.out.trans ((HB2.out.trans (HB3.out.mono HB2.out.size)).mono (by omega)))
  clear HI1 HB1 HROW2 HB2 HB3 hlt1 hB1 hsz1
  go_upto_region 5 with (go_at_call 16; (with_reducible refine (LsNew_right _ _ _ L w3 HI3.out (Nat.le_refl _) HR.out).mono ?_); rintro e w5 ⟨s, rfl, hsim, hb⟩; have HSIM5 := hid hsim; clear hsim; have HI5 := hid (HI3.out.stay hb); have HROWS5 := hid (HROWS3.out.stay hb); have HBW5 := hid (HBW3.out.trans (hb.mono HBW3.out.size)); have HBOX5 := hid ((hb.block bT (boxLt HBOX3.out)).trans HBOX3.out); have hle5 := hb.size; have HL5 := hid hb; clear hb)
  have x0 : w5.cell? ⟨bT, 0, none⟩ = some (.int .i64 g) := (cell_block HBOX5.out 0).trans rfl
  have x1 : w5.cell? ⟨bT, 1, none⟩ = some (.slice a1 nr c1) := (cell_block HBOX5.out 1).trans rfl
  have x2 : w5.cell? ⟨bT, 2, none⟩ = some (.slice a2 nl c2) := (cell_block HBOX5.out 2).trans rfl
  have x3 : w5.cell? ⟨bT, 3, none⟩ = some (.slice y.ao no y.co) := (cell_block HBOX5.out 3).trans rfl
  have hbT5 := boxLt HBOX5.out
  go_cut [47] (fun s47 wx => s47 = .bool false ∧ Below w5.heap.size w5 wx)
  case first =>
    go_region_held3 (fun w' => w'.cell? ⟨bT, 0, none⟩ = some (.int .i64 g) ∧ w'.cell? ⟨bT, 1, none⟩ = some (.slice a1 nr c1) ∧ w'.cell? ⟨bT, 2, none⟩ = some (.slice a2 nl c2) ∧ w'.cell? ⟨bT, 3, none⟩ = some (.slice y.ao no y.co) ∧ Below w5.heap.size w5 w')
      ((refine keep4 hbT5 x0 x1 x2 x3 ?_; first | assumption | exact Below.refl _ _ | exact (Below.refl _ _).drew))
      (first
        | (go_at_call 17; (with_reducible refine (lRight HI5.out HR.out hle5 (by first | assumption | exact Below.refl _ _ | exact (Below.refl _ _).drew)).mono ?_); rintro e wx ⟨rfl, hbx⟩)
        | (go_at_call 18; (with_reducible refine (tRight HROWS5.out HR.out HG.out HNR.out HNL.out HNO.out hle5 (by first | assumption | exact Below.refl _ _ | exact (Below.refl _ _).drew)).mono ?_); rintro e wx ⟨rfl, hbx⟩)
        | fail)
    all_goals (go_wp2_with fail; go_meet; exact ⟨rfl, by assumption⟩)
  case rest =>
  obtain ⟨rfl, hb6⟩ := hcut
  have HSIM6 := hid (HSIM5.out.stay hb6)
  have HL6 := hid (HL5.out.trans (hb6.mono hle5))
  have HBOX6 := hid ((hb6.block bT hbT5).trans HBOX5.out)
  have HI6 := hid (HI5.out.stay (hb6.mono hle5))
  have HROWS6 := hid (HROWS5.out.stay (hb6.mono hle5))
  clear hb6 x0 x1 x2 x3 HSIM5 HROWS5 HI5 hle5 hbT5 HL5
  obtain ⟨w6, rfl⟩ : ∃ wo : World, wo = wc := ⟨_, rfl⟩
  have hle6 := HL6.out.size
  have x0 : w6.cell? ⟨bT, 0, none⟩ = some (.int .i64 g) := (cell_block HBOX6.out 0).trans rfl
  have x1 : w6.cell? ⟨bT, 1, none⟩ = some (.slice a1 nr c1) := (cell_block HBOX6.out 1).trans rfl
  have x2 : w6.cell? ⟨bT, 2, none⟩ = some (.slice a2 nl c2) := (cell_block HBOX6.out 2).trans rfl
  have x3 : w6.cell? ⟨bT, 3, none⟩ = some (.slice y.ao no y.co) := (cell_block HBOX6.out 3).trans rfl
  have hbT6 := boxLt HBOX6.out
  go_upto_region 9 with fail
  go_cut [59] (fun s59 wx => s59 = .bool false ∧ Below w6.heap.size w6 wx)
  case first =>
    go_region_held3 (fun w' => w'.cell? ⟨bT, 0, none⟩ = some (.int .i64 g) ∧ w'.cell? ⟨bT, 1, none⟩ = some (.slice a1 nr c1) ∧ w'.cell? ⟨bT, 2, none⟩ = some (.slice a2 nl c2) ∧ w'.cell? ⟨bT, 3, none⟩ = some (.slice y.ao no y.co) ∧ Below w6.heap.size w6 w')
      ((refine keep4 hbT6 x0 x1 x2 x3 ?_; first | assumption | exact Below.refl _ _ | exact (Below.refl _ _).drew))
      (first
        | (go_at_call 19; (with_reducible refine (lDepth HI6.out HR.out hle6 (by first | assumption | exact Below.refl _ _ | exact (Below.refl _ _).drew)).mono ?_); rintro e wx ⟨rfl, hbx⟩)
        | (go_at_call 20; (with_reducible refine (tDepth HROWS6.out HR.out HG.out HNR.out HNL.out HNO.out hle6 (by first | assumption | exact Below.refl _ _ | exact (Below.refl _ _).drew)).mono ?_); rintro e wx ⟨rfl, hbx⟩)
        | fail)
    all_goals (go_wp2_with fail; go_meet; exact ⟨rfl, by assumption⟩)
  case rest =>
  obtain ⟨rfl, hb7⟩ := hcut
  have HSIM7 := hid (HSIM6.out.stay hb7)
  have HL7 := hid (HL6.out.trans (hb7.mono hle6))
  have HBOX7 := hid ((hb7.block bT hbT6).trans HBOX6.out)
  have HROWS7 := hid (HROWS6.out.stay (hb7.mono hle6))
  have HI7 := hid (HI6.out.stay (hb7.mono hle6))
  clear hb7 x0 x1 x2 x3 HSIM6 hle6 hbT6 HL6 HBOX6 HI6 HROWS6 HBOX5 HBW5
  obtain ⟨w7, rfl⟩ : ∃ wo : World, wo = wc := ⟨_, rfl⟩
  obtain ⟨i0, hi, hz0, hz1, hz2⟩ := info_parts Tryd.lsBool
  have hC7 := HL7.out.size
  have hbT7 := boxLt HBOX7.out
  have FTK : Hid (∀ k, k < nr → L.first.take (k + 1) = L.first.take k ++ [(L.regs.getD k LR.zero).init]) := fun k hk => by
    have hl : k < L.regs.length := by rw [HNR.out]; exact hk
    rw [take_snoc _ _ false (by rw [L.first_len]; exact hl)]
    simp [LN.first, List.getD_eq_getElem?_getD, hl]
  have hnr40 : nr ≤ 40 := by have := HF.out.1; have := HNR.out; omega
  have hno40 : no ≤ 40 := by have := HF.out.2.2.1; have := HNO.out; omega
  go_wp2_with fail
  go_loopw [11, 12] (fun v11 v wr => ∃ k : Nat, k ≤ nr ∧ v = .int .i64 k ∧ wr.ownsRow w7.heap.size 4 1 v11 k ((L.first.take k).map .bool) ∧ Below w7.heap.size w7 wr) (fun _ v _ => nr - (intOf v).toNat)
  case atStart => exact ⟨0, Nat.zero_le _, rfl, World.ownsRow_nil _ _ _ _, Below.refl _ _⟩
  case round =>
    obtain ⟨k, hk, rfl, hown, hbe⟩ := hrel
    have hsz := hbe.size
    have hboxr := (hbe.block bT hbT7).trans HBOX7.out
    have x1 : wr.cell? ⟨bT, 1, none⟩ = some (.slice a1 nr c1) := (cell_block hboxr 1).trans rfl
    have hbTr := boxLt hboxr
    have HO := hid hown
    have HB := hid hbe
    by_cases hlt : k < nr
    · obtain ⟨b1, off, e1, hb1, d0, d1⟩ := Cells.two (HROWS7.out.stay (hbe.mono hC7)).rr k (by rw [HNR.out]; exact hlt)
      rw [regCell_0] at d0
      have HT := FTK.out k hlt
      generalize (L.regs.getD k LR.zero).init = x at d0 HT
      simp only at e1
      subst e1
      have HT' := hid HT
      have hkI : (k : Int) < (nr : Int) := by omega
      have hb1r : b1 < wr.heap.size := by omega
      clear HT d1 hown hbe hboxr
      go_wp2_with (at_builtin; refine wpList_push _ w7 wr rfl _ _ 45 rfl 4 i0 (.bool false) 1 1 Tryd.underlying45 hi hz0 hz1 hz2 rfl (by decide) w7.heap.size _ _ _ rfl HO.out 1 1 _ rfl rfl rfl rfl ?c3 ?c4 HB.out (Nat.le_refl _) hsz ?_)
      case c3 => unfold maxLen; omega
      case c4 => omega
      intro v' w8 hown3 hbel3 _ _
      have HO3 := hid hown3
      have HB3 := hid hbel3
      clear hown3 hbel3 HO HB
      go_wp2
      go_roundw
      case rel => exact ⟨k + 1, hlt, by go_num, by first | exact bitTake HO3.out HT'.out | exact (List.map_take ▸ bitTake HO3.out HT'.out), HB3.out⟩
      case measure => simp [intOf]; omega
    · obtain rfl : nr = k := by omega
      have hall : L.first.take nr = L.first := List.take_of_length_le (by rw [L.first_len, HNR.out]; exact Nat.le_refl _)
      unfold Hid at HO
      rw [hall] at HO
      have HRF := hid (lsBase0 HO hC7)
      have HSIM8 := hid (HSIM7.out.stay hbe)
      have HL8 := hid (HL7.out.trans (hbe.mono hC7))
      have HFL : Hid (L.first.length = nr) := by unfold Hid; rw [L.first_len, HNR.out]
      clear hown hbe hboxr HO HB FTK HSIM7 HL7 hall
      go_wp2_with fail
      clear x1
      go_loopw [11, 13] (fun v11 v13 wr => LRel w3.heap.size w3 s w.heap.size nr gs.length v11 v13 wr) (fun _ v _ => gs.length - (intOf v).toNat)
      case atStart => exact ⟨0, L.first, Nat.zero_le _, rfl, HFL.out, HSIM8.out, HRF.out, HL8.out⟩
      case round =>
        obtain ⟨i, regs, hle, rfl, hrl, hsim, hrv, hbe⟩ := hrel
        have HRL := hid hrl
        have HSIM := hid hsim
        have HRV := hid hrv
        have HBE := hid hbe
        have hszr := hbe.size
        have HBWR := hid (HBW3.out.trans (hbe.mono HBW3.out.size))
        have GWR := hid (HGR.out.stay (HBWR.out.mono hB))
        have hBr : B ≤ wr.heap.size := Nat.le_trans hB HBWR.out.size
        have hboxr := (hbe.block bT (boxLt HBOX3.out)).trans HBOX3.out
        have HBOXR := hid hboxr
        have HROWSR := hid (HROWS3.out.stay hbe)
        obtain ⟨ar, cr, rfl, hrc⟩ := bitRow hrv
        have HRC := hid hrc
        have hnilr := hid (ownsNil hrv)
        clear hrl hsim hrv hbe hrc hboxr HSIM8 HRF HL8
        by_cases hlt : i < gs.length
        · have hlti : (i : Int) < (gs.length : Int) := by omega
          have hrow := GWR.out.rows i hlt
          have hlen := GWR.out.lens i
          obtain ⟨bg, og, rfl, hbg, hcg⟩ := GWR.out.heads.at (by omega)
          have hg1 := hcg i hlt
          have hbgr : bg < wr.heap.size := by omega
          generalize gs.getD i [] = gv at hrow hlen hg1
          generalize A' i = ai at hrow hg1
          generalize C' i = ci at hg1
          have HG1 := hid hg1
          clear hcg
          by_cases h11 : (1100 : Int) < (gv.length : Int)
          · go_wp2_with fail
            go_ret
            exact ⟨rfl, HBWR.out⟩
          · have h11' : decide ((1100 : Int) < (gv.length : Int)) = false := decide_eq_false h11
            have HROW := hid hrow
            clear hrow hlen h11
            have hgl : gv.length ≤ 1000000 := by have := of_decide_eq_false h11'; omega
            go_upto_region 22 with (first
              | (go_at_call 21; (with_reducible refine (LsRegs_any w3.heap.size s w.heap.size regs wr HSIM.out (by rw [HRL.out]; omega)).mono ?_); rintro e wA ⟨v, rfl, hv, hbA⟩; obtain ⟨av, cv, rfl, hvc⟩ := bitRow (HRL.out ▸ hv); have HVC := hid hvc; have HBA := hid hbA; have HRCA := hid ((HRC.out.stay hbA).mono hbA.size); clear hv hvc hbA)
              | (go_at_call 13; (with_reducible refine (l_same HRL.out (by unfold maxLen; omega) HVC.out HRCA.out).mono ?_); rintro e wB ⟨rfl, hbB⟩; have HBB := hid (HBA.out.trans (hbB.mono HBA.out.size)); clear hbB HVC HRCA))
            have hszB := HBB.out.size
            have hgB := (HBB.out.cell (p := ⟨bg, og + i, none⟩) hbgr).trans HG1.out
            have hboxB := (HBB.out.block bT (boxLt HBOXR.out)).trans HBOXR.out
            have hrvB := rowOld HRV.out HBB.out
            have HRCB := hid ((HRC.out.stay HBB.out).mono hszB)
            have HSIMB := hid (HSIM.out.stay HBB.out)
            have HRVB := hid hrvB
            have HBOXB := hid hboxB
            have HROWSB := hid (HROWSR.out.stay (HBB.out.mono hszr))
            have HGVB := hid ((HROW.out.stay (HBB.out.mono hBr)).mono (show B ≤ wB.heap.size by omega))
            have hCB : w3.heap.size ≤ wB.heap.size := by omega
            have x0 : wB.cell? ⟨bT, 0, none⟩ = some (.int .i64 g) := (cell_block hboxB 0).trans rfl
            have x1 : wB.cell? ⟨bT, 1, none⟩ = some (.slice a1 nr c1) := (cell_block hboxB 1).trans rfl
            have x2 : wB.cell? ⟨bT, 2, none⟩ = some (.slice a2 nl c2) := (cell_block hboxB 2).trans rfl
            have x3 : wB.cell? ⟨bT, 3, none⟩ = some (.slice y.ao no y.co) := (cell_block hboxB 3).trans rfl
            have hbTB := boxLt hboxB
            have hbgB : bg < wB.heap.size := by omega
            clear hg1 hboxB hrvB
            go_cut [11, 14] (fun s11 s14 wx => wx.ownsRow wB.heap.size 4 1 s14 no ((L.outV regs gv).map .bool) ∧ wx.ownsRow wB.heap.size 4 1 s11 nr ((L.next regs gv).map .bool) ∧ Below wB.heap.size wB wx)
            case first =>
              go_region_held3 (fun w' => w'.cell? ⟨bT, 0, none⟩ = some (.int .i64 g) ∧ w'.cell? ⟨bT, 1, none⟩ = some (.slice a1 nr c1) ∧ w'.cell? ⟨bT, 2, none⟩ = some (.slice a2 nl c2) ∧ w'.cell? ⟨bT, 3, none⟩ = some (.slice y.ao no y.co) ∧ w'.cell? ⟨bg, og + i, none⟩ = some (.slice ai gv.length ci) ∧ Below wB.heap.size wB w')
                ((refine keep41 hbTB hbgB x0 x1 x2 x3 hgB ?_; first | assumption | exact Below.refl _ _ | exact (Below.refl _ _).drew))
                (first
                  | (go_at_call 22; (with_reducible refine (tStep HROWSB.out HR.out HG.out HNR.out HNL.out HNO.out hCB HRL.out HRCB.out hnilr.out HGVB.out hgl (by first | assumption | exact Below.refl _ _ | exact (Below.refl _ _).drew)).mono ?_); rintro e wx ⟨v, u, rfl, hv, hu, hbx⟩)
                  | fail)
              all_goals (go_wp2_with fail; go_meet; exact ⟨by assumption, by assumption, by assumption⟩)
            case rest =>
            obtain ⟨hv, hu, hbx⟩ := hcut
            obtain ⟨w9, rfl⟩ : ∃ wo : World, wo = wc := ⟨_, rfl⟩
            obtain ⟨av2, cv2, rfl, _⟩ := bitRow hv
            obtain ⟨au, cu, rfl, _⟩ := bitRow hu
            have HV := hid hv
            have HU := hid hu
            have HX := hid hbx
            have hgx := (hbx.cell (p := ⟨bg, og + i, none⟩) hbgB).trans hgB
            have hsz9 := hbx.size
            have HSIM9 := hid (HSIMB.out.stay hbx)
            have HGV9 := hid ((HGVB.out.stay hbx).mono hsz9)
            have HI9 := hid (HI3.out.stay (HBE.out.trans ((HBB.out.trans (hbx.mono hszB)).mono hszr)))
            have hC9 : w3.heap.size ≤ w9.heap.size := by omega
            have HOL : Hid ((L.outV regs gv).length = no) := by unfold Hid; rw [L.outV_len, HNO.out]
            have HNL2 : Hid ((L.next regs gv).length = nr) := by unfold Hid; rw [L.next_len, HNR.out]
            have hsB : s < wB.heap.size := HSIMB.out.lt
            have HB9 := hid (HBE.out.trans ((HBB.out.trans (hbx.mono hszB)).mono hszr))
            clear hv hu hbx hgB x0 x1 x2 x3 HSIMB HSIM HRVB HRV HRCB HRC
            go_upto_region 25 with (first
              | (go_at_call 23; (with_reducible refine (LsStep_any w3.heap.size w3.heap.size s w.heap.size y L w9 regs gv ai ci HI9.out (Nat.le_refl _) hC9 HSIM9.out HR.out (HRL.out.trans HNR.out.symm) HGV9.out hgl).mono ?_); rintro e wD ⟨v, rfl, hv, hsim, hgD⟩; rw [HNO.out] at hv; obtain ⟨avd, cvd, rfl, hvc⟩ := bitRow hv; have HVC := hid hvc; have HSIMD := hid hsim; have HVD := hid (bits_cells (owns_grown HV.out hgD hsB)); have HUD := hid (owns_grown HU.out hgD hsB); have HBD := hid (HB9.out.trans (below_of_grown hgD hC9 (by obtain ⟨_, _, h, _⟩ := HSIM9.out; exact h))); have hszD := hgD.size; clear hvc hv hsim hgD HSIM9)
              | (go_at_call 13; (with_reducible refine (l_same HOL.out (by unfold maxLen; omega) HVC.out HVD.out).mono ?_); rintro e wE ⟨rfl, hbE⟩; have HSIME := hid (HSIMD.out.stay hbE); have HUE := hid (ownsRow_below HUD.out hbE); have HBEE := hid (HBD.out.trans (hbE.mono HBD.out.size)); have hszE := hbE.size; clear HSIMD HUD hbE HVC HVD))
            have hCE : w3.heap.size ≤ wE.heap.size := HBEE.out.size
            by_cases hi2 : (i : Int) = 2
            · obtain rfl : i = 2 := by omega
              have HBWE := hid (HBW3.out.trans (HBEE.out.mono HBW3.out.size))
              have hBE : B ≤ wE.heap.size := by omega
              have HPE := hid (HPUT.out.stay (HBWE.out.mono hB))
              have hsE : s < wE.heap.size := HSIME.out.lt
              by_cases hpl : np = nr
              · obtain rfl : nr = np := hpl.symm
                have HBA := hid (show Below wE.heap.size wE (wE.alloc (.cells #[] 4)) from (Below.refl _ _).alloc (Nat.le_refl _) _)
                have HE0 := hid (empty_g (B := wE.heap.size) wE 4 1 _ rfl (Nat.le_refl _))
                have HNEW := hid (bitsNews2 (HPE.out.stay (HBA.out.mono hBE)) HNP.out)
                clear hi2 hpl
                go_upto_region 30 with (at_builtin; refine wpSrc _ rfl _ _ 45 rfl wE.heap.size 4 i0 _ 1 1 Tryd.underlying45 hi hz0 hz1 hz2 rfl (by decide) (.slice (some ⟨wE.heap.size, 0, none⟩) 0 0) 0 [] rfl HE0.out ap nr cp (put.map .bool) rfl HPN.out (by simpa using HNP.out) HNEW.out (bools_one _) ?_ ?_ ?_ ?_; (focus (unfold maxLen; omega)); (focus omega); (focus (simp; done)); intro avf cvf wF HP hown hg; have HBF := hid (HBA.out.grown hg.out HBA.out.size (fun k hk => (HP.out.lt k hk).1)); have HOF := hid (show wF.ownsRow wE.heap.size 4 1 (.slice avf nr cvf) nr (put.map .bool) from by have h := hown.out; rw [List.nil_append, Nat.zero_add] at h; exact h); clear HP hown hg HNEW)
                have hszF := HBF.out.size
                have HSIMF := hid (HSIME.out.stay HBF.out)
                have HPF := hid (HPE.out.stay (HBF.out.mono hBE))
                have HB4 := hid (HBEE.out.trans (HBF.out.mono hCE))
                have HBWF := hid (HBWE.out.trans (HBF.out.mono HBWE.out.size))
                clear HBA HUE
                go_wp2_with (first
                  | (go_at_call 24; (with_reducible refine (LsPut_right w3.heap.size s w.heap.size (L.next regs gv) wF B ap nr cp put HSIMF.out (by omega) (by omega) HNP.out HNL2.out.symm HPF.out HPN.out (by omega)).mono ?_); rintro e wG ⟨rfl, hsim, hgG⟩; have HSIMG := hid hsim; have HOG := hid (owns_grown HOF.out hgG hsE); have HBG := hid (HB4.out.trans (below_of_grown hgG (by omega) (by obtain ⟨_, _, h, _⟩ := HSIMF.out; exact h))); have hszG := hgG.size; clear hsim hgG)
                  | (go_at_call 10; (with_reducible refine (bare_nil wG).mono ?_); rintro e wH ⟨rfl, hbH⟩; have HSIMH := hid (HSIMG.out.stay hbH); have HOH := hid (ownsRow_below HOG.out hbH); have HBH := hid (HBG.out.trans (hbH.mono (by omega))); clear hbH))
                go_roundw
                case rel => exact ⟨2 + 1, put, by omega, by go_num, HNP.out, HSIMH.out, lsBase0 HOH.out (by omega), HBH.out⟩
                case measure => simp [intOf]; omega
              · have dp : decide ((np : Int) = (nr : Int)) = false := decide_eq_false (by omega)
                have HNE : Hid (np ≠ (L.next regs gv).length) := by unfold Hid; rw [HNL2.out]; exact hpl
                clear hi2
                go_wp2_with (first
                  | (go_at_call 24; (with_reducible refine (LsPut_wrong w3.heap.size s w.heap.size (L.next regs gv) wE B ap np cp HSIME.out HNE.out).mono ?_); rintro e wG ⟨rfl, hbG⟩; have HSIMG := hid (HSIME.out.stay hbG); have HOG := hid (ownsRow_below HUE.out hbG); have HBG := hid (HBEE.out.trans (hbG.mono hCE)); have HBWG := hid (HBWE.out.trans (hbG.mono HBWE.out.size)); have hszG := hbG.size; clear hbG)
                  | (go_at_call 10; (with_reducible refine (bare_same 1 wG (HE.out.stay HBWG.out)).mono ?_); rintro e wH ⟨rfl, hbH⟩; have HSIMH := hid (HSIMG.out.stay hbH); have HOH := hid (ownsRow_below HOG.out hbH); have HBH := hid (HBG.out.trans (hbH.mono (by omega))); clear hbH))
                go_roundw
                case rel => exact ⟨2 + 1, _, by omega, by go_num, HNL2.out, HSIMH.out, lsBase0 HOH.out (by omega), HBH.out⟩
                case measure => simp [intOf]; omega
            · have di2 : decide ((i : Int) = 2) = false := decide_eq_false hi2
              go_wp2_with fail
              go_roundw
              case rel => exact ⟨i + 1, _, by omega, by go_num, HNL2.out, HSIME.out, lsBase0 HUE.out (by omega), HBEE.out⟩
              case measure => simp [intOf]; omega
        · obtain rfl : i = gs.length := by omega
          go_wp2_with fail
          go_ret
          exact ⟨rfl, HBWR.out⟩
theorem lutSteps_any (hgr : GivenRows B w ag gs A' C') (hput : Cells B w ap put.length (fun j => .bool (put.getD j false))) (hpn : ap = none → put.length = 0 ∧ cp = 0) (h : LnRows B w y L) (hB : B ≤ w.heap.size) (he : ErrType w) : Calls Tryd.prog 4 #[.agg #[.int .i64 L.given, .slice y.ar L.regs.length y.cr, .slice y.al L.luts.length y.cl, .slice y.ao L.outs.length y.co], .slice ag gs.length cg, .slice ap put.length cp] w (Yes w) := by
  by_cases hf : L.fine
  · by_cases h1 : 30 < gs.length
    · exact ls_long B y L ag cg gs ap cp put w h hB (.inr (.inl h1))
    · by_cases h2 : 60 < put.length
      · exact ls_long B y L ag cg gs ap cp put w h hB (.inr (.inr h2))
      · cases hr : L.right
        · exact ls_wrong B y L ag cg gs ap cp put w h hB hf (by omega) (by omega) hr he
        · exact ls_right B y L ag cg gs A' C' ap cp put w hgr hput hpn h hB hf (by omega) (by omega) hr he
  · exact ls_long B y L ag cg gs ap cp put w h hB (.inl hf)
end
end Go.Proofs.YtlaeflpddehipaaDoor
