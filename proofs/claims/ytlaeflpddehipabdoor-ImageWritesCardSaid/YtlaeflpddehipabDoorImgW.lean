/- ImageWrites, walked (written by gen_imgw.py). -/
import Derived.Test.YtlaeflpddehipabDoorRParse
import Derived.Test.YtlaeflpddehipabDoorParse
import Derived.Test.YtlaeflpddehipabDoorWrite
import Derived.Test.YtlaeflpddehipabDoorPlace
import Derived.Test.YtlaeflpddehipabDoorTables
import Derived.Test.YtlaeflpddehipabDoorLsFacts
import Derived.Laws.StructEq
import Derived.Deep.RegionHeld3
import Derived.Deep.QuietTactic
import Derived.BigQuiet
import Derived.Deep.DeepCutAuto
set_option linter.unusedVariables false
set_option linter.unusedSimpArgs false
set_option linter.unusedSectionVars false
section
namespace Go.Proofs.YtlaeflpddehipabDoor
open Go.RowKit Go.Stop Go.Extern.Stop Go.Extern

set_option maxHeartbeats 800000 in
/-- nil is no fault. -/
theorem is_nil (w : World) : Calls Tryd.prog 42 #[.nilIface, .agg #[.int .i64 0, .int .i64 (-1)]] w fun e w' => e = .returned (.bool true) ∧ Below w.heap.size w w' := by
  obtain ⟨w0, hw0⟩ : ∃ w0, w.alloc (.cells #[.int .i64 0, .int .i64 (-1)] 97) = w0 := ⟨_, rfl⟩
  have hb1 : Below w.heap.size w w0 := by rw [← hw0]; exact (Below.refl _ _).alloc (Nat.le_refl _) _
  have hsz : w0.heap.size = w.heap.size + 1 := by rw [← hw0]; simp
  have hbox : w0.heap[w.heap.size]? = some (.cells #[.int .i64 0, .int .i64 (-1)] 97 (0, 0)) := by rw [← hw0]; exact heap_alloc_new w _
  have HB1 := hid hb1
  have hlt : w.heap.size < w0.heap.size := by omega
  clear hb1 hsz
  go_enter Tryd.func42, Tryd.ntmps42
  go_upto_region 1 with fail
  clear hw0
  go_upto_region 2 with (go_at_call 70; (with_reducible refine (Place_nil w0).mono ?_); rintro e w2 ⟨rfl, hb⟩; have HB2 := hid hb; clear hb)
  have hbk := (HB2.out.block _ hlt).trans hbox
  have c0 : w2.cell? ⟨w.heap.size, 0, none⟩ = some (.int .i64 0) := (cell_block hbk 0).trans rfl
  have c1 : w2.cell? ⟨w.heap.size, 1, none⟩ = some (.int .i64 (-1)) := (cell_block hbk 1).trans rfl
  clear hbk hbox
  go_wp2_with fail
  go_ret
  exact ⟨rfl, HB1.out.trans (HB2.out.mono HB1.out.size)⟩
theorem bare_nil (w : World) : Calls Tryd.prog 10 #[.nilIface, .int .i64 0] w fun e w' => e = .returned (.bool true) ∧ Below w.heap.size w w' := by
  go_enter Tryd.func10, Tryd.ntmps10
  go_wp2_with (first
    | (go_at_call 43; (with_reducible refine (Bare_any 0 w).mono ?_); rintro e w1 ⟨rfl, hb⟩; have HB1 := hid hb; clear hb)
    | (go_at_call 42; (with_reducible refine (is_nil w1).mono ?_); rintro e w2 ⟨rfl, hb⟩; have HB2 := hid hb; clear hb))
  go_ret
  exact ⟨rfl, HB1.out.trans (HB2.out.mono HB1.out.size)⟩
end Go.Proofs.YtlaeflpddehipabDoor
end
section
namespace Go.Proofs.YtlaeflpddehipabDoor
open Go.RowKit
attribute [local go_sem ↓] Go.wp_at_zero Go.wp_at_succ

set_option maxHeartbeats 800000 in
theorem sameInts_same (B : Nat) (a a' : Option Addr) (n c c' : Nat) (l : List Int) (w : World) (hB : B ≤ w.heap.size) (hm : n ≤ maxLen) (hx : Cells B w a n (fun i => .int .i64 (l.getD i 0))) (hy : Cells B w a' n (fun i => .int .i64 (l.getD i 0))) :
    Calls Tryd.prog 25 #[.slice a n c, .slice a' n c'] w (Yes w) := by
  unfold maxLen at hm
  have HX := hid hx
  have HY := hid hy
  clear hx hy
  go_enter Tryd.func25, Tryd.ntmps25
  go_wp2
  go_loopw [5] (fun i wr => ∃ k q : Nat, k ≤ n ∧ i = .int .i64 k ∧ wr = w.drewN q) (fun i _ => n - (intOf i).toNat)
  case atStart => exact ⟨0, 0, Nat.zero_le _, rfl, rfl⟩
  case round =>
    obtain ⟨k, q, hk, rfl, hwr⟩ := hrel
    have HW := hid hwr
    clear hwr
    by_cases hlt : k < n
    · obtain ⟨b, off, rfl, hb1, hcell⟩ := HX.out.at (by omega)
      obtain ⟨b', off', rfl, hb2, hcell'⟩ := HY.out.at (by omega)
      have h1 : wr.cell? ⟨b, off + k, none⟩ = some (.int .i64 (l.getD k 0)) := by rw [HW.out]; exact hcell k hlt
      have h2 : wr.cell? ⟨b', off' + k, none⟩ = some (.int .i64 (l.getD k 0)) := by rw [HW.out]; exact hcell' k hlt
      generalize l.getD k 0 = x at h1 h2
      have hkI : (k : Int) < n := by omega
      have hk0 : (0 : Int) ≤ k := by omega
      clear hcell hcell' HX HY
      go_wp2
      go_quiet (fail)
      go_wp2
      go_roundw
      case rel => exact ⟨k + 1, _, by omega, by go_num, by rw [HW.out]; exact drewN_add _ _ _⟩
      case measure => simp [intOf]; omega
    · obtain rfl : k = n := by omega
      go_wp2
      go_ret
      exact ⟨rfl, by rw [HW.out]; exact below_drewN (Below.refl _ _) q⟩
theorem sameI {B : Nat} {a a' : Option Addr} {n c c' : Nat} {l : List Int} {w9 W : World} (hB : B ≤ w9.heap.size) (hm : n ≤ maxLen) (hx : Cells B w9 a n (fun i => .int .i64 (l.getD i 0))) (hy : Cells B w9 a' n (fun i => .int .i64 (l.getD i 0))) (hb : Below w9.heap.size w9 W) :
    Calls Tryd.prog 25 #[.slice a n c, .slice a' n c'] W fun e w' => e = .returned (.bool true) ∧ Below w9.heap.size w9 w' := by
  refine (sameInts_same B a a' n c c' l W (Nat.le_trans hB hb.size) hm (hx.stay (hb.mono hB)) (hy.stay (hb.mono hB))).mono ?_
  rintro e w' ⟨rfl, hb'⟩
  exact ⟨rfl, hb.trans (hb'.mono hb.size)⟩
theorem keep8 {w3 w' : World} {b d : Nat} {x0 x1 x2 x3 y0 y1 y2 y3 : Value} (hlt : b < w3.heap.size) (hld : d < w3.heap.size) (c0 : w3.cell? ⟨b, 0, none⟩ = some x0) (c1 : w3.cell? ⟨b, 1, none⟩ = some x1) (c2 : w3.cell? ⟨b, 2, none⟩ = some x2) (c3 : w3.cell? ⟨b, 3, none⟩ = some x3) (e0 : w3.cell? ⟨d, 0, none⟩ = some y0) (e1 : w3.cell? ⟨d, 1, none⟩ = some y1) (e2 : w3.cell? ⟨d, 2, none⟩ = some y2) (e3 : w3.cell? ⟨d, 3, none⟩ = some y3) (h : Below w3.heap.size w3 w') :
    w'.cell? ⟨b, 0, none⟩ = some x0 ∧ w'.cell? ⟨b, 1, none⟩ = some x1 ∧ w'.cell? ⟨b, 2, none⟩ = some x2 ∧ w'.cell? ⟨b, 3, none⟩ = some x3 ∧ w'.cell? ⟨d, 0, none⟩ = some y0 ∧ w'.cell? ⟨d, 1, none⟩ = some y1 ∧ w'.cell? ⟨d, 2, none⟩ = some y2 ∧ w'.cell? ⟨d, 3, none⟩ = some y3 ∧ Below w3.heap.size w3 w' :=
  ⟨(h.cell (p := ⟨b, 0, none⟩) hlt).trans c0, (h.cell (p := ⟨b, 1, none⟩) hlt).trans c1, (h.cell (p := ⟨b, 2, none⟩) hlt).trans c2, (h.cell (p := ⟨b, 3, none⟩) hlt).trans c3, (h.cell (p := ⟨d, 0, none⟩) hld).trans e0, (h.cell (p := ⟨d, 1, none⟩) hld).trans e1, (h.cell (p := ⟨d, 2, none⟩) hld).trans e2, (h.cell (p := ⟨d, 3, none⟩) hld).trans e3, h⟩
theorem keep6t {w3 w' : World} {b d p q : Nat} {o r : Nat} {x y u0 u1 v0 v1 : Value} (hlt : b < w3.heap.size) (hld : d < w3.heap.size) (hlp : p < w3.heap.size) (hlq : q < w3.heap.size) (c0 : w3.cell? ⟨b, 2, none⟩ = some x) (e0 : w3.cell? ⟨d, 2, none⟩ = some y) (f0 : w3.cell? ⟨p, o, none⟩ = some u0) (f1 : w3.cell? ⟨p, o + 1, none⟩ = some u1) (g0 : w3.cell? ⟨q, r, none⟩ = some v0) (g1 : w3.cell? ⟨q, r + 1, none⟩ = some v1) (h : Below w3.heap.size w3 w') :
    w'.cell? ⟨b, 2, none⟩ = some x ∧ w'.cell? ⟨d, 2, none⟩ = some y ∧ w'.cell? ⟨p, o, none⟩ = some u0 ∧ w'.cell? ⟨p, o + 1, none⟩ = some u1 ∧ w'.cell? ⟨q, r, none⟩ = some v0 ∧ w'.cell? ⟨q, r + 1, none⟩ = some v1 ∧ Below w3.heap.size w3 w' :=
  ⟨(h.cell (p := ⟨b, 2, none⟩) hlt).trans c0, (h.cell (p := ⟨d, 2, none⟩) hld).trans e0, (h.cell (p := ⟨p, o, none⟩) hlp).trans f0, (h.cell (p := ⟨p, o + 1, none⟩) hlp).trans f1, (h.cell (p := ⟨q, r, none⟩) hlq).trans g0, (h.cell (p := ⟨q, r + 1, none⟩) hlq).trans g1, h⟩
set_option maxRecDepth 100000 in
set_option maxHeartbeats 12800000 in
theorem sameTables_same (B b : Nat) (y1 y2 : Lay) (L : LN) (w : World) (h1 : LnIn B w b y1 L) (h2 : LnRows B w y2 L) (hB : B ≤ w.heap.size) :
    Calls Tryd.prog 13 #[.pointer (some ⟨b, 0, none⟩), .agg #[.int .i64 L.given, .slice y2.ar L.regs.length y2.cr, .slice y2.al L.luts.length y2.cl, .slice y2.ao L.outs.length y2.co]] w (Yes w) := by
  have HI2 := hid (lbox B y2 L w h2 hB)
  have HB1 := hid (show Below w.heap.size w (w.alloc (.cells #[.int .i64 L.given, .slice y2.ar L.regs.length y2.cr, .slice y2.al L.luts.length y2.cl, .slice y2.ao L.outs.length y2.co] 30)) from (Below.refl _ _).alloc (Nat.le_refl _) _)
  have hsz1 : (w.alloc (.cells #[.int .i64 L.given, .slice y2.ar L.regs.length y2.cr, .slice y2.al L.luts.length y2.cl, .slice y2.ao L.outs.length y2.co] 30)).heap.size = w.heap.size + 1 := by simp
  have HI1 := hid ((h1.stay (HB1.out.mono hB)).mono (show B ≤ w.heap.size + 1 by omega))
  have l1 := h2.lr
  have l2 := h2.ll
  have l3 := h2.lo
  have HLI := hid h2.li
  have hbw : b < w.heap.size := Nat.lt_of_lt_of_le h1.hb hB
  unfold maxLen at l1 l2
  obtain ⟨a1, c1, a2, c2, a3, c3, A1, C1⟩ := y1
  obtain ⟨d1, k1, d2, k2, d3, k3, A2, C2⟩ := y2
  simp only at HI1 HI2 HB1 hsz1 ⊢
  obtain ⟨nr, hNr⟩ : ∃ n, L.regs.length = n := ⟨_, rfl⟩
  obtain ⟨nl, hNl⟩ : ∃ n, L.luts.length = n := ⟨_, rfl⟩
  obtain ⟨no, hNo⟩ : ∃ n, L.outs.length = n := ⟨_, rfl⟩
  obtain ⟨g, hG⟩ : ∃ n, L.given = n := ⟨_, rfl⟩
  rw [hNr, hNl, hNo, hG] at HI1 HI2 HB1 hsz1 ⊢
  rw [hNr] at l1
  rw [hNl] at l2
  rw [hNo] at l3
  have HNR := hid hNr
  have HNL := hid hNl
  have HNO := hid hNo
  have HG := hid hG
  clear h1 h2 hNr hNl hNo hG
  go_enter Tryd.func13, Tryd.ntmps13
  go_upto_region 1 with fail
  generalize w.alloc (.cells #[.int .i64 g, .slice d1 nr k1, .slice d2 nl k2, .slice d3 no k3] 30) = w1 at *
  have x0 := HI1.out.g
  have x1 := HI1.out.regs
  have x2 := HI1.out.luts
  have x3 := HI1.out.outs
  have z0 := HI2.out.g
  have z1 := HI2.out.regs
  have z2 := HI2.out.luts
  have z3 := HI2.out.outs
  rw [HG.out] at x0 z0
  rw [HNR.out] at x1 z1
  rw [HNL.out] at x2 z2
  rw [HNO.out] at x3 z3
  simp only at x1 x2 x3 z1 z2 z3
  have hbl : b < w1.heap.size := by omega
  have hwl : w.heap.size < w1.heap.size := by omega
  have hle : w.heap.size + 1 ≤ w1.heap.size := by omega
  have RO1 : Hid (Cells (w.heap.size + 1) w1 a3 no (fun i => .int .i64 (L.outs.getD i 0))) := by rw [← HNO.out]; exact HI1.out.rows.ro
  have RO2 : Hid (Cells (w.heap.size + 1) w1 d3 no (fun i => .int .i64 (L.outs.getD i 0))) := by rw [← HNO.out]; exact HI2.out.rows.ro
  go_cut [45] (fun s45 wx => s45 = .bool false ∧ Below w1.heap.size w1 wx)
  case first =>
    go_region_held3 (fun w' => w'.cell? ⟨b, 0, none⟩ = some (.int .i64 g) ∧ w'.cell? ⟨b, 1, none⟩ = some (.slice a1 nr c1) ∧ w'.cell? ⟨b, 2, none⟩ = some (.slice a2 nl c2) ∧ w'.cell? ⟨b, 3, none⟩ = some (.slice a3 no c3) ∧ w'.cell? ⟨w.heap.size, 0, none⟩ = some (.int .i64 g) ∧ w'.cell? ⟨w.heap.size, 1, none⟩ = some (.slice d1 nr k1) ∧ w'.cell? ⟨w.heap.size, 2, none⟩ = some (.slice d2 nl k2) ∧ w'.cell? ⟨w.heap.size, 3, none⟩ = some (.slice d3 no k3) ∧ Below w1.heap.size w1 w')
      ((refine keep8 hbl hwl x0 x1 x2 x3 z0 z1 z2 z3 ?_; first | assumption | exact Below.refl _ _ | exact (Below.refl _ _).drew))
      (first
        | (go_at_call 25; (with_reducible refine (sameI (w9 := w1) hle l3 RO1.out RO2.out (by first | assumption | exact Below.refl _ _ | exact (Below.refl _ _).drew)).mono ?_); rintro e wx ⟨rfl, hbx⟩)
        | fail)
    all_goals (go_wp2_with fail; go_meet; exact ⟨rfl, by assumption⟩)
  case rest =>
  obtain ⟨rfl, hb2⟩ := hcut
  obtain ⟨w2, rfl⟩ : ∃ wo : World, wo = wc := ⟨_, rfl⟩
  have HI1b := hid ((HI1.out.stay (hb2.mono hle)).mono (show w.heap.size + 1 ≤ w2.heap.size by have := hb2.size; omega))
  have HI2b := hid ((HI2.out.stay (hb2.mono hle)).mono (show w.heap.size + 1 ≤ w2.heap.size by have := hb2.size; omega))
  have HB2 := hid (HB1.out.trans (hb2.mono (by omega)))
  have hsz2 := hb2.size
  clear x0 x1 x2 x3 z0 z1 z2 z3 RO1 RO2 HI1 HI2 hb2 HB1 hsz1
  go_wp2_with fail
  go_loopw [5] (fun v wr => ∃ i q : Nat, i ≤ nr ∧ v = .int .i64 i ∧ wr = w2.drewN q) (fun v _ => nr - (intOf v).toNat)
  case atStart => exact ⟨0, 0, Nat.zero_le _, rfl, rfl⟩
  case round =>
    obtain ⟨i, q, hi, rfl, hwr⟩ := hrel
    have HW := hid hwr
    have hbd : Below w2.heap.size w2 wr := by rw [hwr]; exact below_drewN (Below.refl _ _) q
    have e1 := HI1b.out.stay hbd
    have e2 := HI2b.out.stay hbd
    have x1 := e1.regs
    have z1 := e2.regs
    rw [HNR.out] at x1 z1
    simp only at x1 z1
    have hbl : b < wr.heap.size := by have := hbd.size; omega
    have hwl : w.heap.size < wr.heap.size := by have := hbd.size; omega
    clear hwr
    by_cases hlt : i < nr
    · have hr1 : Cells w2.heap.size wr a1 (L.regs.length * 2) (regCell L.regs) := e1.rows.rr
      have hr2 : Cells w2.heap.size wr d1 (L.regs.length * 2) (regCell L.regs) := e2.rows.rr
      obtain ⟨b1, o1, rfl, hb1, u0, u1⟩ := Cells.two hr1 i (by rw [HNR.out]; exact hlt)
      obtain ⟨b2, o2, rfl, hb2, v0, v1⟩ := Cells.two hr2 i (by rw [HNR.out]; exact hlt)
      rw [regCell_0] at u0 v0
      rw [regCell_1] at u1 v1
      generalize (L.regs.getD i LR.zero).init = ib at u0 v0
      generalize (L.regs.getD i LR.zero).next = nx at u1 v1
      have hiI : (i : Int) < nr := by omega
      have hi0 : (0 : Int) ≤ i := by omega
      clear hr1 hr2 e1 e2
      go_wp2_with fail
      go_quiet (fail)
      go_wp2_with fail
      go_roundw
      case rel => exact ⟨i + 1, _, by omega, by go_num, by rw [HW.out]; exact drewN_add _ _ _⟩
      case measure => simp [intOf]; omega
    · obtain rfl : nr = i := by omega
      obtain ⟨w3, rfl⟩ : ∃ wo : World, wo = wr := ⟨_, rfl⟩
      have hsz3 := hbd.size
      have HI1c := hid (e1.mono hsz3)
      have HI2c := hid (e2.mono hsz3)
      have HB3 := hid (HB2.out.trans (hbd.mono HB2.out.size))
      clear e1 e2 hbd HW HI1b HI2b
      go_wp2_with fail
      clear x1 z1
      go_loopw [6] (fun v wr => ∃ i : Nat, i ≤ nl ∧ v = .int .i64 i ∧ Below w3.heap.size w3 wr) (fun v _ => nl - (intOf v).toNat)
      case atStart => exact ⟨0, Nat.zero_le _, rfl, Below.refl _ _⟩
      case round =>
        obtain ⟨i, hi, rfl, hbd⟩ := hrel
        have HBD := hid hbd
        have hszr := hbd.size
        have e1 := HI1c.out.stay hbd
        have e2 := HI2c.out.stay hbd
        have x2 := e1.luts
        have z2 := e2.luts
        rw [HNL.out] at x2 z2
        simp only at x2 z2
        have hbl : b < wr.heap.size := by omega
        have hwl : w.heap.size < wr.heap.size := by omega
        by_cases hlt : i < nl
        · have hr1 : Cells w3.heap.size wr a2 (L.luts.length * 2) (lutCell L.luts A1 C1) := e1.rows.rl
          have hr2 : Cells w3.heap.size wr d2 (L.luts.length * 2) (lutCell L.luts A2 C2) := e2.rows.rl
          have hn1 : Cells w3.heap.size wr (A1 i) (L.luts.getD i LT.zero).ins.length (fun j => .int .i64 ((L.luts.getD i LT.zero).ins.getD j 0)) := e1.rows.ri i (by rw [HNL.out]; exact hlt)
          have hn2 : Cells w3.heap.size wr (A2 i) (L.luts.getD i LT.zero).ins.length (fun j => .int .i64 ((L.luts.getD i LT.zero).ins.getD j 0)) := e2.rows.ri i (by rw [HNL.out]; exact hlt)
          have hli := HLI.out i
          obtain ⟨b1, o1, rfl, hb1, u0, u1⟩ := Cells.two hr1 i (by rw [HNL.out]; exact hlt)
          obtain ⟨b2, o2, rfl, hb2, v0, v1⟩ := Cells.two hr2 i (by rw [HNL.out]; exact hlt)
          rw [lutCell_0] at u0 v0
          rw [lutCell_1] at u1 v1
          generalize L.luts.getD i LT.zero = t at u0 u1 v0 v1 hn1 hn2 hli
          obtain ⟨ins, tb⟩ := t
          simp only at u0 u1 v0 v1 hn1 hn2 hli
          generalize A1 i = p1 at u0 hn1
          generalize A2 i = p2 at v0 hn2
          generalize C1 i = q1 at u0
          generalize C2 i = q2 at v0
          have HN1 := hid hn1
          have HN2 := hid hn2
          have hiI : (i : Int) < nl := by omega
          have hi0 : (0 : Int) ≤ i := by omega
          have hb1r : b1 < wr.heap.size := by omega
          have hb2r : b2 < wr.heap.size := by omega
          clear hr1 hr2 e1 e2 hn1 hn2
          go_upto_region 11 with fail
          go_cut [109] (fun sx wx => sx = .bool false ∧ Below wr.heap.size wr wx)
          case first =>
            go_region_held3 (fun w' => w'.cell? ⟨b, 2, none⟩ = some (.slice (some ⟨b1, o1, none⟩) nl c2) ∧ w'.cell? ⟨w.heap.size, 2, none⟩ = some (.slice (some ⟨b2, o2, none⟩) nl k2) ∧ w'.cell? ⟨b1, o1 + i * 2, none⟩ = some (.slice p1 ins.length q1) ∧ w'.cell? ⟨b1, o1 + i * 2 + 1, none⟩ = some (.int .i64 tb) ∧ w'.cell? ⟨b2, o2 + i * 2, none⟩ = some (.slice p2 ins.length q2) ∧ w'.cell? ⟨b2, o2 + i * 2 + 1, none⟩ = some (.int .i64 tb) ∧ Below wr.heap.size wr w')
              ((refine keep6t hbl hwl hb1r hb2r x2 z2 u0 u1 v0 v1 ?_; first | assumption | exact Below.refl _ _ | exact (Below.refl _ _).drew))
              (first
                | (go_at_call 25; (with_reducible refine (sameI (w9 := wr) hszr hli HN1.out HN2.out (by first | assumption | exact Below.refl _ _ | exact (Below.refl _ _).drew)).mono ?_); rintro e wx ⟨rfl, hbx⟩)
                | fail)
            all_goals (go_wp2_with fail; go_meet; exact ⟨rfl, by assumption⟩)
          case rest =>
          obtain ⟨rfl, hb5⟩ := hcut
          have HB5 := hid (HBD.out.trans (hb5.mono hszr))
          clear hb5
          go_wp2_with fail
          go_roundw
          case rel => exact ⟨i + 1, hlt, by go_num, HB5.out⟩
          case measure => simp [intOf]; omega
        · obtain rfl : nl = i := by omega
          go_wp2_with fail
          go_ret
          exact ⟨rfl, HB3.out.trans (HBD.out.mono HB3.out.size)⟩
end Go.Proofs.YtlaeflpddehipabDoor
end
namespace Go.Proofs.YtlaeflpddehipabDoor
open Go.RowKit
attribute [local go_sem ↓] Go.wp_at_zero Go.wp_at_succ

theorem bl_strOf2 {l : List Nat} (h : AllBytes l) : bl (strOf l) = l := by
  unfold bl strOf
  simp only
  rw [List.map_map]
  conv => rhs; rw [← List.map_id l]
  refine List.map_congr_left fun x hx => ?_
  have := h x hx
  simp [UInt8.toNat_ofNat', Nat.mod_eq_of_lt this]
section
variable {B : Nat} {L : LN} {W : World} {g : Int} {a1 a2 a3 : Option Addr} {c1 c2 c3 n1 n2 n3 : Nat} {A : Nat → Option Addr} {C : Nat → Nat}
theorem tWriteR (h : LnRows B W ⟨a1, c1, a2, c2, a3, c3, A, C⟩ L) (hr : L.right = true) (hg : L.given = g) (h1 : L.regs.length = n1) (h2 : L.luts.length = n2) (h3 : L.outs.length = n3) (hB : B ≤ W.heap.size) :
    Calls Tryd.prog 8 #[.agg #[.int .i64 g, .slice a1 n1 c1, .slice a2 n2 c2, .slice a3 n3 c3]] W fun e w' => e = .returned (.tuple #[.string (strOf L.bytes), .int .i64 0]) ∧ Below W.heap.size W w' := by
  subst hg h1 h2 h3
  refine (RefWrite_right B ⟨a1, c1, a2, c2, a3, c3, A, C⟩ L W h hB hr).mono ?_
  rintro e w' ⟨t, rfl, ht, hb⟩
  have e1 : t = strOf L.bytes := bl_eq (by rw [ht, bl_strOf2 (LN.bytes_byte hr)])
  rw [e1]
  exact ⟨rfl, hb⟩
theorem tWriteW (h : LnRows B W ⟨a1, c1, a2, c2, a3, c3, A, C⟩ L) (hr : L.right = false) (hg : L.given = g) (h1 : L.regs.length = n1) (h2 : L.luts.length = n2) (h3 : L.outs.length = n3) (hB : B ≤ W.heap.size) :
    Calls Tryd.prog 8 #[.agg #[.int .i64 g, .slice a1 n1 c1, .slice a2 n2 c2, .slice a3 n3 c3]] W fun e w' => e = .returned (.tuple #[.string ⟨#[]⟩, .int .i64 1]) ∧ Below W.heap.size W w' := by
  subst hg h1 h2 h3
  exact RefWrite_wrong B ⟨a1, c1, a2, c2, a3, c3, A, C⟩ L W h hB hr
theorem sameT {b : Nat} {y1 : Lay} (h1 : LnIn B W b y1 L) (h2 : LnRows B W ⟨a1, c1, a2, c2, a3, c3, A, C⟩ L) (hg : L.given = g) (e1 : L.regs.length = n1) (e2 : L.luts.length = n2) (e3 : L.outs.length = n3) (hB : B ≤ W.heap.size) :
    Calls Tryd.prog 13 #[.pointer (some ⟨b, 0, none⟩), .agg #[.int .i64 g, .slice a1 n1 c1, .slice a2 n2 c2, .slice a3 n3 c3]] W (Yes W) := by
  subst hg e1 e2 e3
  exact sameTables_same B b y1 ⟨a1, c1, a2, c2, a3, c3, A, C⟩ L W h1 h2 hB
end
theorem rp_yes (s : ByteArray) (hlen : s.size ≤ 1000000) (w : World) (hp : parses (bl s) = true) (M : LN) (hM : (run (bl s)).1 = M) : Calls Tryd.prog 11 #[.string s] w fun e w' =>
    ∃ a1 c1 a2 c2 a3 c3 A C, e = .returned (.tuple #[.agg #[.int .i64 M.given, .slice a1 M.regs.length c1, .slice a2 M.luts.length c2, .slice a3 M.outs.length c3], .int .i64 0]) ∧ (∀ wx : World, (∀ k, w.heap.size ≤ k → k < w'.heap.size → wx.heap[k]? = w'.heap[k]?) → LnRows wx.heap.size wx ⟨a1, c1, a2, c2, a3, c3, A, C⟩ M) ∧ Below w.heap.size w w' := by
  refine (Q.RParse_any s hlen w).mono ?_
  rintro e w' (⟨_, y, rfl, hr, hb⟩ | ⟨h, _⟩)
  · rw [rparses_same (bl_bytes s) hp, hM] at hr
    refine ⟨y.ar, y.cr, y.al, y.cl, y.ao, y.co, y.A, y.C, ?_, hr, hb⟩
    rw [rparses_same (bl_bytes s) hp, hM]
    rfl
  · exact absurd ((rparses_iff (bl_bytes s)).1 hp) h
theorem rp_no (s : ByteArray) (hlen : s.size ≤ 1000000) (w : World) (hp : parses (bl s) = false) : Calls Tryd.prog 11 #[.string s] w fun e w' =>
    e = .returned (.tuple #[.agg #[.int .i64 0, .slice none 0 0, .slice none 0 0, .slice none 0 0], .int .i64 3]) ∧ Below w.heap.size w w' := by
  refine (Q.RParse_any s hlen w).mono ?_
  rintro e w' (⟨h, _⟩ | ⟨_, rfl, hb⟩)
  · rw [← rparses_iff (bl_bytes s), hp] at h; cases h
  · exact ⟨rfl, hb⟩
section
variable (B : Nat) (y : Lay) (L : LN) (s : ByteArray) (w : World)
set_option maxRecDepth 100000 in
set_option maxHeartbeats 3200000 in
theorem iw_long (h : LnRows B w y L) (hB : B ≤ w.heap.size) (hl : ¬ L.fine ∨ 500 < s.size) : Calls Tryd.prog 3 #[.agg #[.int .i64 L.given, .slice y.ar L.regs.length y.cr, .slice y.al L.luts.length y.cl, .slice y.ao L.outs.length y.co], .string s] w (Yes w) := by
  have HL := hid hl
  clear hl
  have HI1 := hid (show LnIn (w.heap.size + 1) (w.alloc (.cells #[.int .i64 L.given, .slice y.ar L.regs.length y.cr, .slice y.al L.luts.length y.cl, .slice y.ao L.outs.length y.co] 26)) w.heap.size y L from ⟨(cell_new _ _ _ _).trans rfl, (cell_new _ _ _ _).trans rfl, (cell_new _ _ _ _).trans rfl, (cell_new _ _ _ _).trans rfl, (h.stay (((Below.refl _ _).alloc (Nat.le_refl _) _).mono hB)).mono (by omega), Nat.lt_succ_self _⟩)
  have HB1 := hid (show Below w.heap.size w (w.alloc (.cells #[.int .i64 L.given, .slice y.ar L.regs.length y.cr, .slice y.al L.luts.length y.cl, .slice y.ao L.outs.length y.co] 26)) from (Below.refl _ _).alloc (Nat.le_refl _) _)
  have hsz1 : (w.alloc (.cells #[.int .i64 L.given, .slice y.ar L.regs.length y.cr, .slice y.al L.luts.length y.cl, .slice y.ao L.outs.length y.co] 26)).heap.size = w.heap.size + 1 := by simp
  have H := hid h
  clear h
  go_enter Tryd.func3, Tryd.ntmps3
  go_upto_region 1 with fail
  generalize w.alloc (.cells #[.int .i64 L.given, .slice y.ar L.regs.length y.cr, .slice y.al L.luts.length y.cl, .slice y.ao L.outs.length y.co] 26) = w1 at *
  have x0 := HI1.out.g
  have x1 := HI1.out.regs
  have x2 := HI1.out.luts
  have x3 := HI1.out.outs
  have hlt1 : w.heap.size < w1.heap.size := by omega
  have hB1 : B ≤ w1.heap.size := by omega
  go_upto_region 2 with (go_at_call 7; (with_reducible refine (tables_any B y L w1 (H.out.stay (HB1.out.mono hB)) hB1).mono ?_); rintro e w2 (⟨hf, a1, c1, a2, c2, rfl, hrows, hb⟩ | ⟨hf, g, a1, n1, c1, a2, n2, c2, a3, n3, c3, rfl, hb⟩))
  · have HBX := hid ((HB1.out.trans (hb.mono (by omega))).alloc (by have := hb.size; omega) (.cells #[.int .i64 L.given, .slice a1 L.regs.length c1, .slice a2 L.luts.length c2, .slice y.ao L.outs.length y.co] 30))
    have h5 : (500 : Int) < (s.size : Int) := by
      rcases HL.out with h | h
      · exact absurd hf h
      · omega
    clear hrows hb x0 x1 x2 x3
    go_wp2_with fail
    go_ret
    exact ⟨rfl, HBX.out⟩
  · have HBX := hid ((HB1.out.trans (hb.mono (by omega))).alloc (by have := hb.size; omega) (.cells #[.int .i64 g, .slice a1 n1 c1, .slice a2 n2 c2, .slice a3 n3 c3] 30))
    clear hb x0 x1 x2 x3
    go_wp2_with fail
    go_ret
    exact ⟨rfl, HBX.out⟩
set_option maxRecDepth 100000 in
set_option maxHeartbeats 12800000 in
theorem iw_tt (h : LnRows B w y L) (hB : B ≤ w.heap.size) (hf : L.fine) (h5 : s.size ≤ 500) (hr : L.right = true) (hp : parses (bl s) = true) (he : ErrType w) : Calls Tryd.prog 3 #[.agg #[.int .i64 L.given, .slice y.ar L.regs.length y.cr, .slice y.al L.luts.length y.cl, .slice y.ao L.outs.length y.co], .string s] w (Yes w) := by
  have d5 : decide ((500 : Int) < (s.size : Int)) = false := decide_eq_false (by omega)
  have hlen : s.size ≤ 1000000 := by omega
  have HE := hid he
  have HR := hid hr
  have HF := hid hf
  have HP := hid hp
  clear hr hf he hp
  have HI1 := hid (show LnIn (w.heap.size + 1) (w.alloc (.cells #[.int .i64 L.given, .slice y.ar L.regs.length y.cr, .slice y.al L.luts.length y.cl, .slice y.ao L.outs.length y.co] 26)) w.heap.size y L from ⟨(cell_new _ _ _ _).trans rfl, (cell_new _ _ _ _).trans rfl, (cell_new _ _ _ _).trans rfl, (cell_new _ _ _ _).trans rfl, (h.stay (((Below.refl _ _).alloc (Nat.le_refl _) _).mono hB)).mono (by omega), Nat.lt_succ_self _⟩)
  have HB1 := hid (show Below w.heap.size w (w.alloc (.cells #[.int .i64 L.given, .slice y.ar L.regs.length y.cr, .slice y.al L.luts.length y.cl, .slice y.ao L.outs.length y.co] 26)) from (Below.refl _ _).alloc (Nat.le_refl _) _)
  have hsz1 : (w.alloc (.cells #[.int .i64 L.given, .slice y.ar L.regs.length y.cr, .slice y.al L.luts.length y.cl, .slice y.ao L.outs.length y.co] 26)).heap.size = w.heap.size + 1 := by simp
  have H := hid h
  clear h
  go_enter Tryd.func3, Tryd.ntmps3
  go_upto_region 1 with fail
  generalize w.alloc (.cells #[.int .i64 L.given, .slice y.ar L.regs.length y.cr, .slice y.al L.luts.length y.cl, .slice y.ao L.outs.length y.co] 26) = w1 at *
  have x0 := HI1.out.g
  have x1 := HI1.out.regs
  have x2 := HI1.out.luts
  have x3 := HI1.out.outs
  have hlt1 : w.heap.size < w1.heap.size := by omega
  have hB1 : B ≤ w1.heap.size := by omega
  go_upto_region 2 with (go_at_call 7; (with_reducible refine (tables_any B y L w1 (H.out.stay (HB1.out.mono hB)) hB1).mono ?_); rintro e w2 hpost; obtain ⟨_, a1, c1, a2, c2, rfl, hrows, hb⟩ := hpost.resolve_right (fun h => h.1 HF.out); have HROW2 := hid hrows; have HB2 := hid hb; clear hrows hb hpost)
  clear x0 x1 x2 x3
  have HBOX3 := hid (show (w2.alloc (.cells #[.int .i64 L.given, .slice a1 L.regs.length c1, .slice a2 L.luts.length c2, .slice y.ao L.outs.length y.co] 30)).heap[w2.heap.size]? = some (.cells #[.int .i64 L.given, .slice a1 L.regs.length c1, .slice a2 L.luts.length c2, .slice y.ao L.outs.length y.co] 30 (0, 0)) from alloc_at _ _)
  have HB3 := hid (show Below w2.heap.size w2 (w2.alloc (.cells #[.int .i64 L.given, .slice a1 L.regs.length c1, .slice a2 L.luts.length c2, .slice y.ao L.outs.length y.co] 30)) from (Below.refl _ _).alloc (Nat.le_refl _) _)
  obtain ⟨nr, hNr⟩ : ∃ n, L.regs.length = n := ⟨_, rfl⟩
  obtain ⟨nl, hNl⟩ : ∃ n, L.luts.length = n := ⟨_, rfl⟩
  obtain ⟨no, hNo⟩ : ∃ n, L.outs.length = n := ⟨_, rfl⟩
  obtain ⟨g, hG⟩ : ∃ n, L.given = n := ⟨_, rfl⟩
  rw [hNr, hNl, hNo, hG] at HBOX3 HB3
  rw [hNr, hNl, hNo, hG]
  have HNR := hid hNr
  have HNL := hid hNl
  have HNO := hid hNo
  have HG := hid hG
  clear hNr hNl hNo hG
  obtain ⟨bT, hbT⟩ : ∃ z, w2.heap.size = z := ⟨_, rfl⟩
  have hbTw : w.heap.size ≤ bT := by have := HB2.out.size; omega
  rw [hbT] at HBOX3
  (try rw [hbT])
  generalize w2.alloc (.cells #[.int .i64 g, .slice a1 nr c1, .slice a2 nl c2, .slice y.ao no y.co] 30) = w3 at *
  clear hbT
  have HI3 := hid ((HI1.out.stay ((HB2.out.trans (HB3.out.mono HB2.out.size)).mono (by omega))).mono (show w.heap.size + 1 ≤ w3.heap.size by have := HB2.out.size; have := HB3.out.size; omega))
  have HROWS3 := hid ((HROW2.out.stay HB3.out).mono HB3.out.size)
  have HBW3 := hid (HB1.out.trans ((HB2.out.trans (HB3.out.mono HB2.out.size)).mono (by omega)))
  clear HI1 HB1 HROW2 HB2 HB3 hlt1 hB1 hsz1
  have x0 : w3.cell? ⟨bT, 0, none⟩ = some (.int .i64 g) := (cell_block HBOX3.out 0).trans rfl
  have x1 : w3.cell? ⟨bT, 1, none⟩ = some (.slice a1 nr c1) := (cell_block HBOX3.out 1).trans rfl
  have x2 : w3.cell? ⟨bT, 2, none⟩ = some (.slice a2 nl c2) := (cell_block HBOX3.out 2).trans rfl
  have x3 : w3.cell? ⟨bT, 3, none⟩ = some (.slice y.ao no y.co) := (cell_block HBOX3.out 3).trans rfl
  have hbT3 := boxLt HBOX3.out
  go_upto_region 5 with (go_at_call 8; (with_reducible refine (tWriteR HROWS3.out HR.out HG.out HNR.out HNL.out HNO.out (Nat.le_refl _)).mono ?_); rintro e w4 ⟨rfl, hb⟩; have HB4 := hid hb; clear hb)
  have HI4 := hid (HI3.out.stay HB4.out)
  have HBOX4 := hid ((HB4.out.block bT hbT3).trans HBOX3.out)
  have HBW4 := hid (HBW3.out.trans (HB4.out.mono HBW3.out.size))
  have hle4 := HB4.out.size
  clear x0 x1 x2 x3 HI3 HROWS3 HBOX3 hbT3
  go_upto_region 6 with (go_at_call 9; (with_reducible refine (Write_right _ _ y L w4 HI4.out hle4 HR.out).mono ?_); rintro e w5 ⟨rfl, hb⟩; have HBW5 := hid (HBW4.out.trans (hb.mono HBW4.out.size)); have HBOX5 := hid ((hb.block bT (boxLt HBOX4.out)).trans HBOX4.out); have hsz5 := hb.size; clear hb)
  generalize strOf L.bytes = ust at *
  go_upto_region 8 with (go_at_call 10; (with_reducible refine (bare_nil w5).mono ?_); rintro e w6 ⟨rfl, hb⟩; have HBW6 := hid (HBW5.out.trans (hb.mono HBW5.out.size)); have HBOX6 := hid ((hb.block bT (boxLt HBOX5.out)).trans HBOX5.out); clear hb)
  have hbT6 := boxLt HBOX6.out
  clear HB4 HI4 HBOX4 HBW4 HBOX5 HBW5 HBW3
  obtain ⟨M, hM⟩ : ∃ M, (run (bl s)).1 = M := ⟨_, rfl⟩
  have HM := hid hM
  obtain ⟨mr, hMr⟩ : ∃ n, M.regs.length = n := ⟨_, rfl⟩
  obtain ⟨ml, hMl⟩ : ∃ n, M.luts.length = n := ⟨_, rfl⟩
  obtain ⟨mo, hMo⟩ : ∃ n, M.outs.length = n := ⟨_, rfl⟩
  obtain ⟨mg, hMg⟩ : ∃ n, M.given = n := ⟨_, rfl⟩
  have HMR := hid hMr
  have HML := hid hMl
  have HMO := hid hMo
  have HMG := hid hMg
  have RP := rp_yes s hlen w6 HP.out M hM
  rw [hMr, hMl, hMo, hMg] at RP
  have HRP := hid RP
  clear RP hM hMr hMl hMo hMg
  go_upto_region 9 with (go_at_call 11; (with_reducible refine HRP.out.mono ?_); rintro e w7 ⟨p1, q1, p2, q2, p3, q3, PA, PC, rfl, hrows, hb⟩; have HROWS := hid hrows; have HB7 := hid hb; have HBOX7 := hid ((hb.block bT hbT6).trans HBOX6.out); have x0 : w7.cell? ⟨bT, 0, none⟩ = some (.int .i64 g) := (cell_block HBOX7.out 0).trans rfl; have x1 : w7.cell? ⟨bT, 1, none⟩ = some (.slice a1 nr c1) := (cell_block HBOX7.out 1).trans rfl; have x2 : w7.cell? ⟨bT, 2, none⟩ = some (.slice a2 nl c2) := (cell_block HBOX7.out 2).trans rfl; have x3 : w7.cell? ⟨bT, 3, none⟩ = some (.slice y.ao no y.co) := (cell_block HBOX7.out 3).trans rfl; have xf := free_block HBOX7.out; have hbT7 := boxLt HBOX7.out; clear hrows hb)
  obtain ⟨bd, hbd⟩ : ∃ d, bT = w.heap.size + d := ⟨bT - w.heap.size, by omega⟩
  have HBW8 := hid (show Below w.heap.size w ((((w7.setCell ⟨bT, 0, none⟩ (.int .i64 mg)).setCell ⟨bT, 1, none⟩ (.slice p1 mr q1)).setCell ⟨bT, 2, none⟩ (.slice p2 ml q2)).setCell ⟨bT, 3, none⟩ (.slice p3 mo q3)) by rw [hbd]; exact below4 (k := bd) (HBW6.out.trans (HB7.out.mono HBW6.out.size)) _ _ _ _)
  have HBOX8 := hid (set4 HBOX7.out (.int .i64 mg) (.slice p1 mr q1) (.slice p2 ml q2) (.slice p3 mo q3))
  have HFAR := hid (show ∀ k, w6.heap.size ≤ k → k < w7.heap.size → ((((w7.setCell ⟨bT, 0, none⟩ (.int .i64 mg)).setCell ⟨bT, 1, none⟩ (.slice p1 mr q1)).setCell ⟨bT, 2, none⟩ (.slice p2 ml q2)).setCell ⟨bT, 3, none⟩ (.slice p3 mo q3)).heap[k]? = w7.heap[k]? from fun k h1 _ => Q.four_far (by omega))
  have hsz8 : ((((w7.setCell ⟨bT, 0, none⟩ (.int .i64 mg)).setCell ⟨bT, 1, none⟩ (.slice p1 mr q1)).setCell ⟨bT, 2, none⟩ (.slice p2 ml q2)).setCell ⟨bT, 3, none⟩ (.slice p3 mo q3)).heap.size = w7.heap.size := by simp [World.setCell]
  clear x0 x1 x2 x3 xf hbd
  generalize (((w7.setCell ⟨bT, 0, none⟩ (.int .i64 mg)).setCell ⟨bT, 1, none⟩ (.slice p1 mr q1)).setCell ⟨bT, 2, none⟩ (.slice p2 ml q2)).setCell ⟨bT, 3, none⟩ (.slice p3 mo q3) = w8 at *
  have hbT8 : bT < w8.heap.size := by omega
  have HLE := hid (show w7.heap.size ≤ w8.heap.size by omega)
  clear hsz8
  go_upto_region 10 with (go_at_call 12; (with_reducible refine (Parse_any s hlen w8).mono ?_); intro e w9 hpost; unfold ParsePost at hpost; rw [if_pos HP.out] at hpost; obtain ⟨bm, ym, rfl, hnet, hb⟩ := hpost; rw [HM.out] at hnet; have HNET := hid hnet; have HB9 := hid hb; clear hnet hb)
  have HBW9 := hid (HBW8.out.trans (HB9.out.mono HBW8.out.size))
  go_upto_region 12 with (go_at_call 10; (with_reducible refine (bare_nil w9).mono ?_); rintro e wA ⟨rfl, hb⟩; have HBA := hid hb; clear hb)
  have HB8A := hid (HB9.out.trans (HBA.out.mono HB9.out.size))
  have HBOXA := hid ((HB8A.out.block bT hbT8).trans HBOX8.out)
  have HNETA := hid ((HNET.out.stay HBA.out).mono HBA.out.size)
  have HROWA := hid (HROWS.out wA (fun k h1 h2 => (HB8A.out.block k (Nat.lt_of_lt_of_le h2 HLE.out)).trans (HFAR.out k h1 h2)))
  have HBWA := hid (HBW9.out.trans (HBA.out.mono HBW9.out.size))
  have x0 : wA.cell? ⟨bT, 0, none⟩ = some (.int .i64 mg) := (cell_block HBOXA.out 0).trans rfl
  have x1 : wA.cell? ⟨bT, 1, none⟩ = some (.slice p1 mr q1) := (cell_block HBOXA.out 1).trans rfl
  have x2 : wA.cell? ⟨bT, 2, none⟩ = some (.slice p2 ml q2) := (cell_block HBOXA.out 2).trans rfl
  have x3 : wA.cell? ⟨bT, 3, none⟩ = some (.slice p3 mo q3) := (cell_block HBOXA.out 3).trans rfl
  have hbTA := boxLt HBOXA.out
  go_wp2_with (go_at_call 13; (with_reducible refine (sameT HNETA.out HROWA.out HMG.out HMR.out HML.out HMO.out (Nat.le_refl _)).mono ?_); rintro e wB ⟨rfl, hb⟩; have HBB := hid (HBWA.out.trans (hb.mono HBWA.out.size)); clear hb)
  go_ret
  exact ⟨rfl, HBB.out⟩
set_option maxRecDepth 100000 in
set_option maxHeartbeats 12800000 in
theorem iw_tf (h : LnRows B w y L) (hB : B ≤ w.heap.size) (hf : L.fine) (h5 : s.size ≤ 500) (hr : L.right = true) (hp : parses (bl s) = false) (he : ErrType w) : Calls Tryd.prog 3 #[.agg #[.int .i64 L.given, .slice y.ar L.regs.length y.cr, .slice y.al L.luts.length y.cl, .slice y.ao L.outs.length y.co], .string s] w (Yes w) := by
  have d5 : decide ((500 : Int) < (s.size : Int)) = false := decide_eq_false (by omega)
  have hlen : s.size ≤ 1000000 := by omega
  have HE := hid he
  have HR := hid hr
  have HF := hid hf
  have HP := hid hp
  clear hr hf he hp
  have HI1 := hid (show LnIn (w.heap.size + 1) (w.alloc (.cells #[.int .i64 L.given, .slice y.ar L.regs.length y.cr, .slice y.al L.luts.length y.cl, .slice y.ao L.outs.length y.co] 26)) w.heap.size y L from ⟨(cell_new _ _ _ _).trans rfl, (cell_new _ _ _ _).trans rfl, (cell_new _ _ _ _).trans rfl, (cell_new _ _ _ _).trans rfl, (h.stay (((Below.refl _ _).alloc (Nat.le_refl _) _).mono hB)).mono (by omega), Nat.lt_succ_self _⟩)
  have HB1 := hid (show Below w.heap.size w (w.alloc (.cells #[.int .i64 L.given, .slice y.ar L.regs.length y.cr, .slice y.al L.luts.length y.cl, .slice y.ao L.outs.length y.co] 26)) from (Below.refl _ _).alloc (Nat.le_refl _) _)
  have hsz1 : (w.alloc (.cells #[.int .i64 L.given, .slice y.ar L.regs.length y.cr, .slice y.al L.luts.length y.cl, .slice y.ao L.outs.length y.co] 26)).heap.size = w.heap.size + 1 := by simp
  have H := hid h
  clear h
  go_enter Tryd.func3, Tryd.ntmps3
  go_upto_region 1 with fail
  generalize w.alloc (.cells #[.int .i64 L.given, .slice y.ar L.regs.length y.cr, .slice y.al L.luts.length y.cl, .slice y.ao L.outs.length y.co] 26) = w1 at *
  have x0 := HI1.out.g
  have x1 := HI1.out.regs
  have x2 := HI1.out.luts
  have x3 := HI1.out.outs
  have hlt1 : w.heap.size < w1.heap.size := by omega
  have hB1 : B ≤ w1.heap.size := by omega
  go_upto_region 2 with (go_at_call 7; (with_reducible refine (tables_any B y L w1 (H.out.stay (HB1.out.mono hB)) hB1).mono ?_); rintro e w2 hpost; obtain ⟨_, a1, c1, a2, c2, rfl, hrows, hb⟩ := hpost.resolve_right (fun h => h.1 HF.out); have HROW2 := hid hrows; have HB2 := hid hb; clear hrows hb hpost)
  clear x0 x1 x2 x3
  have HBOX3 := hid (show (w2.alloc (.cells #[.int .i64 L.given, .slice a1 L.regs.length c1, .slice a2 L.luts.length c2, .slice y.ao L.outs.length y.co] 30)).heap[w2.heap.size]? = some (.cells #[.int .i64 L.given, .slice a1 L.regs.length c1, .slice a2 L.luts.length c2, .slice y.ao L.outs.length y.co] 30 (0, 0)) from alloc_at _ _)
  have HB3 := hid (show Below w2.heap.size w2 (w2.alloc (.cells #[.int .i64 L.given, .slice a1 L.regs.length c1, .slice a2 L.luts.length c2, .slice y.ao L.outs.length y.co] 30)) from (Below.refl _ _).alloc (Nat.le_refl _) _)
  obtain ⟨nr, hNr⟩ : ∃ n, L.regs.length = n := ⟨_, rfl⟩
  obtain ⟨nl, hNl⟩ : ∃ n, L.luts.length = n := ⟨_, rfl⟩
  obtain ⟨no, hNo⟩ : ∃ n, L.outs.length = n := ⟨_, rfl⟩
  obtain ⟨g, hG⟩ : ∃ n, L.given = n := ⟨_, rfl⟩
  rw [hNr, hNl, hNo, hG] at HBOX3 HB3
  rw [hNr, hNl, hNo, hG]
  have HNR := hid hNr
  have HNL := hid hNl
  have HNO := hid hNo
  have HG := hid hG
  clear hNr hNl hNo hG
  obtain ⟨bT, hbT⟩ : ∃ z, w2.heap.size = z := ⟨_, rfl⟩
  have hbTw : w.heap.size ≤ bT := by have := HB2.out.size; omega
  rw [hbT] at HBOX3
  (try rw [hbT])
  generalize w2.alloc (.cells #[.int .i64 g, .slice a1 nr c1, .slice a2 nl c2, .slice y.ao no y.co] 30) = w3 at *
  clear hbT
  have HI3 := hid ((HI1.out.stay ((HB2.out.trans (HB3.out.mono HB2.out.size)).mono (by omega))).mono (show w.heap.size + 1 ≤ w3.heap.size by have := HB2.out.size; have := HB3.out.size; omega))
  have HROWS3 := hid ((HROW2.out.stay HB3.out).mono HB3.out.size)
  have HBW3 := hid (HB1.out.trans ((HB2.out.trans (HB3.out.mono HB2.out.size)).mono (by omega)))
  clear HI1 HB1 HROW2 HB2 HB3 hlt1 hB1 hsz1
  have x0 : w3.cell? ⟨bT, 0, none⟩ = some (.int .i64 g) := (cell_block HBOX3.out 0).trans rfl
  have x1 : w3.cell? ⟨bT, 1, none⟩ = some (.slice a1 nr c1) := (cell_block HBOX3.out 1).trans rfl
  have x2 : w3.cell? ⟨bT, 2, none⟩ = some (.slice a2 nl c2) := (cell_block HBOX3.out 2).trans rfl
  have x3 : w3.cell? ⟨bT, 3, none⟩ = some (.slice y.ao no y.co) := (cell_block HBOX3.out 3).trans rfl
  have hbT3 := boxLt HBOX3.out
  go_upto_region 5 with (go_at_call 8; (with_reducible refine (tWriteR HROWS3.out HR.out HG.out HNR.out HNL.out HNO.out (Nat.le_refl _)).mono ?_); rintro e w4 ⟨rfl, hb⟩; have HB4 := hid hb; clear hb)
  have HI4 := hid (HI3.out.stay HB4.out)
  have HBOX4 := hid ((HB4.out.block bT hbT3).trans HBOX3.out)
  have HBW4 := hid (HBW3.out.trans (HB4.out.mono HBW3.out.size))
  have hle4 := HB4.out.size
  clear x0 x1 x2 x3 HI3 HROWS3 HBOX3 hbT3
  go_upto_region 6 with (go_at_call 9; (with_reducible refine (Write_right _ _ y L w4 HI4.out hle4 HR.out).mono ?_); rintro e w5 ⟨rfl, hb⟩; have HBW5 := hid (HBW4.out.trans (hb.mono HBW4.out.size)); have HBOX5 := hid ((hb.block bT (boxLt HBOX4.out)).trans HBOX4.out); have hsz5 := hb.size; clear hb)
  generalize strOf L.bytes = ust at *
  go_upto_region 8 with (go_at_call 10; (with_reducible refine (bare_nil w5).mono ?_); rintro e w6 ⟨rfl, hb⟩; have HBW6 := hid (HBW5.out.trans (hb.mono HBW5.out.size)); have HBOX6 := hid ((hb.block bT (boxLt HBOX5.out)).trans HBOX5.out); clear hb)
  have hbT6 := boxLt HBOX6.out
  clear HB4 HI4 HBOX4 HBW4 HBOX5 HBW5 HBW3
  have HRP := hid (rp_no s hlen w6 HP.out)
  go_upto_region 9 with (go_at_call 11; (with_reducible refine HRP.out.mono ?_); rintro e w7 ⟨rfl, hb⟩; have HB7 := hid hb; have HBOX7 := hid ((hb.block bT hbT6).trans HBOX6.out); have x0 : w7.cell? ⟨bT, 0, none⟩ = some (.int .i64 g) := (cell_block HBOX7.out 0).trans rfl; have x1 : w7.cell? ⟨bT, 1, none⟩ = some (.slice a1 nr c1) := (cell_block HBOX7.out 1).trans rfl; have x2 : w7.cell? ⟨bT, 2, none⟩ = some (.slice a2 nl c2) := (cell_block HBOX7.out 2).trans rfl; have x3 : w7.cell? ⟨bT, 3, none⟩ = some (.slice y.ao no y.co) := (cell_block HBOX7.out 3).trans rfl; have xf := free_block HBOX7.out; have hbT7 := boxLt HBOX7.out; clear hb)
  obtain ⟨bd, hbd⟩ : ∃ d, bT = w.heap.size + d := ⟨bT - w.heap.size, by omega⟩
  have HBW8 := hid (show Below w.heap.size w ((((w7.setCell ⟨bT, 0, none⟩ (.int .i64 0)).setCell ⟨bT, 1, none⟩ (.slice none 0 0)).setCell ⟨bT, 2, none⟩ (.slice none 0 0)).setCell ⟨bT, 3, none⟩ (.slice none 0 0)) by rw [hbd]; exact below4 (k := bd) (HBW6.out.trans (HB7.out.mono HBW6.out.size)) _ _ _ _)
  clear x0 x1 x2 x3 xf hbd
  generalize (((w7.setCell ⟨bT, 0, none⟩ (.int .i64 0)).setCell ⟨bT, 1, none⟩ (.slice none 0 0)).setCell ⟨bT, 2, none⟩ (.slice none 0 0)).setCell ⟨bT, 3, none⟩ (.slice none 0 0) = w8 at *
  go_upto_region 10 with (go_at_call 12; (with_reducible refine (Parse_any s hlen w8).mono ?_); intro e w9 hpost; unfold ParsePost at hpost; rw [if_neg (by rw [HP.out]; decide)] at hpost; obtain ⟨rfl, hb⟩ := hpost; have HBW9 := hid (HBW8.out.trans (hb.mono HBW8.out.size)); clear hb)
  go_upto_region 11 with (go_at_call 10; (with_reducible refine (bare_same 3 w9 (HE.out.stay HBW9.out)).mono ?_); rintro e wA ⟨rfl, hb⟩; have HBWA := hid (HBW9.out.trans (hb.mono HBW9.out.size)); clear hb)
  go_wp2_with (go_at_call 10; (with_reducible refine (bare_same 3 wA (HE.out.stay HBWA.out)).mono ?_); rintro e wB ⟨rfl, hb⟩; have HBWB := hid (HBWA.out.trans (hb.mono HBWA.out.size)); clear hb)
  go_ret
  exact ⟨rfl, HBWB.out⟩
set_option maxRecDepth 100000 in
set_option maxHeartbeats 12800000 in
theorem iw_ft (h : LnRows B w y L) (hB : B ≤ w.heap.size) (hf : L.fine) (h5 : s.size ≤ 500) (hr : L.right = false) (hp : parses (bl s) = true) (he : ErrType w) : Calls Tryd.prog 3 #[.agg #[.int .i64 L.given, .slice y.ar L.regs.length y.cr, .slice y.al L.luts.length y.cl, .slice y.ao L.outs.length y.co], .string s] w (Yes w) := by
  have d5 : decide ((500 : Int) < (s.size : Int)) = false := decide_eq_false (by omega)
  have hlen : s.size ≤ 1000000 := by omega
  have HE := hid he
  have HR := hid hr
  have HF := hid hf
  have HP := hid hp
  clear hr hf he hp
  have HI1 := hid (show LnIn (w.heap.size + 1) (w.alloc (.cells #[.int .i64 L.given, .slice y.ar L.regs.length y.cr, .slice y.al L.luts.length y.cl, .slice y.ao L.outs.length y.co] 26)) w.heap.size y L from ⟨(cell_new _ _ _ _).trans rfl, (cell_new _ _ _ _).trans rfl, (cell_new _ _ _ _).trans rfl, (cell_new _ _ _ _).trans rfl, (h.stay (((Below.refl _ _).alloc (Nat.le_refl _) _).mono hB)).mono (by omega), Nat.lt_succ_self _⟩)
  have HB1 := hid (show Below w.heap.size w (w.alloc (.cells #[.int .i64 L.given, .slice y.ar L.regs.length y.cr, .slice y.al L.luts.length y.cl, .slice y.ao L.outs.length y.co] 26)) from (Below.refl _ _).alloc (Nat.le_refl _) _)
  have hsz1 : (w.alloc (.cells #[.int .i64 L.given, .slice y.ar L.regs.length y.cr, .slice y.al L.luts.length y.cl, .slice y.ao L.outs.length y.co] 26)).heap.size = w.heap.size + 1 := by simp
  have H := hid h
  clear h
  go_enter Tryd.func3, Tryd.ntmps3
  go_upto_region 1 with fail
  generalize w.alloc (.cells #[.int .i64 L.given, .slice y.ar L.regs.length y.cr, .slice y.al L.luts.length y.cl, .slice y.ao L.outs.length y.co] 26) = w1 at *
  have x0 := HI1.out.g
  have x1 := HI1.out.regs
  have x2 := HI1.out.luts
  have x3 := HI1.out.outs
  have hlt1 : w.heap.size < w1.heap.size := by omega
  have hB1 : B ≤ w1.heap.size := by omega
  go_upto_region 2 with (go_at_call 7; (with_reducible refine (tables_any B y L w1 (H.out.stay (HB1.out.mono hB)) hB1).mono ?_); rintro e w2 hpost; obtain ⟨_, a1, c1, a2, c2, rfl, hrows, hb⟩ := hpost.resolve_right (fun h => h.1 HF.out); have HROW2 := hid hrows; have HB2 := hid hb; clear hrows hb hpost)
  clear x0 x1 x2 x3
  have HBOX3 := hid (show (w2.alloc (.cells #[.int .i64 L.given, .slice a1 L.regs.length c1, .slice a2 L.luts.length c2, .slice y.ao L.outs.length y.co] 30)).heap[w2.heap.size]? = some (.cells #[.int .i64 L.given, .slice a1 L.regs.length c1, .slice a2 L.luts.length c2, .slice y.ao L.outs.length y.co] 30 (0, 0)) from alloc_at _ _)
  have HB3 := hid (show Below w2.heap.size w2 (w2.alloc (.cells #[.int .i64 L.given, .slice a1 L.regs.length c1, .slice a2 L.luts.length c2, .slice y.ao L.outs.length y.co] 30)) from (Below.refl _ _).alloc (Nat.le_refl _) _)
  obtain ⟨nr, hNr⟩ : ∃ n, L.regs.length = n := ⟨_, rfl⟩
  obtain ⟨nl, hNl⟩ : ∃ n, L.luts.length = n := ⟨_, rfl⟩
  obtain ⟨no, hNo⟩ : ∃ n, L.outs.length = n := ⟨_, rfl⟩
  obtain ⟨g, hG⟩ : ∃ n, L.given = n := ⟨_, rfl⟩
  rw [hNr, hNl, hNo, hG] at HBOX3 HB3
  rw [hNr, hNl, hNo, hG]
  have HNR := hid hNr
  have HNL := hid hNl
  have HNO := hid hNo
  have HG := hid hG
  clear hNr hNl hNo hG
  obtain ⟨bT, hbT⟩ : ∃ z, w2.heap.size = z := ⟨_, rfl⟩
  have hbTw : w.heap.size ≤ bT := by have := HB2.out.size; omega
  rw [hbT] at HBOX3
  (try rw [hbT])
  generalize w2.alloc (.cells #[.int .i64 g, .slice a1 nr c1, .slice a2 nl c2, .slice y.ao no y.co] 30) = w3 at *
  clear hbT
  have HI3 := hid ((HI1.out.stay ((HB2.out.trans (HB3.out.mono HB2.out.size)).mono (by omega))).mono (show w.heap.size + 1 ≤ w3.heap.size by have := HB2.out.size; have := HB3.out.size; omega))
  have HROWS3 := hid ((HROW2.out.stay HB3.out).mono HB3.out.size)
  have HBW3 := hid (HB1.out.trans ((HB2.out.trans (HB3.out.mono HB2.out.size)).mono (by omega)))
  clear HI1 HB1 HROW2 HB2 HB3 hlt1 hB1 hsz1
  have x0 : w3.cell? ⟨bT, 0, none⟩ = some (.int .i64 g) := (cell_block HBOX3.out 0).trans rfl
  have x1 : w3.cell? ⟨bT, 1, none⟩ = some (.slice a1 nr c1) := (cell_block HBOX3.out 1).trans rfl
  have x2 : w3.cell? ⟨bT, 2, none⟩ = some (.slice a2 nl c2) := (cell_block HBOX3.out 2).trans rfl
  have x3 : w3.cell? ⟨bT, 3, none⟩ = some (.slice y.ao no y.co) := (cell_block HBOX3.out 3).trans rfl
  have hbT3 := boxLt HBOX3.out
  go_upto_region 5 with (go_at_call 8; (with_reducible refine (tWriteW HROWS3.out HR.out HG.out HNR.out HNL.out HNO.out (Nat.le_refl _)).mono ?_); rintro e w4 ⟨rfl, hb⟩; have HB4 := hid hb; clear hb)
  have HI4 := hid (HI3.out.stay HB4.out)
  have HBOX4 := hid ((HB4.out.block bT hbT3).trans HBOX3.out)
  have HBW4 := hid (HBW3.out.trans (HB4.out.mono HBW3.out.size))
  have hle4 := HB4.out.size
  clear x0 x1 x2 x3 HI3 HROWS3 HBOX3 hbT3
  go_upto_region 6 with (go_at_call 9; (with_reducible refine (Write_wrong _ _ y L w4 HI4.out hle4 HR.out).mono ?_); rintro e w5 ⟨rfl, hb⟩; have HBW5 := hid (HBW4.out.trans (hb.mono HBW4.out.size)); have HBOX5 := hid ((hb.block bT (boxLt HBOX4.out)).trans HBOX4.out); have hsz5 := hb.size; clear hb)
  go_upto_region 8 with (go_at_call 10; (with_reducible refine (bare_same 1 w5 (HE.out.stay HBW5.out)).mono ?_); rintro e w6 ⟨rfl, hb⟩; have HBW6 := hid (HBW5.out.trans (hb.mono HBW5.out.size)); have HBOX6 := hid ((hb.block bT (boxLt HBOX5.out)).trans HBOX5.out); clear hb)
  have hbT6 := boxLt HBOX6.out
  clear HB4 HI4 HBOX4 HBW4 HBOX5 HBW5 HBW3
  obtain ⟨M, hM⟩ : ∃ M, (run (bl s)).1 = M := ⟨_, rfl⟩
  have HM := hid hM
  obtain ⟨mr, hMr⟩ : ∃ n, M.regs.length = n := ⟨_, rfl⟩
  obtain ⟨ml, hMl⟩ : ∃ n, M.luts.length = n := ⟨_, rfl⟩
  obtain ⟨mo, hMo⟩ : ∃ n, M.outs.length = n := ⟨_, rfl⟩
  obtain ⟨mg, hMg⟩ : ∃ n, M.given = n := ⟨_, rfl⟩
  have HMR := hid hMr
  have HML := hid hMl
  have HMO := hid hMo
  have HMG := hid hMg
  have RP := rp_yes s hlen w6 HP.out M hM
  rw [hMr, hMl, hMo, hMg] at RP
  have HRP := hid RP
  clear RP hM hMr hMl hMo hMg
  go_upto_region 9 with (go_at_call 11; (with_reducible refine HRP.out.mono ?_); rintro e w7 ⟨p1, q1, p2, q2, p3, q3, PA, PC, rfl, hrows, hb⟩; have HROWS := hid hrows; have HB7 := hid hb; have HBOX7 := hid ((hb.block bT hbT6).trans HBOX6.out); have x0 : w7.cell? ⟨bT, 0, none⟩ = some (.int .i64 g) := (cell_block HBOX7.out 0).trans rfl; have x1 : w7.cell? ⟨bT, 1, none⟩ = some (.slice a1 nr c1) := (cell_block HBOX7.out 1).trans rfl; have x2 : w7.cell? ⟨bT, 2, none⟩ = some (.slice a2 nl c2) := (cell_block HBOX7.out 2).trans rfl; have x3 : w7.cell? ⟨bT, 3, none⟩ = some (.slice y.ao no y.co) := (cell_block HBOX7.out 3).trans rfl; have xf := free_block HBOX7.out; have hbT7 := boxLt HBOX7.out; clear hrows hb)
  obtain ⟨bd, hbd⟩ : ∃ d, bT = w.heap.size + d := ⟨bT - w.heap.size, by omega⟩
  have HBW8 := hid (show Below w.heap.size w ((((w7.setCell ⟨bT, 0, none⟩ (.int .i64 mg)).setCell ⟨bT, 1, none⟩ (.slice p1 mr q1)).setCell ⟨bT, 2, none⟩ (.slice p2 ml q2)).setCell ⟨bT, 3, none⟩ (.slice p3 mo q3)) by rw [hbd]; exact below4 (k := bd) (HBW6.out.trans (HB7.out.mono HBW6.out.size)) _ _ _ _)
  have HBOX8 := hid (set4 HBOX7.out (.int .i64 mg) (.slice p1 mr q1) (.slice p2 ml q2) (.slice p3 mo q3))
  have HFAR := hid (show ∀ k, w6.heap.size ≤ k → k < w7.heap.size → ((((w7.setCell ⟨bT, 0, none⟩ (.int .i64 mg)).setCell ⟨bT, 1, none⟩ (.slice p1 mr q1)).setCell ⟨bT, 2, none⟩ (.slice p2 ml q2)).setCell ⟨bT, 3, none⟩ (.slice p3 mo q3)).heap[k]? = w7.heap[k]? from fun k h1 _ => Q.four_far (by omega))
  have hsz8 : ((((w7.setCell ⟨bT, 0, none⟩ (.int .i64 mg)).setCell ⟨bT, 1, none⟩ (.slice p1 mr q1)).setCell ⟨bT, 2, none⟩ (.slice p2 ml q2)).setCell ⟨bT, 3, none⟩ (.slice p3 mo q3)).heap.size = w7.heap.size := by simp [World.setCell]
  clear x0 x1 x2 x3 xf hbd
  generalize (((w7.setCell ⟨bT, 0, none⟩ (.int .i64 mg)).setCell ⟨bT, 1, none⟩ (.slice p1 mr q1)).setCell ⟨bT, 2, none⟩ (.slice p2 ml q2)).setCell ⟨bT, 3, none⟩ (.slice p3 mo q3) = w8 at *
  have hbT8 : bT < w8.heap.size := by omega
  have HLE := hid (show w7.heap.size ≤ w8.heap.size by omega)
  clear hsz8
  go_upto_region 10 with (go_at_call 12; (with_reducible refine (Parse_any s hlen w8).mono ?_); intro e w9 hpost; unfold ParsePost at hpost; rw [if_pos HP.out] at hpost; obtain ⟨bm, ym, rfl, hnet, hb⟩ := hpost; rw [HM.out] at hnet; have HNET := hid hnet; have HB9 := hid hb; clear hnet hb)
  have HBW9 := hid (HBW8.out.trans (HB9.out.mono HBW8.out.size))
  go_upto_region 12 with (go_at_call 10; (with_reducible refine (bare_nil w9).mono ?_); rintro e wA ⟨rfl, hb⟩; have HBA := hid hb; clear hb)
  have HB8A := hid (HB9.out.trans (HBA.out.mono HB9.out.size))
  have HBOXA := hid ((HB8A.out.block bT hbT8).trans HBOX8.out)
  have HNETA := hid ((HNET.out.stay HBA.out).mono HBA.out.size)
  have HROWA := hid (HROWS.out wA (fun k h1 h2 => (HB8A.out.block k (Nat.lt_of_lt_of_le h2 HLE.out)).trans (HFAR.out k h1 h2)))
  have HBWA := hid (HBW9.out.trans (HBA.out.mono HBW9.out.size))
  have x0 : wA.cell? ⟨bT, 0, none⟩ = some (.int .i64 mg) := (cell_block HBOXA.out 0).trans rfl
  have x1 : wA.cell? ⟨bT, 1, none⟩ = some (.slice p1 mr q1) := (cell_block HBOXA.out 1).trans rfl
  have x2 : wA.cell? ⟨bT, 2, none⟩ = some (.slice p2 ml q2) := (cell_block HBOXA.out 2).trans rfl
  have x3 : wA.cell? ⟨bT, 3, none⟩ = some (.slice p3 mo q3) := (cell_block HBOXA.out 3).trans rfl
  have hbTA := boxLt HBOXA.out
  go_wp2_with (go_at_call 13; (with_reducible refine (sameT HNETA.out HROWA.out HMG.out HMR.out HML.out HMO.out (Nat.le_refl _)).mono ?_); rintro e wB ⟨rfl, hb⟩; have HBB := hid (HBWA.out.trans (hb.mono HBWA.out.size)); clear hb)
  go_ret
  exact ⟨rfl, HBB.out⟩
set_option maxRecDepth 100000 in
set_option maxHeartbeats 12800000 in
theorem iw_ff (h : LnRows B w y L) (hB : B ≤ w.heap.size) (hf : L.fine) (h5 : s.size ≤ 500) (hr : L.right = false) (hp : parses (bl s) = false) (he : ErrType w) : Calls Tryd.prog 3 #[.agg #[.int .i64 L.given, .slice y.ar L.regs.length y.cr, .slice y.al L.luts.length y.cl, .slice y.ao L.outs.length y.co], .string s] w (Yes w) := by
  have d5 : decide ((500 : Int) < (s.size : Int)) = false := decide_eq_false (by omega)
  have hlen : s.size ≤ 1000000 := by omega
  have HE := hid he
  have HR := hid hr
  have HF := hid hf
  have HP := hid hp
  clear hr hf he hp
  have HI1 := hid (show LnIn (w.heap.size + 1) (w.alloc (.cells #[.int .i64 L.given, .slice y.ar L.regs.length y.cr, .slice y.al L.luts.length y.cl, .slice y.ao L.outs.length y.co] 26)) w.heap.size y L from ⟨(cell_new _ _ _ _).trans rfl, (cell_new _ _ _ _).trans rfl, (cell_new _ _ _ _).trans rfl, (cell_new _ _ _ _).trans rfl, (h.stay (((Below.refl _ _).alloc (Nat.le_refl _) _).mono hB)).mono (by omega), Nat.lt_succ_self _⟩)
  have HB1 := hid (show Below w.heap.size w (w.alloc (.cells #[.int .i64 L.given, .slice y.ar L.regs.length y.cr, .slice y.al L.luts.length y.cl, .slice y.ao L.outs.length y.co] 26)) from (Below.refl _ _).alloc (Nat.le_refl _) _)
  have hsz1 : (w.alloc (.cells #[.int .i64 L.given, .slice y.ar L.regs.length y.cr, .slice y.al L.luts.length y.cl, .slice y.ao L.outs.length y.co] 26)).heap.size = w.heap.size + 1 := by simp
  have H := hid h
  clear h
  go_enter Tryd.func3, Tryd.ntmps3
  go_upto_region 1 with fail
  generalize w.alloc (.cells #[.int .i64 L.given, .slice y.ar L.regs.length y.cr, .slice y.al L.luts.length y.cl, .slice y.ao L.outs.length y.co] 26) = w1 at *
  have x0 := HI1.out.g
  have x1 := HI1.out.regs
  have x2 := HI1.out.luts
  have x3 := HI1.out.outs
  have hlt1 : w.heap.size < w1.heap.size := by omega
  have hB1 : B ≤ w1.heap.size := by omega
  go_upto_region 2 with (go_at_call 7; (with_reducible refine (tables_any B y L w1 (H.out.stay (HB1.out.mono hB)) hB1).mono ?_); rintro e w2 hpost; obtain ⟨_, a1, c1, a2, c2, rfl, hrows, hb⟩ := hpost.resolve_right (fun h => h.1 HF.out); have HROW2 := hid hrows; have HB2 := hid hb; clear hrows hb hpost)
  clear x0 x1 x2 x3
  have HBOX3 := hid (show (w2.alloc (.cells #[.int .i64 L.given, .slice a1 L.regs.length c1, .slice a2 L.luts.length c2, .slice y.ao L.outs.length y.co] 30)).heap[w2.heap.size]? = some (.cells #[.int .i64 L.given, .slice a1 L.regs.length c1, .slice a2 L.luts.length c2, .slice y.ao L.outs.length y.co] 30 (0, 0)) from alloc_at _ _)
  have HB3 := hid (show Below w2.heap.size w2 (w2.alloc (.cells #[.int .i64 L.given, .slice a1 L.regs.length c1, .slice a2 L.luts.length c2, .slice y.ao L.outs.length y.co] 30)) from (Below.refl _ _).alloc (Nat.le_refl _) _)
  obtain ⟨nr, hNr⟩ : ∃ n, L.regs.length = n := ⟨_, rfl⟩
  obtain ⟨nl, hNl⟩ : ∃ n, L.luts.length = n := ⟨_, rfl⟩
  obtain ⟨no, hNo⟩ : ∃ n, L.outs.length = n := ⟨_, rfl⟩
  obtain ⟨g, hG⟩ : ∃ n, L.given = n := ⟨_, rfl⟩
  rw [hNr, hNl, hNo, hG] at HBOX3 HB3
  rw [hNr, hNl, hNo, hG]
  have HNR := hid hNr
  have HNL := hid hNl
  have HNO := hid hNo
  have HG := hid hG
  clear hNr hNl hNo hG
  obtain ⟨bT, hbT⟩ : ∃ z, w2.heap.size = z := ⟨_, rfl⟩
  have hbTw : w.heap.size ≤ bT := by have := HB2.out.size; omega
  rw [hbT] at HBOX3
  (try rw [hbT])
  generalize w2.alloc (.cells #[.int .i64 g, .slice a1 nr c1, .slice a2 nl c2, .slice y.ao no y.co] 30) = w3 at *
  clear hbT
  have HI3 := hid ((HI1.out.stay ((HB2.out.trans (HB3.out.mono HB2.out.size)).mono (by omega))).mono (show w.heap.size + 1 ≤ w3.heap.size by have := HB2.out.size; have := HB3.out.size; omega))
  have HROWS3 := hid ((HROW2.out.stay HB3.out).mono HB3.out.size)
  have HBW3 := hid (HB1.out.trans ((HB2.out.trans (HB3.out.mono HB2.out.size)).mono (by omega)))
  clear HI1 HB1 HROW2 HB2 HB3 hlt1 hB1 hsz1
  have x0 : w3.cell? ⟨bT, 0, none⟩ = some (.int .i64 g) := (cell_block HBOX3.out 0).trans rfl
  have x1 : w3.cell? ⟨bT, 1, none⟩ = some (.slice a1 nr c1) := (cell_block HBOX3.out 1).trans rfl
  have x2 : w3.cell? ⟨bT, 2, none⟩ = some (.slice a2 nl c2) := (cell_block HBOX3.out 2).trans rfl
  have x3 : w3.cell? ⟨bT, 3, none⟩ = some (.slice y.ao no y.co) := (cell_block HBOX3.out 3).trans rfl
  have hbT3 := boxLt HBOX3.out
  go_upto_region 5 with (go_at_call 8; (with_reducible refine (tWriteW HROWS3.out HR.out HG.out HNR.out HNL.out HNO.out (Nat.le_refl _)).mono ?_); rintro e w4 ⟨rfl, hb⟩; have HB4 := hid hb; clear hb)
  have HI4 := hid (HI3.out.stay HB4.out)
  have HBOX4 := hid ((HB4.out.block bT hbT3).trans HBOX3.out)
  have HBW4 := hid (HBW3.out.trans (HB4.out.mono HBW3.out.size))
  have hle4 := HB4.out.size
  clear x0 x1 x2 x3 HI3 HROWS3 HBOX3 hbT3
  go_upto_region 6 with (go_at_call 9; (with_reducible refine (Write_wrong _ _ y L w4 HI4.out hle4 HR.out).mono ?_); rintro e w5 ⟨rfl, hb⟩; have HBW5 := hid (HBW4.out.trans (hb.mono HBW4.out.size)); have HBOX5 := hid ((hb.block bT (boxLt HBOX4.out)).trans HBOX4.out); have hsz5 := hb.size; clear hb)
  go_upto_region 8 with (go_at_call 10; (with_reducible refine (bare_same 1 w5 (HE.out.stay HBW5.out)).mono ?_); rintro e w6 ⟨rfl, hb⟩; have HBW6 := hid (HBW5.out.trans (hb.mono HBW5.out.size)); have HBOX6 := hid ((hb.block bT (boxLt HBOX5.out)).trans HBOX5.out); clear hb)
  have hbT6 := boxLt HBOX6.out
  clear HB4 HI4 HBOX4 HBW4 HBOX5 HBW5 HBW3
  have HRP := hid (rp_no s hlen w6 HP.out)
  go_upto_region 9 with (go_at_call 11; (with_reducible refine HRP.out.mono ?_); rintro e w7 ⟨rfl, hb⟩; have HB7 := hid hb; have HBOX7 := hid ((hb.block bT hbT6).trans HBOX6.out); have x0 : w7.cell? ⟨bT, 0, none⟩ = some (.int .i64 g) := (cell_block HBOX7.out 0).trans rfl; have x1 : w7.cell? ⟨bT, 1, none⟩ = some (.slice a1 nr c1) := (cell_block HBOX7.out 1).trans rfl; have x2 : w7.cell? ⟨bT, 2, none⟩ = some (.slice a2 nl c2) := (cell_block HBOX7.out 2).trans rfl; have x3 : w7.cell? ⟨bT, 3, none⟩ = some (.slice y.ao no y.co) := (cell_block HBOX7.out 3).trans rfl; have xf := free_block HBOX7.out; have hbT7 := boxLt HBOX7.out; clear hb)
  obtain ⟨bd, hbd⟩ : ∃ d, bT = w.heap.size + d := ⟨bT - w.heap.size, by omega⟩
  have HBW8 := hid (show Below w.heap.size w ((((w7.setCell ⟨bT, 0, none⟩ (.int .i64 0)).setCell ⟨bT, 1, none⟩ (.slice none 0 0)).setCell ⟨bT, 2, none⟩ (.slice none 0 0)).setCell ⟨bT, 3, none⟩ (.slice none 0 0)) by rw [hbd]; exact below4 (k := bd) (HBW6.out.trans (HB7.out.mono HBW6.out.size)) _ _ _ _)
  clear x0 x1 x2 x3 xf hbd
  generalize (((w7.setCell ⟨bT, 0, none⟩ (.int .i64 0)).setCell ⟨bT, 1, none⟩ (.slice none 0 0)).setCell ⟨bT, 2, none⟩ (.slice none 0 0)).setCell ⟨bT, 3, none⟩ (.slice none 0 0) = w8 at *
  go_upto_region 10 with (go_at_call 12; (with_reducible refine (Parse_any s hlen w8).mono ?_); intro e w9 hpost; unfold ParsePost at hpost; rw [if_neg (by rw [HP.out]; decide)] at hpost; obtain ⟨rfl, hb⟩ := hpost; have HBW9 := hid (HBW8.out.trans (hb.mono HBW8.out.size)); clear hb)
  go_upto_region 11 with (go_at_call 10; (with_reducible refine (bare_same 3 w9 (HE.out.stay HBW9.out)).mono ?_); rintro e wA ⟨rfl, hb⟩; have HBWA := hid (HBW9.out.trans (hb.mono HBW9.out.size)); clear hb)
  go_wp2_with (go_at_call 10; (with_reducible refine (bare_same 3 wA (HE.out.stay HBWA.out)).mono ?_); rintro e wB ⟨rfl, hb⟩; have HBWB := hid (HBWA.out.trans (hb.mono HBWA.out.size)); clear hb)
  go_ret
  exact ⟨rfl, HBWB.out⟩
theorem imageWrites_any (h : LnRows B w y L) (hB : B ≤ w.heap.size) (he : ErrType w) : Calls Tryd.prog 3 #[.agg #[.int .i64 L.given, .slice y.ar L.regs.length y.cr, .slice y.al L.luts.length y.cl, .slice y.ao L.outs.length y.co], .string s] w (Yes w) := by
  by_cases hf : L.fine
  · by_cases h5 : 500 < s.size
    · exact iw_long B y L s w h hB (.inr h5)
    · cases hr : L.right <;> cases hp : parses (bl s)
      · exact iw_ff B y L s w h hB hf (by omega) hr hp he
      · exact iw_ft B y L s w h hB hf (by omega) hr hp he
      · exact iw_tf B y L s w h hB hf (by omega) hr hp he
      · exact iw_tt B y L s w h hB hf (by omega) hr hp he
  · exact iw_long B y L s w h hB (.inl hf)
end
end Go.Proofs.YtlaeflpddehipabDoor
