/- The document's Tables.Write, walked (written by gen_refwrite.py). -/
import Derived.Test.YtlaeflpddehipabDoorRefNum
import Derived.Test.YtlaeflpddehipabDoorLsFactsAll
import Derived.Deep.RegionHeld3
import Derived.Deep.DeepCutAuto
import Derived.Deep.DrawnRows
set_option linter.unusedVariables false
set_option linter.unusedSimpArgs false
set_option linter.unusedSectionVars false
namespace Go.Proofs.YtlaeflpddehipabDoor
open Go.RowKit
attribute [local go_sem ↓] Go.wp_at_zero Go.wp_at_succ

theorem refNum_z (z : Int) (h0 : 0 ≤ z) (h1 : z < 268435456) {w9 W : World} (hb : Below w9.heap.size w9 W) :
    Calls Tryd.prog 40 #[.int .i64 z] W fun e w' => ∃ t : ByteArray, e = .returned (.string t) ∧ bl t = numB z.toNat ∧ t.size ≤ 5 ∧ Below w9.heap.size w9 w' := by
  obtain ⟨n, rfl⟩ := Int.eq_ofNat_of_zero_le h0
  refine (refNumber_any n (by omega) W).mono ?_
  rintro e w' ⟨t, rfl, ht, hb'⟩
  refine ⟨t, rfl, by rw [ht, Int.toNat_natCast], ?_, hb.trans (hb'.mono hb.size)⟩
  have := numB_len n
  rw [← bl_len, ht]
  omega
theorem keepA {w3 w' : World} {b : Nat} {x0 x1 : Value} (hlt : b < w3.heap.size) (c0 : w3.cell? ⟨b, 0, none⟩ = some x0) (c1 : w3.cell? ⟨b, 1, none⟩ = some x1) (h : Below w3.heap.size w3 w') :
    w'.cell? ⟨b, 0, none⟩ = some x0 ∧ w'.cell? ⟨b, 1, none⟩ = some x1 ∧ Below w3.heap.size w3 w' :=
  ⟨(h.cell (p := ⟨b, 0, none⟩) hlt).trans c0, (h.cell (p := ⟨b, 1, none⟩) hlt).trans c1, h⟩
theorem keepB {w3 w' : World} {b : Nat} {x1 : Value} (hlt : b < w3.heap.size) (c1 : w3.cell? ⟨b, 1, none⟩ = some x1) (h : Below w3.heap.size w3 w') :
    w'.cell? ⟨b, 1, none⟩ = some x1 ∧ Below w3.heap.size w3 w' :=
  ⟨(h.cell (p := ⟨b, 1, none⟩) hlt).trans c1, h⟩
section
variable (B : Nat) (y : Lay) (L : LN) (w : World)
set_option maxRecDepth 100000 in
set_option maxHeartbeats 1600000 in
theorem RefWrite_wrong (h : LnRows B w y L) (hB : B ≤ w.heap.size) (hr : L.right = false) : Calls Tryd.prog 8 #[.agg #[.int .i64 L.given, .slice y.ar L.regs.length y.cr, .slice y.al L.luts.length y.cl, .slice y.ao L.outs.length y.co]] w fun e w' => e = .returned (.tuple #[.string ⟨#[]⟩, .int .i64 1]) ∧ Below w.heap.size w w' := by
  have HI := hid (lbox B y L w h hB)
  have HB1 := hid (show Below w.heap.size w (w.alloc (.cells #[.int .i64 L.given, .slice y.ar L.regs.length y.cr, .slice y.al L.luts.length y.cl, .slice y.ao L.outs.length y.co] 30)) from (Below.refl _ _).alloc (Nat.le_refl _) _)
  have HSZ1 := hid (show (w.alloc (.cells #[.int .i64 L.given, .slice y.ar L.regs.length y.cr, .slice y.al L.luts.length y.cl, .slice y.ao L.outs.length y.co] 30)).heap.size = w.heap.size + 1 by simp)
  have HR := hid hr
  clear h hr
  go_enter Tryd.func8, Tryd.ntmps8
  go_upto_region 1 with fail
  generalize w.alloc (.cells #[.int .i64 L.given, .slice y.ar L.regs.length y.cr, .slice y.al L.luts.length y.cl, .slice y.ao L.outs.length y.co] 30) = w1 at *
  have x0 := HI.out.g
  have x1 := HI.out.regs
  have x2 := HI.out.luts
  have x3 := HI.out.outs
  have hle1 : w.heap.size + 1 ≤ w1.heap.size := by have := HSZ1.out; omega
  have hlt1 : w.heap.size < w1.heap.size := by omega
  go_wp2_with (go_at_call 39; (with_reducible refine (RefLnRight_any (w.heap.size + 1) y L w1 HI.out.rows hle1).mono ?_); rintro e w2 ⟨rfl, hb2⟩; rw [HR.out]; have HB2 := hid hb2)
  go_ret2
  exact ⟨rfl, HB1.out.trans (HB2.out.mono (by omega))⟩
set_option maxRecDepth 100000 in
set_option maxHeartbeats 12800000 in
theorem RefWrite_right (h : LnRows B w y L) (hB : B ≤ w.heap.size) (hr : L.right = true) : Calls Tryd.prog 8 #[.agg #[.int .i64 L.given, .slice y.ar L.regs.length y.cr, .slice y.al L.luts.length y.cl, .slice y.ao L.outs.length y.co]] w fun e w' => ∃ t : ByteArray, e = .returned (.tuple #[.string t, .int .i64 0]) ∧ bl t = L.bytes ∧ Below w.heap.size w w' := by
  have HI := hid (lbox B y L w h hB)
  have HB1 := hid (show Below w.heap.size w (w.alloc (.cells #[.int .i64 L.given, .slice y.ar L.regs.length y.cr, .slice y.al L.luts.length y.cl, .slice y.ao L.outs.length y.co] 30)) from (Below.refl _ _).alloc (Nat.le_refl _) _)
  have HSZ1 := hid (show (w.alloc (.cells #[.int .i64 L.given, .slice y.ar L.regs.length y.cr, .slice y.al L.luts.length y.cl, .slice y.ao L.outs.length y.co] 30)).heap.size = w.heap.size + 1 by simp)
  have HR := hid hr
  have GD := LN.good hr
  have z0 := GD.g0
  have z1 := GD.g1
  have z2 := GD.r1
  have z3 := GD.l1
  have z4 := GD.o1
  obtain ⟨nr, hNr⟩ : ∃ n, L.regs.length = n := ⟨_, rfl⟩
  obtain ⟨nl, hNl⟩ : ∃ n, L.luts.length = n := ⟨_, rfl⟩
  obtain ⟨no, hNo⟩ : ∃ n, L.outs.length = n := ⟨_, rfl⟩
  obtain ⟨g, hG⟩ : ∃ n, L.given = n := ⟨_, rfl⟩
  obtain ⟨ar, cr, al, cl, ao, co, A, C⟩ := y
  simp only at HI HB1 HSZ1 ⊢
  rw [hG] at z0 z1
  rw [hNr] at z2
  rw [hNl] at z3
  rw [hNo] at z4
  rw [hNr, hNl, hNo, hG] at HI HB1 HSZ1
  rw [hNr, hNl, hNo, hG]
  have HNR := hid hNr
  have HNL := hid hNl
  have HNO := hid hNo
  have HG := hid hG
  have HGD := hid GD
  clear h hr hNr hNl hNo hG GD
  go_enter Tryd.func8, Tryd.ntmps8
  go_upto_region 1 with fail
  generalize w.alloc (.cells #[.int .i64 g, .slice ar nr cr, .slice al nl cl, .slice ao no co] 30) = w1 at *
  have x0 := HI.out.g
  have x1 := HI.out.regs
  have x2 := HI.out.luts
  have x3 := HI.out.outs
  rw [HG.out] at x0
  rw [HNR.out] at x1
  rw [HNL.out] at x2
  rw [HNO.out] at x3
  simp only at x1 x2 x3
  have hle1 : w.heap.size + 1 ≤ w1.heap.size := by have := HSZ1.out; omega
  have hlt1 : w.heap.size < w1.heap.size := by omega
  have RL := RefLnRight_any (w.heap.size + 1) ⟨ar, cr, al, cl, ao, co, A, C⟩ L w1 HI.out.rows hle1
  rw [HNR.out, HNL.out, HNO.out, HG.out] at RL
  have HRL := hid RL
  clear RL
  go_upto_region 3 with (go_at_call 39; (with_reducible refine HRL.out.mono ?_); rintro e w2 ⟨rfl, hb2⟩; rw [HR.out]; have HB2 := hid hb2; clear hb2)
  have HI2 := hid ((HI.out.stay (HB2.out.mono hle1)).mono (show w.heap.size + 1 ≤ w2.heap.size by have := HB2.out.size; omega))
  have HBW2 := hid (HB1.out.trans (HB2.out.mono (by omega)))
  have hlt2 : w.heap.size < w2.heap.size := by have := HB2.out.size; omega
  have y0 := (HB2.out.cell (p := ⟨w.heap.size, 0, none⟩) hlt1).trans x0
  have y1 := (HB2.out.cell (p := ⟨w.heap.size, 1, none⟩) hlt1).trans x1
  clear x0 x1 x2 x3 HB1 HB2 HI hle1 hlt1 HSZ1
  go_cut [4] (fun s4 wx => ∃ t : ByteArray, s4 = .string t ∧ bl t = L.part1 0 ∧ Below w2.heap.size w2 wx)
  case first =>
    have E0 : Hid (L.part1 0 = numB g.toNat ++ numB (nr : Int).toNat) := by unfold Hid LN.part1 LN.head; rw [HG.out, HNR.out, Int.toNat_natCast]; simp
    go_region_held3 (fun w' => w'.cell? ⟨w.heap.size, 0, none⟩ = some (.int .i64 g) ∧ w'.cell? ⟨w.heap.size, 1, none⟩ = some (.slice ar nr cr) ∧ Below w2.heap.size w2 w')
      ((refine keepA hlt2 y0 y1 ?_; first | assumption | exact Below.refl _ _ | exact (Below.refl _ _).drew))
      (first
        | (go_at_call 40; (with_reducible refine (refNum_z (w9 := w2) g z0 (by omega) (by first | assumption | exact Below.refl _ _ | exact (Below.refl _ _).drew)).mono ?_); rintro e wx ⟨t, rfl, ht, hts, hbx⟩; (try have hsum1 : ¬ (9223372036854775807 < t.size + t'.size) := by omega))
        | (go_at_call 40; (with_reducible refine (refNum_z (w9 := w2) (nr : Int) (by omega) (by omega) (by first | assumption | exact Below.refl _ _ | exact (Below.refl _ _).drew)).mono ?_); rintro e wx ⟨t', rfl, ht', hts', hbx'⟩; (try have hsum1 : ¬ (9223372036854775807 < t.size + t'.size) := by omega))
        | fail)
    all_goals (go_wp2_with fail; go_meet; exact ⟨_, rfl, by rw [E0.out, bl_append]; congr 1, by assumption⟩)
  case rest =>
  obtain ⟨t0, rfl, ht0, hb3⟩ := hcut
  have HT0 := hid ht0
  have HB3 := hid hb3
  clear ht0 hb3
  obtain ⟨w3, rfl⟩ : ∃ wo : World, wo = wc := ⟨_, rfl⟩
  have hsz3 := HB3.out.size
  have x1 := (HB3.out.cell (p := ⟨w.heap.size, 1, none⟩) hlt2).trans y1
  have hlt3 : w.heap.size < w3.heap.size := by omega
  clear y0 y1
  go_wp2_with fail
  clear x1
  go_loopw [4, 28] (fun v4 v wr => ∃ (k : Nat) (t : ByteArray), k ≤ nr ∧ v = .int .i64 k ∧ v4 = .string t ∧ bl t = L.part1 k ∧ Below w2.heap.size w2 wr) (fun _ v _ => nr - (intOf v).toNat)
  case atStart => exact ⟨0, t0, Nat.zero_le _, rfl, rfl, HT0.out, HB3.out⟩
  case round =>
    obtain ⟨k, t, hk, rfl, rfl, ht, hbe⟩ := hrel
    have HT := hid ht
    have HBE := hid hbe
    have hszr := hbe.size
    have h' := HI2.out.stay hbe
    have hts : t.size ≤ 1000000 := by rw [← bl_len, ht]; exact Nat.le_trans (LN.part1_len HR.out k) (by omega)
    clear ht hbe
    by_cases hlt : k < nr
    · have hrl : Cells w2.heap.size wr ar (L.regs.length * 2) (regCell L.regs) := h'.rows.rr
      obtain ⟨b1, off, rfl, hb1, c0, c1⟩ := Cells.two hrl k (by rw [HNR.out]; exact hlt)
      rw [regCell_0] at c0
      rw [regCell_1] at c1
      have hx := HGD.out.regs k (by rw [HNR.out]; exact hlt)
      rw [HG.out, HNR.out, HNL.out] at hx
      have HS := L.part1_succ (k := k) (by rw [HNR.out]; exact hlt)
      obtain ⟨q, hq⟩ : ∃ q, L.regs.getD k LR.zero = q := ⟨_, rfl⟩
      rw [hq] at c0 c1 hx HS
      obtain ⟨ib, nx⟩ := q
      simp only at c0 c1 hx HS
      have hkI : (k : Int) < (nr : Int) := by omega
      obtain ⟨hx0, hx1⟩ := hx
      have HS' := hid HS
      have HBW := hid (show Below wr.heap.size wr (wr.alloc (.cells #[.bool ib, .int .i64 nx] 87)) from (Below.refl _ _).alloc (Nat.le_refl _) _)
      have e0 : (wr.alloc (.cells #[.bool ib, .int .i64 nx] 87)).cell? ⟨wr.heap.size, 0, none⟩ = some (.bool ib) := (cell_new _ _ _ _).trans rfl
      have e1 : (wr.alloc (.cells #[.bool ib, .int .i64 nx] 87)).cell? ⟨wr.heap.size, 1, none⟩ = some (.int .i64 nx) := (cell_new _ _ _ _).trans rfl
      have HSW := hid (show (wr.alloc (.cells #[.bool ib, .int .i64 nx] 87)).heap.size = wr.heap.size + 1 by simp)
      clear HS hrl h' hq
      go_upto_region 7 with fail
      clear c0 c1
      generalize wr.alloc (.cells #[.bool ib, .int .i64 nx] 87) = wb at *
      have hrb : wr.heap.size < wb.heap.size := by have := HSW.out; omega
      cases ib
      · have E1 : Hid (L.part1 (k + 1) = L.part1 k ++ (numB (0 : Int).toNat ++ numB nx.toNat)) := by unfold Hid; rw [HS'.out, List.append_assoc]; rfl
        go_upto_region 10 with fail
        go_region_held3 (fun w' => w'.cell? ⟨wr.heap.size, 1, none⟩ = some (.int .i64 nx) ∧ Below wb.heap.size wb w')
          ((refine keepB hrb e1 ?_; first | assumption | exact Below.refl _ _ | exact (Below.refl _ _).drew))
          (first
            | (go_at_call 40; (with_reducible refine (refNum_z (w9 := wb) 0 (by omega) (by omega) (by first | assumption | exact Below.refl _ _ | exact (Below.refl _ _).drew)).mono ?_); rintro e wx ⟨t1, rfl, ht1, hts1, hbx⟩; (try have hsum1 : ¬ (9223372036854775807 < t1.size + t2.size) := by omega); (try have hsum2 : ¬ (9223372036854775807 < t.size + (t1.size + t2.size)) := by omega))
            | (go_at_call 40; (with_reducible refine (refNum_z (w9 := wb) nx hx0 (by omega) (by first | assumption | exact Below.refl _ _ | exact (Below.refl _ _).drew)).mono ?_); rintro e wx ⟨t2, rfl, ht2, hts2, hbx'⟩; (try have hsum1 : ¬ (9223372036854775807 < t1.size + t2.size) := by omega); (try have hsum2 : ¬ (9223372036854775807 < t.size + (t1.size + t2.size)) := by omega))
            | fail)
        all_goals
          have HT' := hid (show bl (t ++ (t1 ++ t2)) = L.part1 (k + 1) by rw [E1.out, bl_append, bl_append, HT.out, ht1, ht2])
          have HB4 := hid (HBE.out.trans ((HBW.out.trans ((show Below wb.heap.size wb _ by assumption).mono (by omega))).mono hszr))
          go_wp2_with fail
          go_roundw
          case rel => exact ⟨k + 1, t ++ (t1 ++ t2), hlt, by go_num, rfl, HT'.out, HB4.out⟩
          case measure => simp [intOf]; omega
      · have E1 : Hid (L.part1 (k + 1) = L.part1 k ++ (numB (1 : Int).toNat ++ numB nx.toNat)) := by unfold Hid; rw [HS'.out, List.append_assoc]; rfl
        go_upto_region 10 with fail
        go_region_held3 (fun w' => w'.cell? ⟨wr.heap.size, 1, none⟩ = some (.int .i64 nx) ∧ Below wb.heap.size wb w')
          ((refine keepB hrb e1 ?_; first | assumption | exact Below.refl _ _ | exact (Below.refl _ _).drew))
          (first
            | (go_at_call 40; (with_reducible refine (refNum_z (w9 := wb) 1 (by omega) (by omega) (by first | assumption | exact Below.refl _ _ | exact (Below.refl _ _).drew)).mono ?_); rintro e wx ⟨t1, rfl, ht1, hts1, hbx⟩; (try have hsum1 : ¬ (9223372036854775807 < t1.size + t2.size) := by omega); (try have hsum2 : ¬ (9223372036854775807 < t.size + (t1.size + t2.size)) := by omega))
            | (go_at_call 40; (with_reducible refine (refNum_z (w9 := wb) nx hx0 (by omega) (by first | assumption | exact Below.refl _ _ | exact (Below.refl _ _).drew)).mono ?_); rintro e wx ⟨t2, rfl, ht2, hts2, hbx'⟩; (try have hsum1 : ¬ (9223372036854775807 < t1.size + t2.size) := by omega); (try have hsum2 : ¬ (9223372036854775807 < t.size + (t1.size + t2.size)) := by omega))
            | fail)
        all_goals
          have HT' := hid (show bl (t ++ (t1 ++ t2)) = L.part1 (k + 1) by rw [E1.out, bl_append, bl_append, HT.out, ht1, ht2])
          have HB4 := hid (HBE.out.trans ((HBW.out.trans ((show Below wb.heap.size wb _ by assumption).mono (by omega))).mono hszr))
          go_wp2_with fail
          go_roundw
          case rel => exact ⟨k + 1, t ++ (t1 ++ t2), hlt, by go_num, rfl, HT'.out, HB4.out⟩
          case measure => simp [intOf]; omega
    · obtain rfl : nr = k := by omega
      have x2 := h'.luts
      rw [HNL.out] at x2
      simp only at x2
      have hltr : w.heap.size < wr.heap.size := by omega
      have E2 : Hid (L.part2 0 = L.part1 nr ++ numB (nl : Int).toNat) := by unfold Hid LN.part2; rw [HNR.out, HNL.out, Int.toNat_natCast]; simp
      clear h'
      go_upto_region 13 with (go_at_call 40; (with_reducible refine (refNum_z (nl : Int) (by omega) (by omega) (Below.refl _ _)).mono ?_); rintro e w4 ⟨t1, rfl, ht1, hts1, hb4⟩; have HT1 := hid (show bl (t ++ t1) = L.part2 0 by rw [bl_append, HT.out, ht1, E2.out]); have HB4 := hid (HBE.out.trans (hb4.mono hszr)); have x2' := (hb4.cell (p := ⟨w.heap.size, 2, none⟩) hltr).trans x2; have hlt4 : w.heap.size < w4.heap.size := Nat.lt_of_lt_of_le hltr hb4.size; clear ht1 hb4 x2)
      generalize t ++ t1 = t5 at *
      clear HT hts HT0
      go_wp2_with fail
      clear x2'
      go_loopw [4, 52] (fun v4 v wr => ∃ (k : Nat) (t : ByteArray), k ≤ nl ∧ v = .int .i64 k ∧ v4 = .string t ∧ bl t = L.part2 k ∧ Below w2.heap.size w2 wr) (fun _ v _ => nl - (intOf v).toNat)
      case atStart => exact ⟨0, t5, Nat.zero_le _, rfl, rfl, HT1.out, HB4.out⟩
      case round =>
        obtain ⟨k, t, hk, rfl, rfl, ht, hbe⟩ := hrel
        have HT := hid ht
        have HBE := hid hbe
        have hszr := hbe.size
        have h' := HI2.out.stay hbe
        have hts : t.size ≤ 1000000 := by rw [← bl_len, ht]; exact Nat.le_trans (LN.part2_len HR.out k) (by omega)
        clear ht hbe
        by_cases hlt : k < nl
        · have hrl : Cells w2.heap.size wr al (L.luts.length * 2) (lutCell L.luts A C) := h'.rows.rl
          obtain ⟨b1, off, rfl, hb1, c0, c1⟩ := Cells.two hrl k (by rw [HNL.out]; exact hlt)
          rw [lutCell_0] at c0
          rw [lutCell_1] at c1
          have hri : Cells w2.heap.size wr (A k) (L.luts.getD k LT.zero).ins.length (fun j => .int .i64 ((L.luts.getD k LT.zero).ins.getD j 0)) := h'.rows.ri k (by rw [HNL.out]; exact hlt)
          have hli := HGD.out.four k (by rw [HNL.out]; exact hlt)
          have ht0 := HGD.out.tab0 k (by rw [HNL.out]; exact hlt)
          have ht1 := HGD.out.tab1 k (by rw [HNL.out]; exact hlt)
          have hins := HGD.out.ins k
          have HS := L.part2_succ (k := k) (by rw [HNL.out]; exact hlt)
          obtain ⟨q, hq⟩ : ∃ q, L.luts.getD k LT.zero = q := ⟨_, rfl⟩
          rw [hq] at c0 c1 hri hli hins HS ht0 ht1
          obtain ⟨ins, tb⟩ := q
          simp only at c0 c1 hri hli hins HS ht0 ht1
          obtain ⟨m, hm⟩ : ∃ m, ins.length = m := ⟨_, rfl⟩
          rw [hm] at c0 hri hli hins HS
          rw [HNL.out, HG.out, HNR.out] at hins
          have HINS := hid hins
          have HS' := hid HS
          have HM := hid hm
          generalize A k = ai at c0 hri
          generalize C k = ci at c0
          have hkI : (k : Int) < (nl : Int) := by omega
          have HBW := hid (show Below wr.heap.size wr (wr.alloc (.cells #[.slice ai m ci, .int .i64 tb] 91)) from (Below.refl _ _).alloc (Nat.le_refl _) _)
          have e0 : (wr.alloc (.cells #[.slice ai m ci, .int .i64 tb] 91)).cell? ⟨wr.heap.size, 0, none⟩ = some (.slice ai m ci) := (cell_new _ _ _ _).trans rfl
          have e1 : (wr.alloc (.cells #[.slice ai m ci, .int .i64 tb] 91)).cell? ⟨wr.heap.size, 1, none⟩ = some (.int .i64 tb) := (cell_new _ _ _ _).trans rfl
          have HRI := hid (hri.stay (HBW.out.mono hszr))
          have HSW := hid (show (wr.alloc (.cells #[.slice ai m ci, .int .i64 tb] 91)).heap.size = wr.heap.size + 1 by simp)
          clear HS hrl h' hq hri hins hm
          go_upto_region 16 with fail
          clear c0 c1
          generalize wr.alloc (.cells #[.slice ai m ci, .int .i64 tb] 91) = wb at *
          have hrb : wr.heap.size < wb.heap.size := by have := HSW.out; omega
          have hwb : w2.heap.size ≤ wb.heap.size := by omega
          go_upto_region 17 with (go_at_call 40; (with_reducible refine (refNum_z (m : Int) (by omega) (by omega) (Below.refl _ _)).mono ?_); rintro e w4 ⟨t1, rfl, ht1, hts1, hb4⟩; have HT1 := hid (show bl (t ++ t1) = L.part2 k ++ numB m by rw [bl_append, HT.out, ht1, Int.toNat_natCast]); have HB5 := hid hb4; have f0 := (hb4.cell (p := ⟨wr.heap.size, 0, none⟩) hrb).trans e0; have hlt4 : wr.heap.size < w4.heap.size := Nat.lt_of_lt_of_le hrb hb4.size; have hsz1 : (t ++ t1).size ≤ 1000005 := (by rw [ByteArray.size_append]; omega); clear ht1 hb4)
          generalize t ++ t1 = t6 at *
          go_wp2_with fail
          clear f0
          obtain ⟨wr0, rfl⟩ : ∃ wr0 : World, wr0 = wr := ⟨_, rfl⟩
          go_loopw [4, 65] (fun v4 v wq => ∃ (j : Nat) (t : ByteArray), j ≤ m ∧ v = .int .i64 j ∧ v4 = .string t ∧ bl t = L.part2 k ++ numB m ++ insB (ins.take j) ∧ Below wb.heap.size wb wq) (fun _ v _ => m - (intOf v).toNat)
          case atStart => exact ⟨0, t6, Nat.zero_le _, rfl, rfl, by rw [HT1.out]; simp [insB], HB5.out⟩
          case round =>
            obtain ⟨j, tj, hj, rfl, rfl, htj, hbj⟩ := hrel
            have HTJ := hid htj
            have HBJ := hid hbj
            have hszj := hbj.size
            have htsj : tj.size ≤ 2000000 := by
              have h1 := LN.part2_len HR.out k
              have h2 := numB_len m
              have h3 := insB_len (ins.take j)
              rw [← bl_len, htj, List.length_append, List.length_append]
              rw [List.length_take] at h3
              omega
            clear htj hbj
            by_cases hjlt : j < m
            · have hjI : (j : Int) < (m : Int) := by omega
              obtain ⟨bi, oi, rfl, hbi, hci⟩ := ((HRI.out.stay (HBJ.out.mono hwb))).at (by omega)
              have d0 := hci j hjlt
              obtain ⟨hx0, hx1⟩ := HINS.out j hlt hjlt
              have HIS := insB_succ ins (k := j) (by rw [HM.out]; exact hjlt)
              generalize ins.getD j 0 = x at d0 hx0 hx1 HIS
              have HIS' := hid HIS
              clear hci HIS
              go_wp2_with (go_at_call 40; (with_reducible refine (refNum_z x hx0 (by omega) (Below.refl _ _)).mono ?_); rintro e w5 ⟨t2, rfl, ht2, hts2, hb5⟩; have HT2 := hid (show bl (tj ++ t2) = L.part2 k ++ numB m ++ insB (ins.take (j + 1)) by rw [bl_append, HTJ.out, ht2, HIS'.out, List.append_assoc]); have HB6 := hid (HBJ.out.trans (hb5.mono hszj)); clear ht2 hb5)
              go_roundw
              case rel => exact ⟨j + 1, tj ++ t2, hjlt, by go_num, rfl, HT2.out, HB6.out⟩
              case measure => simp [intOf]; omega
            · obtain rfl : m = j := by omega
              have g1 := (HBJ.out.cell (p := ⟨wr0.heap.size, 1, none⟩) hrb).trans e1
              have hrw := Nat.lt_of_lt_of_le hrb hszj
              have hall : ins.take m = ins := List.take_of_length_le (by rw [HM.out]; exact Nat.le_refl _)
              have HALL := hid hall
              clear hall
              go_wp2_with (go_at_call 40; (with_reducible refine (refNum_z tb ht0 (by omega) (Below.refl _ _)).mono ?_); rintro e w5 ⟨t2, rfl, ht2, hts2, hb5⟩; have HT2 := hid (show bl (tj ++ t2) = L.part2 (k + 1) by rw [bl_append, HTJ.out, ht2, HS'.out, HALL.out]); have HB6 := hid (HBE.out.trans ((HBW.out.trans ((HBJ.out.trans (hb5.mono hszj)).mono (by omega))).mono hszr)); clear ht2 hb5)
              go_roundw
              case rel => exact ⟨k + 1, tj ++ t2, hlt, by go_num, rfl, HT2.out, HB6.out⟩
              case measure => simp [intOf]; omega
        · obtain rfl : nl = k := by omega
          have x3 := h'.outs
          rw [HNO.out] at x3
          simp only at x3
          have hltr : w.heap.size < wr.heap.size := by omega
          have E3 : Hid (L.part3 0 = L.part2 nl ++ numB (no : Int).toNat) := by unfold Hid LN.part3; rw [HNL.out, HNO.out, Int.toNat_natCast]; simp [insB]
          clear h'
          go_upto_region 25 with (go_at_call 40; (with_reducible refine (refNum_z (no : Int) (by omega) (by omega) (Below.refl _ _)).mono ?_); rintro e w5 ⟨t1, rfl, ht1, hts1, hb4⟩; have HT3 := hid (show bl (t ++ t1) = L.part3 0 by rw [bl_append, HT.out, ht1, E3.out]); have HB5 := hid (HBE.out.trans (hb4.mono hszr)); have x3' := (hb4.cell (p := ⟨w.heap.size, 3, none⟩) hltr).trans x3; have hlt5 : w.heap.size < w5.heap.size := Nat.lt_of_lt_of_le hltr hb4.size; clear ht1 hb4 x3)
          generalize t ++ t1 = t7 at *
          clear HT hts HT1
          go_wp2_with fail
          clear x3'
          go_loopw [4, 89] (fun v4 v wr => ∃ (k : Nat) (t : ByteArray), k ≤ no ∧ v = .int .i64 k ∧ v4 = .string t ∧ bl t = L.part3 k ∧ Below w2.heap.size w2 wr) (fun _ v _ => no - (intOf v).toNat)
          case atStart => exact ⟨0, t7, Nat.zero_le _, rfl, rfl, HT3.out, HB5.out⟩
          case round =>
            obtain ⟨k, t, hk, rfl, rfl, ht, hbe⟩ := hrel
            have HT := hid ht
            have HBE := hid hbe
            have hszr := hbe.size
            have h' := HI2.out.stay hbe
            have hts : t.size ≤ 1000000 := by rw [← bl_len, ht]; exact Nat.le_trans (LN.part3_len HR.out k) (by omega)
            clear ht hbe
            by_cases hlt : k < no
            · have hrl : Cells w2.heap.size wr ao L.outs.length (fun i => .int .i64 (L.outs.getD i 0)) := h'.rows.ro
              obtain ⟨b1, off, rfl, hb1, hcc⟩ := hrl.at (by rw [HNO.out]; omega)
              have c0 := hcc k (by rw [HNO.out]; exact hlt)
              have hx := HGD.out.outs k (by rw [HNO.out]; exact hlt)
              rw [HG.out, HNR.out, HNL.out] at hx
              have HS := L.part3_succ (k := k) (by rw [HNO.out]; exact hlt)
              generalize L.outs.getD k 0 = x at c0 hx HS
              have HS' := hid HS
              obtain ⟨hx0, hx1⟩ := hx
              have hkI : (k : Int) < (no : Int) := by omega
              clear HS hcc hrl h'
              go_wp2_with (go_at_call 40; (with_reducible refine (refNum_z x hx0 (by omega) (Below.refl _ _)).mono ?_); rintro e w6 ⟨t2, rfl, ht2, hts2, hb5⟩; have HT2 := hid (show bl (t ++ t2) = L.part3 (k + 1) by rw [bl_append, HT.out, ht2, HS'.out]); have HB6 := hid (HBE.out.trans (hb5.mono hszr)); clear ht2 hb5)
              go_roundw
              case rel => exact ⟨k + 1, t ++ t2, hlt, by go_num, rfl, HT2.out, HB6.out⟩
              case measure => simp [intOf]; omega
            · obtain rfl : no = k := by omega
              have EB : Hid (L.bytes = L.part3 no) := by unfold Hid LN.bytes; rw [HNO.out]
              go_wp2_with fail
              go_ret2
              exact ⟨t, rfl, by rw [EB.out]; exact HT.out, HBW2.out.trans (HBE.out.mono (by omega))⟩
end
end Go.Proofs.YtlaeflpddehipabDoor
