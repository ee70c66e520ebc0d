/- How deep a net of tables lies: lut.Net.Depth, walked (written by gen_lndepth.py). -/
import Derived.Test.YtlaeflpddehipaaDoorLsFacts
import Derived.Test.YtlaeflpddehipaaDoorEnds
import Derived.Test.YtlaeflpddehipaaDoorLnRight
set_option linter.unusedVariables false
set_option linter.unusedSimpArgs false
set_option linter.unusedSectionVars false
namespace Go.Proofs.YtlaeflpddehipaaDoor
open Go.RowKit
attribute [local go_sem ↓] Go.wp_at_zero Go.wp_at_succ

theorem run_max2 {P : Program} {w : World} (ts : Array TypeId) (t : TypeId) (x y : Int) : (Builtin.max_ ts t #[.int .i64 x, .int .i64 y]).run P w = .ok (.int .i64 (max x y)) w := by
  have h1 : (if y > x then y else x) = max x y := by omega
  simp [Builtin.max_, Builtin.max2]
  omega
attribute [local go_sem] run_max2
theorem belowDrewN (w : World) (q : Nat) : Below w.heap.size w (w.drewN q) := (show Says true w (.returned (.bool true)) (w.drewN q) from ⟨rfl, q, rfl⟩).below.2
set_option maxRecDepth 100000 in
set_option maxHeartbeats 6400000 in
theorem LnDepth_any (B b : Nat) (y : Lay) (L : LN) (w : World) (h : LnIn B w b y L) (hB : B ≤ w.heap.size) (hr : L.right = true) :
    Calls Tryd.prog 19 #[.pointer (some ⟨b, 0, none⟩)] w fun e w' => e = .returned (.int .i64 (L.depth : Nat)) ∧ Below w.heap.size w w' := by
  have GD := LN.good hr
  have hz : L.sizes = true := by
    unfold LN.right at hr
    simp only [Bool.and_eq_true] at hr
    exact hr.1.1.1
  have HZ := hid hz
  have H := hid h
  obtain ⟨gn, hg⟩ : ∃ gn : Nat, L.given = (gn : Int) := Int.eq_ofNat_of_zero_le GD.g0
  obtain ⟨nr, hNr⟩ : ∃ n, L.regs.length = n := ⟨_, rfl⟩
  obtain ⟨nl, hNl⟩ : ∃ n, L.luts.length = n := ⟨_, rfl⟩
  have z1 := GD.g1
  have z2 := GD.r1
  have z3 := GD.l1
  rw [hg] at z1
  rw [hNr] at z2
  rw [hNl] at z3
  have HGN := hid hg
  have HNR := hid hNr
  have HNL := hid hNl
  have HGD := hid GD
  have HSG : Hid (L.signals = ((gn + nr + nl : Nat) : Int)) := by unfold Hid LN.signals; rw [hg, hNr, hNl]; omega
  obtain ⟨sg, hsg⟩ : ∃ n, gn + nr + nl = n := ⟨_, rfl⟩
  rw [hsg] at HSG
  have hmk := Tryd.make_ints sg (by omega)
  have hbw := Nat.lt_of_lt_of_le h.hb hB
  have EL : Hid (L.depth = L.depthTo nl) := by unfold Hid LN.depth; rw [hNl]
  clear h hr hz hg hNr hNl GD
  go_enter Tryd.func19, Tryd.ntmps19
  go_upto_region 2 with (go_at_call 30; (with_reducible refine (signals_any B b y L w H.out HZ.out).mono ?_); rintro e w1 ⟨rfl, q, rfl⟩; rw [HSG.out])
  have HI0 := hid (show IRow ((w.drewN q).alloc (.cells (nums (fun _ => 0) sg) 3)) w.heap.size sg (L.deepTo 0) from by unfold IRow; have h := alloc_at (w.drewN q) (.cells (nums (fun _ => 0) sg) 3); rw [show (w.drewN q).heap.size = w.heap.size by simp] at h; exact h)
  have HB1 := hid (show Below w.heap.size w ((w.drewN q).alloc (.cells (nums (fun _ => 0) sg) 3)) from (belowDrewN w q).alloc (by simp) _)
  have hsz1 : ((w.drewN q).alloc (.cells (nums (fun _ => 0) sg) 3)).heap.size = w.heap.size + 1 := by simp
  (try rw [show (w.drewN q).heap.size = w.heap.size by simp])
  clear hmk
  generalize (w.drewN q).alloc (.cells (nums (fun _ => 0) sg) 3) = w1 at *
  have x2 := (H.out.stay (HB1.out.mono hB)).luts
  rw [HNL.out] at x2
  have hb1 : b < w1.heap.size := by omega
  go_wp2_with fail
  clear x2
  go_loopw [4, 18] (fun v4 v wr => ∃ i : Nat, i ≤ nl ∧ v = .int .i64 i ∧ v4 = .int .i64 (L.depthTo i : Nat) ∧ IRow wr w.heap.size sg (L.deepTo i) ∧ Below w.heap.size w wr) (fun _ v _ => nl - (intOf v).toNat)
  case atStart => exact ⟨0, Nat.zero_le _, rfl, rfl, HI0.out, HB1.out⟩
  case round =>
    obtain ⟨i, hle, rfl, rfl, hrow, hbe⟩ := hrel
    have h' := H.out.stay (hbe.mono hB)
    have HROW := hid hrow
    have HBE := hid hbe
    have hdt : L.depthTo i ≤ i := L.depthTo_le i
    by_cases hlt : i < nl
    · have hrl := h'.rows.rl
      obtain ⟨b1, off, har, hb1', c0, c1⟩ := Cells.two hrl i (by rw [HNL.out]; exact hlt)
      rw [lutCell_0] at c0
      rw [lutCell_1] at c1
      rw [har]
      have hri := h'.rows.ri i (by rw [HNL.out]; exact hlt)
      have hli := HGD.out.four i (by rw [HNL.out]; exact hlt)
      have hins := HGD.out.ins i
      have x0 := h'.g
      have x1 := h'.regs
      rw [HGN.out] at x0
      rw [HNR.out] at x1
      have HSU : Hid (L.lutDeep i = L.mostTo (L.deepTo i) (L.luts.getD i LT.zero).ins (L.luts.getD i LT.zero).ins.length + 1) := rfl
      have HST : Hid (∀ s, L.deepTo (i + 1) s = if s = gn + nr + i then L.lutDeep i else L.deepTo i s) := fun s => by
        show (if s = L.given.toNat + L.regs.length + i then _ else _) = _
        rw [HGN.out, HNR.out, Int.toNat_natCast]
        rfl
      have hln : (L.luts.getD i LT.zero).ins.length ≤ 4 := hli
      obtain ⟨t, ht⟩ : ∃ t, L.luts.getD i LT.zero = t := ⟨_, rfl⟩
      rw [ht] at c0 c1 hri hli hins HSU
      obtain ⟨ins, tb⟩ := t
      simp only at c0 c1 hri hli hins HSU
      obtain ⟨m, hm⟩ : ∃ m, ins.length = m := ⟨_, rfl⟩
      rw [hm] at c0 hri hli hins HSU
      rw [HNL.out, HGN.out, HNR.out] at hins
      have HINS := hid hins
      generalize y.A i = ai at c0 hri
      generalize y.C i = ci at c0
      have hiI : (i : Int) < (nl : Int) := by omega
      have hsz := hbe.size
      have hltr : b < wr.heap.size := by omega
      have hwr : w.heap.size < wr.heap.size := boxLt hrow
      have HBW := hid (show Below wr.heap.size wr (wr.alloc (.cells #[.slice ai m ci, .int .i64 tb] 82)) from (Below.refl _ _).alloc (Nat.le_refl _) _)
      have k0 : (wr.alloc (.cells #[.slice ai m ci, .int .i64 tb] 82)).cell? ⟨wr.heap.size, 0, none⟩ = some (.slice ai m ci) := (cell_new _ _ _ _).trans rfl
      have HROW2 : Hid (IRow (wr.alloc (.cells #[.slice ai m ci, .int .i64 tb] 82)) w.heap.size sg (L.deepTo i)) := (HBW.out.block _ hwr).trans hrow
      have y0 := (HBW.out.cell (p := ⟨b, 0, none⟩) hltr).trans x0
      have y1 := (HBW.out.cell (p := ⟨b, 1, none⟩) hltr).trans x1
      have hri2 := hri.stay (HBW.out.mono (Nat.le_trans hB hsz))
      have HSW := hid (show (wr.alloc (.cells #[.slice ai m ci, .int .i64 tb] 82)).heap.size = wr.heap.size + 1 by simp)
      clear h' ht hm hri hrl hrow hbe hins HI0
      go_upto_region 6 with fail
      have HBE2 := hid (HBE.out.trans (HBW.out.mono hsz))
      clear c0 c1 x0 x1
      generalize wr.alloc (.cells #[.slice ai m ci, .int .i64 tb] 82) = wb at *
      go_wp2_with fail
      go_loopw [7, 26] (fun v7 v wq => wb = wq ∧ ∃ j : Nat, j ≤ m ∧ v = .int .i64 j ∧ v7 = .int .i64 (L.mostTo (L.deepTo i) ins j : Nat)) (fun _ v _ => m - (intOf v).toNat)
      case atStart => exact ⟨rfl, 0, Nat.zero_le _, rfl, rfl⟩
      case round =>
        obtain ⟨rfl, j, hj, rfl, rfl⟩ := hrel
        by_cases hjlt : j < m
        · have hjI : (j : Int) < m := by omega
          obtain ⟨bi, oi, rfl, hbi, hci⟩ := hri2.at (by omega)
          have d0 := hci j hjlt
          obtain ⟨hx0, hx1⟩ := HINS.out j hlt hjlt
          have HMS : Hid (L.mostTo (L.deepTo i) ins (j + 1) = max (L.mostTo (L.deepTo i) ins j) (L.deepTo i (ins.getD j 0).toNat)) := rfl
          generalize ins.getD j 0 = x at d0 hx0 hx1 HMS
          obtain ⟨p, rfl⟩ := Int.eq_ofNat_of_zero_le hx0
          rw [Int.toNat_natCast] at HMS
          have hpI : (p : Int) < (sg : Int) := by omega
          have e0 := HROW2.out.cell p (by omega)
          generalize L.mostTo (L.deepTo i) ins j = d at *
          generalize L.deepTo i p = e at e0 HMS
          clear hci
          go_wp2_with fail
          go_roundw
          case rel => exact ⟨trivial, j + 1, by omega, by go_num, val_int (by rw [HMS.out]; omega)⟩
          case measure => simp [intOf]; omega
        · obtain rfl : m = j := by omega
          have hmb := L.mostTo_le (L.deepTo i) ins i (fun s => L.deepTo_le i s) m
          generalize L.mostTo (L.deepTo i) ins m = d at *
          have q1 : IntKind.i64.wrap ((gn : Int) + (nr : Int)) = gn + nr := wrap_fit _ (by omega) (by omega)
          have q2 : IntKind.i64.wrap ((gn : Int) + (nr : Int) + (i : Int)) = gn + nr + i := wrap_fit _ (by omega) (by omega)
          have q3 : IntKind.i64.wrap ((d : Int) + 1) = d + 1 := wrap_fit _ (by omega) (by omega)
          have p0 : (0 : Int) ≤ (gn : Int) + (nr : Int) + (i : Int) := by omega
          have p1 : (gn : Int) + (nr : Int) + (i : Int) < (sg : Int) := by omega
          have p2 : ((gn : Int) + (nr : Int) + (i : Int)).toNat = gn + nr + i := by omega
          have f0 := HROW2.out.cell (gn + nr + i) (by omega)
          have f1 := free_block HROW2.out
          have hwb : w.heap.size < wb.heap.size := boxLt HROW2.out
          have hbb : b < wb.heap.size := by have := HSW.out; omega
          go_upto_region 12 with fail
          refine wpEnds.begin (fun w' => w'.cell? ⟨b, 0, none⟩ = some (.int .i64 gn) ∧ w'.cell? ⟨b, 1, none⟩ = some (.slice y.ar nr y.cr)) 16 (by kernel_rfl) ⟨y0, y1⟩ (fun hHeld => ?_)
          refine wpEnds.take 0 17 (v := ?va0) rfl (by kernel_rfl) (by kernel_rfl) (by kernel_rfl) (by kernel_rfl) (by kernel_rfl) (fun _ _ _ h => h) (by rfl) hHeld (fun w' hSw => ?hya0) ?resta0
          case hya0 => ((try dsimp only at hSw); go_simp; try with_reducible rfl)
          case resta0 =>
          (try simp only [Act.put, List.setIfInBounds_toArray, List.set_cons_zero, List.set_cons_succ])
          refine wpEnds.take 1 17 (v := ?va1) rfl (by kernel_rfl) (by kernel_rfl) (by kernel_rfl) (by kernel_rfl) (by kernel_rfl) (fun _ _ _ h => h) (by rfl) hHeld (fun w' hSw => ?hya1) ?resta1
          case hya1 => ((try dsimp only at hSw); go_simp; try with_reducible rfl)
          case resta1 =>
          (try simp only [Act.put, List.setIfInBounds_toArray, List.set_cons_zero, List.set_cons_succ])
          refine wpEnds.take 2 17 (v := ?va2) rfl (by kernel_rfl) (by kernel_rfl) (by kernel_rfl) (by kernel_rfl) (by kernel_rfl) (fun _ _ _ h => h) (by rfl) hHeld (fun w' hSw => ?hya2) ?resta2
          case hya2 => ((try dsimp only at hSw); go_simp; try with_reducible rfl)
          case resta2 =>
          (try simp only [Act.put, List.setIfInBounds_toArray, List.set_cons_zero, List.set_cons_succ])
          refine wpEnds.take 3 17 (v := ?va3) rfl (by kernel_rfl) (by kernel_rfl) (by kernel_rfl) (by kernel_rfl) (by kernel_rfl) (fun _ _ _ h => h) (by rfl) hHeld (fun w' hSw => ?hya3) ?resta3
          case hya3 => ((try dsimp only at hSw); go_simp; try with_reducible rfl)
          case resta3 =>
          (try simp only [Act.put, List.setIfInBounds_toArray, List.set_cons_zero, List.set_cons_succ])
          refine wpEnds.take 4 17 (v := ?va4) rfl (by kernel_rfl) (by kernel_rfl) (by kernel_rfl) (by kernel_rfl) (by kernel_rfl) (fun _ _ _ h => h) (by rfl) hHeld (fun w' hSw => ?hya4) ?resta4
          case hya4 => ((try dsimp only at hSw); go_simp; try with_reducible rfl)
          case resta4 =>
          (try simp only [Act.put, List.setIfInBounds_toArray, List.set_cons_zero, List.set_cons_succ])
          refine wpEnds.take 5 17 (v := ?va5) rfl (by kernel_rfl) (by kernel_rfl) (by kernel_rfl) (by kernel_rfl) (by kernel_rfl) (fun _ _ _ h => h) (by rfl) hHeld (fun w' hSw => ?hya5) ?resta5
          case hya5 => ((try dsimp only at hSw); go_simp; try with_reducible rfl)
          case resta5 =>
          (try simp only [Act.put, List.setIfInBounds_toArray, List.set_cons_zero, List.set_cons_succ])
          refine wpEnds.take 6 17 (v := ?va6) rfl (by kernel_rfl) (by kernel_rfl) (by kernel_rfl) (by kernel_rfl) (by kernel_rfl) (fun _ _ _ h => h) (by rfl) hHeld (fun w' hSw => ?hya6) ?resta6
          case hya6 => ((try dsimp only at hSw); go_simp; try with_reducible rfl)
          case resta6 =>
          (try simp only [Act.put, List.setIfInBounds_toArray, List.set_cons_zero, List.set_cons_succ])
          refine wpEnds.take 7 17 (v := ?va7) rfl (by kernel_rfl) (by kernel_rfl) (by kernel_rfl) (by kernel_rfl) (by kernel_rfl) (fun _ _ _ h => h) (by rfl) hHeld (fun w' hSw => ?hya7) ?resta7
          case hya7 => ((try dsimp only at hSw); go_simp; try with_reducible rfl)
          case resta7 =>
          (try simp only [Act.put, List.setIfInBounds_toArray, List.set_cons_zero, List.set_cons_succ])
          refine wpEnds.take 8 17 (v := ?va8) rfl (by kernel_rfl) (by kernel_rfl) (by kernel_rfl) (by kernel_rfl) (by kernel_rfl) (fun _ _ _ h => h) (by rfl) hHeld (fun w' hSw => ?hya8) ?resta8
          case hya8 => ((try dsimp only at hSw); go_simp; try with_reducible rfl)
          case resta8 =>
          (try simp only [Act.put, List.setIfInBounds_toArray, List.set_cons_zero, List.set_cons_succ])
          refine wpEnds.take 9 17 (v := ?va9) rfl (by kernel_rfl) (by kernel_rfl) (by kernel_rfl) (by kernel_rfl) (by kernel_rfl) (fun _ _ _ h => h) (by rfl) hHeld (fun w' hSw => ?hya9) ?resta9
          case hya9 => ((try dsimp only at hSw); go_simp; try with_reducible rfl)
          case resta9 =>
          (try simp only [Act.put, List.setIfInBounds_toArray, List.set_cons_zero, List.set_cons_succ])
          refine wpEnds.take 10 17 (v := ?va10) rfl (by kernel_rfl) (by kernel_rfl) (by kernel_rfl) (by kernel_rfl) (by kernel_rfl) (fun _ _ _ h => h) (by rfl) hHeld (fun w' hSw => ?hya10) ?resta10
          case hya10 => ((try dsimp only at hSw); go_simp; try with_reducible rfl)
          case resta10 =>
          (try simp only [Act.put, List.setIfInBounds_toArray, List.set_cons_zero, List.set_cons_succ])
          refine wpEnds.take 11 17 (v := ?va11) rfl (by kernel_rfl) (by kernel_rfl) (by kernel_rfl) (by kernel_rfl) (by kernel_rfl) (fun _ _ _ h => h) (by rfl) hHeld (fun w' hSw => ?hya11) ?resta11
          case hya11 => ((try dsimp only at hSw); go_simp; try with_reducible rfl)
          case resta11 =>
          (try simp only [Act.put, List.setIfInBounds_toArray, List.set_cons_zero, List.set_cons_succ])
          refine wpEnds.take 12 17 (v := ?va12) rfl (by kernel_rfl) (by kernel_rfl) (by kernel_rfl) (by kernel_rfl) (by kernel_rfl) (fun _ _ _ h => h) (by rfl) hHeld (fun w' hSw => ?hya12) ?resta12
          case hya12 => ((try dsimp only at hSw); go_simp; try with_reducible rfl)
          case resta12 =>
          (try simp only [Act.put, List.setIfInBounds_toArray, List.set_cons_zero, List.set_cons_succ])
          refine wpEnds.take 13 17 (v := ?va13) rfl (by kernel_rfl) (by kernel_rfl) (by kernel_rfl) (by kernel_rfl) (by kernel_rfl) (fun _ _ _ h => h) (by rfl) hHeld (fun w' hSw => ?hya13) ?resta13
          case hya13 => ((try dsimp only at hSw); go_simp; try with_reducible rfl)
          case resta13 =>
          (try simp only [Act.put, List.setIfInBounds_toArray, List.set_cons_zero, List.set_cons_succ])
          refine wpEnds.take 14 17 (v := ?va14) rfl (by kernel_rfl) (by kernel_rfl) (by kernel_rfl) (by kernel_rfl) (by kernel_rfl) (fun _ _ _ h => h) (by rfl) hHeld (fun w' hSw => ?hya14) ?resta14
          case hya14 => ((try dsimp only at hSw); go_simp; try with_reducible rfl)
          case resta14 =>
          (try simp only [Act.put, List.setIfInBounds_toArray, List.set_cons_zero, List.set_cons_succ])
          refine wpEnds.take 15 17 (v := ?va15) rfl (by kernel_rfl) (by kernel_rfl) (by kernel_rfl) (by kernel_rfl) (by kernel_rfl) (fun _ _ _ h => h) (by rfl) hHeld (fun w' hSw => ?hya15) ?resta15
          case hya15 => ((try dsimp only at hSw); go_simp; try with_reducible rfl)
          case resta15 =>
          (try simp only [Act.put, List.setIfInBounds_toArray, List.set_cons_zero, List.set_cons_succ])
          refine wpEnds.last 16 (by kernel_rfl) (by kernel_rfl) rfl (fun K hK => ?_)
          go_simp
          refine hK.out _ _ ?_
          clear hK K
          (try simp only [Act.put, List.setIfInBounds_toArray, List.set_cons_zero, List.set_cons_succ])
          go_wp2_with fail
          go_roundw
          case rel => exact ⟨i + 1, hlt, by go_num, val_int (by rw [show L.depthTo (i + 1) = max (L.depthTo i) (L.lutDeep i) from rfl, HSU.out]; split <;> omega), HROW2.out.set (gn + nr + i) (d + 1) (by omega) (fun s hs => by rw [HST.out, HSU.out]), (HBE2.out.setCell (Nat.le_refl _) _).drew⟩
          case measure => simp [intOf]; omega
    · obtain rfl : nl = i := by omega
      go_wp2_with fail
      go_ret
      exact ⟨ret_int (by rw [EL.out]), hbe⟩
end Go.Proofs.YtlaeflpddehipaaDoor
