/- The document's Tables.Depth, walked: a map from signals to depths. -/
import Derived.Test.YtlaeflpddehipaaDoorLsFacts
import Derived.Maps.RangeWalk
import Derived.Maps.Ext
import Derived.Maps.OwnSet
import Derived.Maps.Views
set_option linter.unusedVariables false
set_option linter.unusedSimpArgs false
set_option linter.unusedSectionVars false
namespace Go.Proofs.YtlaeflpddehipaaDoor
open Go.RowKit Go.Maps
attribute [local go_sem ↓] Go.wp_at_zero Go.wp_at_succ

theorem Tryd.lsKey : Keyed Tryd.prog 3 := int_keyed Tryd.underlying3
theorem lsWf {z : Int} (h : 0 ≤ z ∧ z ≤ 1000000) : (Lit.int .i64 z).wf = true := by
  have e1 : IntKind.i64.min = -9223372036854775808 := by decide
  have e2 : IntKind.i64.max = 9223372036854775807 := by decide
  unfold Lit.wf
  simp [e1, e2]
  omega
/-- A map in memory, of numbers; what is not there is 0. -/
def DeepM (w : World) (bs n : Nat) (f : Nat → Nat) : Prop :=
  ∃ D : DataW Unit, w.ownsMap Tryd.prog 3 (plainElem Tryd.prog 3) bs n D ∧ ∀ s : Nat, D.atKey (.int .i64 (s : Int)) (.lit (.int .i64 0)) = .lit (.int .i64 (f s : Int))
theorem DeepM.stay {w w' : World} {bs n : Nat} {f : Nat → Nat} (h : DeepM w bs n f) (hb : Below w.heap.size w w') : DeepM w' bs n f := by
  obtain ⟨D, h1, h2⟩ := h
  have hlt := h1.lt
  obtain ⟨es, clock, hg, F, hs, hD⟩ := h1
  exact ⟨D, ⟨es, clock, (hb.block bs hlt).trans hg, F, hs, hD⟩, h2⟩
theorem DeepM.look {w : World} {bs n k : Nat} {f : Nat → Nat} (h : DeepM w bs n f) (hk : k ≤ 1000000) :
    (Instr.lookup 90 (.map (some bs)) (.int .i64 (k : Int)) false).run Tryd.prog w = .ok (.int .i64 (f k : Int)) w := by
  obtain ⟨D, h1, h2⟩ := h
  have hz : (zeroValue 3).run Tryd.prog w = .ok (.int .i64 0) w := by kernel_rfl
  obtain ⟨v, ps, hrun, hv⟩ := h1.lookup Tryd.lsKey Tryd.underlying90 hz (plainElem_int Tryd.underlying3 (by decide)) (keyOf_int_mk Tryd.underlying3 (lsWf ⟨by omega, by omega⟩ : (Lit.int .i64 (k : Int)).wf = true))
  rw [h2 k] at hv
  obtain ⟨a, rfl, hb, _⟩ := plainElem_int_inv Tryd.underlying3 hv
  simp only [Prod.mk.injEq, DataW.lit.injEq, Lit.int.injEq, true_and] at hb
  rw [hrun, hb.1]
theorem DeepM.put {w' : World} {bs n' k v : Nat} {f g : Nat → Nat} {D : DataW Unit} (hm : IsMap D) (h : ∀ s : Nat, D.atKey (.int .i64 (s : Int)) (.lit (.int .i64 0)) = .lit (.int .i64 (f s : Int)))
    (hown : w'.ownsMap Tryd.prog 3 (plainElem Tryd.prog 3) bs n' (D.put (.int .i64 (k : Int)) (.lit (.int .i64 (v : Int))))) (e : ∀ s, g s = if s = k then v else f s) : DeepM w' bs n' g := by
  refine ⟨_, hown, fun s => ?_⟩
  rw [e s]
  by_cases hs : s = k
  · subst hs
    rw [atKey_put_same hm (show WideAt.IsKeyLit (.int .i64 (s : Int)) from trivial), if_pos rfl]
  · have hne : (Lit.int .i64 (s : Int)) ≠ .int .i64 (k : Int) := by intro e; injection e with _ e; omega
    rw [atKey_put_other hne, if_neg hs]
    exact h s
section
variable (B : Nat) (y : Lay) (L : LN) (w : World)
set_option maxRecDepth 100000 in
set_option maxHeartbeats 6400000 in
theorem RefDepth_any (h : LnRows B w y L) (hB : B ≤ w.heap.size) (hr : L.right = true) :
    Calls Tryd.prog 20 #[.agg #[.int .i64 L.given, .slice y.ar L.regs.length y.cr, .slice y.al L.luts.length y.cl, .slice y.ao L.outs.length y.co]] w fun e w' => e = .returned (.int .i64 (L.depth : Nat)) ∧ Below w.heap.size w w' := by
  have hmm := @run_makeMap Tryd.prog
  have GD := LN.good hr
  have HI := hid (lbox B y L w h hB)
  have HB1 := hid (show Below w.heap.size w (w.alloc (.cells #[.int .i64 L.given, .slice y.ar L.regs.length y.cr, .slice y.al L.luts.length y.cl, .slice y.ao L.outs.length y.co] 58)) from (Below.refl _ _).alloc (Nat.le_refl _) _)
  have HSZ1 := hid (show (w.alloc (.cells #[.int .i64 L.given, .slice y.ar L.regs.length y.cr, .slice y.al L.luts.length y.cl, .slice y.ao L.outs.length y.co] 58)).heap.size = w.heap.size + 1 by simp)
  obtain ⟨ar, cr, al, cl, ao, co, A, C⟩ := y
  obtain ⟨nr, hNr⟩ : ∃ n, L.regs.length = n := ⟨_, rfl⟩
  obtain ⟨nl, hNl⟩ : ∃ n, L.luts.length = n := ⟨_, rfl⟩
  obtain ⟨no, hNo⟩ : ∃ n, L.outs.length = n := ⟨_, rfl⟩
  obtain ⟨gn, hg⟩ : ∃ gn : Nat, L.given = (gn : Int) := Int.eq_ofNat_of_zero_le GD.g0
  simp only at HI HB1 HSZ1 ⊢
  have z1 := GD.g1
  have z2 := GD.r1
  have z3 := GD.l1
  rw [hg] at z1
  rw [hNr] at z2
  rw [hNl] at z3
  rw [hNr, hNl, hNo, hg] at HI HB1 HSZ1 ⊢
  have HNR := hid hNr
  have HNL := hid hNl
  have HGN := hid hg
  have HGD := hid GD
  have EL : Hid (L.depth = L.depthTo nl) := by unfold Hid LN.depth; rw [hNl]
  clear h hr hNr hNl hNo hg GD
  go_enter Tryd.func20, Tryd.ntmps20
  go_upto_region 1 with fail
  generalize w.alloc (.cells #[.int .i64 (gn : Int), .slice ar nr cr, .slice al nl cl, .slice ao no co] 58) = w1 at *
  have hlt1 : w.heap.size < w1.heap.size := by have := HSZ1.out; omega
  obtain ⟨w2, hw2⟩ : ∃ w2, w1.alloc (.map #[] 0) = w2 := ⟨_, rfl⟩
  have HM0 : Hid (DeepM w2 w1.heap.size 0 (L.deepTo 0)) := ⟨.map [], by rw [← hw2]; exact World.ownsMap_made _ _ _ _, fun s => rfl⟩
  have HB2 := hid (show Below w1.heap.size w1 w2 by rw [← hw2]; exact (Below.refl _ _).alloc (Nat.le_refl _) _)
  have HI2 := hid (HI.out.stay (HB2.out.mono (by omega)))
  have x2 := HI2.out.luts
  rw [HNL.out] at x2
  simp only at x2
  have hsz2 := HB2.out.size
  go_upto_region 2 with fail
  have HB3 := hid (HB1.out.trans (HB2.out.mono (by omega)))
  clear hw2
  go_wp2_with fail
  clear x2
  go_loopw [4, 14] (fun v4 v wr => ∃ i : Nat, i ≤ nl ∧ v = .int .i64 i ∧ v4 = .int .i64 (L.depthTo i : Nat) ∧ DeepM wr w1.heap.size i (L.deepTo i) ∧ Below w1.heap.size w1 wr) (fun _ v _ => nl - (intOf v).toNat)
  case atStart => exact ⟨0, Nat.zero_le _, rfl, rfl, HM0.out, HB2.out⟩
  case round =>
    obtain ⟨i, hle, rfl, rfl, hdm, hbe⟩ := hrel
    have h' := HI.out.stay (hbe.mono (by omega))
    have HBE := hid hbe
    have hdt : L.depthTo i ≤ i := L.depthTo_le i
    by_cases hlt : i < nl
    · have hrl : Cells (w.heap.size + 1) wr al (L.luts.length * 2) (lutCell L.luts A C) := h'.rows.rl
      obtain ⟨b1, off, rfl, hb1', c0, c1⟩ := Cells.two hrl i (by rw [HNL.out]; exact hlt)
      rw [lutCell_0] at c0
      rw [lutCell_1] at c1
      have hri : Cells (w.heap.size + 1) wr (A i) (L.luts.getD i LT.zero).ins.length (fun j => .int .i64 ((L.luts.getD i LT.zero).ins.getD j 0)) := h'.rows.ri i (by rw [HNL.out]; exact hlt)
      have hli := HGD.out.four i (by rw [HNL.out]; exact hlt)
      have hins := HGD.out.ins i
      have x0 := h'.g
      have x1 := h'.regs
      rw [HGN.out] at x0
      rw [HNR.out] at x1
      simp only at x1
      have HSU : Hid (L.lutDeep i = L.mostTo (L.deepTo i) (L.luts.getD i LT.zero).ins (L.luts.getD i LT.zero).ins.length + 1) := rfl
      have HST : Hid (∀ s, L.deepTo (i + 1) s = if s = gn + nr + i then L.lutDeep i else L.deepTo i s) := fun s => by
        show (if s = L.given.toNat + L.regs.length + i then _ else _) = _
        rw [HGN.out, HNR.out, Int.toNat_natCast]
        rfl
      obtain ⟨t, ht⟩ : ∃ t, L.luts.getD i LT.zero = t := ⟨_, rfl⟩
      rw [ht] at c0 c1 hri hli hins HSU
      obtain ⟨ins, tb⟩ := t
      simp only at c0 c1 hri hli hins HSU
      obtain ⟨m, hm⟩ : ∃ m, ins.length = m := ⟨_, rfl⟩
      rw [hm] at c0 hri hli hins HSU
      rw [HNL.out, HGN.out, HNR.out] at hins
      have HINS := hid hins
      generalize A i = ai at c0 hri
      generalize C i = ci at c0
      have hiI : (i : Int) < (nl : Int) := by omega
      have hsz := hbe.size
      have hltr : w.heap.size < wr.heap.size := by omega
      have HBW := hid (show Below wr.heap.size wr (wr.alloc (.cells #[.slice ai m ci, .int .i64 tb] 83)) from (Below.refl _ _).alloc (Nat.le_refl _) _)
      have k0 : (wr.alloc (.cells #[.slice ai m ci, .int .i64 tb] 83)).cell? ⟨wr.heap.size, 0, none⟩ = some (.slice ai m ci) := (cell_new _ _ _ _).trans rfl
      have HDM2 := hid (hdm.stay HBW.out)
      have y0 := (HBW.out.cell (p := ⟨w.heap.size, 0, none⟩) hltr).trans x0
      have y1 := (HBW.out.cell (p := ⟨w.heap.size, 1, none⟩) hltr).trans x1
      have hri2 := hri.stay (HBW.out.mono (by omega))
      have HSW := hid (show (wr.alloc (.cells #[.slice ai m ci, .int .i64 tb] 83)).heap.size = wr.heap.size + 1 by simp)
      clear h' ht hm hri hrl hdm hbe hins HM0
      go_upto_region 6 with fail
      have HBE2 := hid (HBE.out.trans (HBW.out.mono hsz))
      clear c0 c1 x0 x1
      generalize wr.alloc (.cells #[.slice ai m ci, .int .i64 tb] 83) = wb at *
      go_wp2_with fail
      go_loopw [7, 22] (fun v7 v wq => wb = wq ∧ ∃ j : Nat, j ≤ m ∧ v = .int .i64 j ∧ v7 = .int .i64 ((L.mostTo (L.deepTo i) ins j + 1 : Nat) : Int)) (fun _ v _ => m - (intOf v).toNat)
      case atStart => exact ⟨rfl, 0, Nat.zero_le _, rfl, rfl⟩
      case round =>
        obtain ⟨rfl, j, hj, rfl, rfl⟩ := hrel
        by_cases hjlt : j < m
        · have hjI : (j : Int) < m := by omega
          obtain ⟨bi, oi, rfl, hbi, hci⟩ := hri2.at (by omega)
          have d0 := hci j hjlt
          obtain ⟨hx0, hx1⟩ := HINS.out j hlt hjlt
          have HMS : Hid (L.mostTo (L.deepTo i) ins (j + 1) = max (L.mostTo (L.deepTo i) ins j) (L.deepTo i (ins.getD j 0).toNat)) := rfl
          have hmb := L.mostTo_le (L.deepTo i) ins i (fun s => L.deepTo_le i s) j
          generalize ins.getD j 0 = x at d0 hx0 hx1 HMS
          obtain ⟨p, rfl⟩ := Int.eq_ofNat_of_zero_le hx0
          rw [Int.toNat_natCast] at HMS
          have e0 := HDM2.out.look (k := p) (by omega)
          have hde := L.deepTo_le i p
          generalize L.mostTo (L.deepTo i) ins j = d at *
          generalize L.deepTo i p = e at e0 HMS hde
          obtain ⟨d', hd'⟩ : ∃ z, d + 1 = z := ⟨_, rfl⟩
          rw [hd']
          clear hci
          have q1 : IntKind.i64.wrap ((e : Int) + 1) = e + 1 := wrap_fit _ (by omega) (by omega)
          by_cases hc : (d' : Int) ≤ (e : Int)
          · go_wp2_with fail
            go_roundw
            case rel => exact ⟨trivial, j + 1, by omega, by go_num, val_int (by rw [HMS.out]; omega)⟩
            case measure => simp [intOf]; omega
          · have dc : decide ((d' : Int) ≤ (e : Int)) = false := decide_eq_false hc
            go_wp2_with fail
            go_roundw
            case rel => exact ⟨trivial, j + 1, by omega, by go_num, val_int (by rw [HMS.out]; omega)⟩
            case measure => simp [intOf]; omega
        · obtain rfl : m = j := by omega
          have hmb := L.mostTo_le (L.deepTo i) ins i (fun s => L.deepTo_le i s) m
          generalize L.mostTo (L.deepTo i) ins m = d at *
          obtain ⟨d', hd'⟩ : ∃ z, d + 1 = z := ⟨_, rfl⟩
          rw [hd'] at HSU ⊢
          have q1 : IntKind.i64.wrap ((gn : Int) + (nr : Int)) = gn + nr := wrap_fit _ (by omega) (by omega)
          have q2 : IntKind.i64.wrap ((gn : Int) + (nr : Int) + (i : Int)) = gn + nr + i := wrap_fit _ (by omega) (by omega)
          obtain ⟨D, hown, hD⟩ := HDM2.out
          have HOWN := hid hown
          have HD := hid hD
          have hwb : w.heap.size < wb.heap.size := by have := HSW.out; omega
          obtain ⟨kk, hkk⟩ : ∃ z : Nat, gn + nr + i = z := ⟨_, rfl⟩
          have hkI : (gn : Int) + (nr : Int) + (i : Int) = (kk : Int) := by omega
          have q3 : IntKind.i64.wrap ((gn : Int) + (nr : Int) + (i : Int)) = kk := by rw [q2, hkI]
          clear q2 hown hD
          have hwf : (Lit.int .i64 (kk : Int)).wf = true := lsWf ⟨by omega, by omega⟩
          have hwv : (Lit.int .i64 (d' : Int)).wf = true := lsWf ⟨by omega, by omega⟩
          by_cases hc : (L.depthTo i : Int) < (d' : Int)
          · go_wp2_with (first
              | (at_mapUpdate; refine wpList_mapUpdate_own _ rfl _ _ _ 90 rfl 3 3 Tryd.lsKey Tryd.underlying90 _ w1.heap.size i D rfl HOWN.out (by unfold maxLen; omega) _ _ _ rfl rfl (keyOf_int_mk Tryd.underlying3 hwf) _ [] (plainElem_int Tryd.underlying3 hwv) ?_; intro w3 hown3 hg3; go_frame)
              | go_in)
            go_roundw
            case rel => exact ⟨i + 1, hlt, by go_num, val_int (by rw [show L.depthTo (i + 1) = max (L.depthTo i) (L.lutDeep i) from rfl, HSU.out]; omega), DeepM.put HOWN.out.isMap HD.out hown3 (fun s => by rw [HST.out, HSU.out, hkk]), HBE2.out.grown hg3 HBE2.out.size (fun j hj => by cases hj; exact Nat.le_refl _)⟩
            case measure => simp [intOf]; omega
          · have dc : decide ((L.depthTo i : Int) < (d' : Int)) = false := decide_eq_false hc
            go_wp2_with (first
              | (at_mapUpdate; refine wpList_mapUpdate_own _ rfl _ _ _ 90 rfl 3 3 Tryd.lsKey Tryd.underlying90 _ w1.heap.size i D rfl HOWN.out (by unfold maxLen; omega) _ _ _ rfl rfl (keyOf_int_mk Tryd.underlying3 hwf) _ [] (plainElem_int Tryd.underlying3 hwv) ?_; intro w3 hown3 hg3; go_frame)
              | go_in)
            go_roundw
            case rel => exact ⟨i + 1, hlt, by go_num, val_int (by rw [show L.depthTo (i + 1) = max (L.depthTo i) (L.lutDeep i) from rfl, HSU.out]; omega), DeepM.put HOWN.out.isMap HD.out hown3 (fun s => by rw [HST.out, HSU.out, hkk]), HBE2.out.grown hg3 HBE2.out.size (fun j hj => by cases hj; exact Nat.le_refl _)⟩
            case measure => simp [intOf]; omega
    · obtain rfl : nl = i := by omega
      go_wp2_with fail
      go_ret
      exact ⟨ret_int (by rw [EL.out]), HB1.out.trans (HBE.out.mono (by omega))⟩
end
end Go.Proofs.YtlaeflpddehipaaDoor
