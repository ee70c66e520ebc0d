/- A simulator of tables does a cycle: lut.Sim.Step, walked. -/
import Derived.Test.YtlaeflpddehipabLsRegs
import Derived.Test.YtlaeflpddehipabLsFacts
import Derived.Test.YtlaeflpddehipabRefLnStep
set_option linter.unusedVariables false
set_option linter.unusedSimpArgs false
set_option linter.unusedSectionVars false
namespace Go.Proofs.Ytlaeflpddehipab
open Go.RowKit
attribute [local go_sem ↓] Go.wp_at_zero Go.wp_at_succ

theorem Try.make_cap (n : Nat) (hn : n ≤ 1000000) (u : World) : (Instr.makeSlice 36 (.int .i64 0) (.int .i64 (n : Int))).run Try.prog u = .ok (.slice (some ⟨u.heap.size, 0, none⟩) 0 n) (u.alloc (.cells (bools (List.replicate n false)) 4)) := by
  obtain ⟨i0, hi, hz0, hz1, hz2⟩ := info_parts Try.lsBool
  have h := run_make (P := Try.prog) u 36 4 i0 (.bool false) Try.underlying36 hi hz0 .i64 .i64 0 (n : Int) (by omega) (by omega) (by rw [hz2]; omega) (by omega)
  have e : madeCells #[Value.bool false] n = bools (List.replicate n false) := by
    apply Array.ext'
    rw [toList_madeCells_one]
    simp [bools]
  rw [Int.toNat_natCast] at h
  rw [h, hz1]
  simp [Value.cells, e]
theorem capRow (u : World) (n base : Nat) (hn : n ≤ 1000000) (hb : base ≤ u.heap.size) : (u.alloc (.cells (bools (List.replicate n false)) 4)).ownsRow base 4 1 (.slice (some ⟨u.heap.size, 0, none⟩) 0 n) 0 [] :=
  ⟨rfl, .inr ⟨u.heap.size, n, _, rfl, hb, alloc_at _ _, Nat.zero_le _, by unfold maxLen; omega, by simp [bools], rfl⟩⟩
theorem rowOwn {w : World} {g base n : Nat} {l : List Bool} (h : Row w g l) (hb : base ≤ g) (hl : l.length = n) (hn : n ≤ 1000000) : w.ownsRow base 4 1 (.slice (some ⟨g, 0, none⟩) n n) n (l.map .bool) :=
  ⟨by simp [hl], .inr ⟨g, n, _, rfl, hb, h, Nat.le_refl _, by unfold maxLen; omega, by simp [bools, hl], by simp [bools, hl, List.take_of_length_le]⟩⟩
theorem orBit (j a : Nat) (hj : j < 4) (ha : a < 2 ^ j) : bits BinOp.or IntKind.i64 (a : Int) (wrap64 (2 ^ j)) = ((a + 2 ^ j : Nat) : Int) := by
  have key : ∀ j : Nat, j < 4 → ∀ a : Nat, a < 8 → a < 2 ^ j → bits BinOp.or IntKind.i64 (a : Int) (wrap64 (2 ^ j)) = ((a + 2 ^ j : Nat) : Int) := by decide +kernel
  refine key j hj a ?_ ha
  have := Nat.pow_le_pow_right (n := 2) (by omega) (show j ≤ 3 by omega)
  omega
theorem shiftBit (tn k : Nat) : (bits BinOp.and IntKind.i64 ((tn : Int) / 2 ^ k) 1 == 1) = (((tn / 2 ^ k : Nat) : Int) % 2 == 1) := by
  have h := and_mask ((tn : Int) / 2 ^ k) 1 (by omega)
  have e : ((2 : Int) ^ 1 - 1) = 1 := by decide
  rw [e] at h
  rw [h]
  push_cast
  rfl
section
variable (B C s b : Nat) (y : Lay) (L : LN) (w : World) (regs given : List Bool) (ag : Option Addr) (cg : Nat)
set_option maxRecDepth 100000 in
set_option maxHeartbeats 12800000 in
theorem LsStep_wide (h : LnIn B w b y L) (hB : B ≤ C) (hC : C ≤ w.heap.size) (hs : LSim C w s b regs) (hr : L.right = true) (hrl : regs.length = L.regs.length)
    (hgv : Cells w.heap.size w ag given.length (fun j => .bool (given.getD j false))) (hgl0 : given.length ≤ maxLen) :
    Calls Try.prog 8 #[.pointer (some ⟨s, 0, none⟩), .slice ag given.length cg] w fun e w' =>
      ∃ v, e = .returned v ∧ w'.ownsRow w.heap.size 4 1 v L.outs.length ((L.outV regs given).map .bool) ∧ LSim C w' s b (L.next regs given) ∧ w.grownBy w' (some s) := by
  have hgl : given.length ≤ 9223372036854775807 := hgl0
  clear hgl0
  obtain ⟨i0, hi, hz0, hz1, hz2⟩ := info_parts Try.lsBool
  have GD := LN.good hr
  have hz : L.sizes = true := by
    unfold LN.right at hr
    simp only [Bool.and_eq_true] at hr
    exact hr.1.1.1
  have HZ := hid hz
  have HI := hid h
  have HGV := hid hgv
  have HRL := hid hrl
  have hBw : B ≤ w.heap.size := Nat.le_trans hB hC
  obtain ⟨ar, cr, al, cl, ao, co, A, C'⟩ := y
  obtain ⟨nr, hNr⟩ : ∃ n, L.regs.length = n := ⟨_, rfl⟩
  obtain ⟨nl, hNl⟩ : ∃ n, L.luts.length = n := ⟨_, rfl⟩
  obtain ⟨no, hNo⟩ : ∃ n, L.outs.length = n := ⟨_, rfl⟩
  obtain ⟨gn, hg⟩ : ∃ gn : Nat, L.given = (gn : Int) := Int.eq_ofNat_of_zero_le GD.g0
  obtain ⟨ng, hNg⟩ : ∃ n, given.length = n := ⟨_, rfl⟩
  have hrr : regs.length = nr := by omega
  have z1 := GD.g1
  have z2 := GD.r1
  have z3 := GD.l1
  have z4 := GD.o1
  rw [hg] at z1
  rw [hNr] at z2
  rw [hNl] at z3
  rw [hNo] at z4
  rw [hNg] at hgl
  obtain ⟨aR, cR, hCs, hbox, hown0⟩ := hs
  rw [hrr] at hbox hown0
  have HBOX := hid hbox
  have HOR := hid hown0
  have s0 : w.cell? ⟨s, 0, none⟩ = some (.pointer (some ⟨b, 0, none⟩)) := (cell_block hbox 0).trans rfl
  have s1 : w.cell? ⟨s, 1, none⟩ = some (.slice aR nr cR) := (cell_block hbox 1).trans rfl
  have hsw := boxLt hbox
  have hbw : b < w.heap.size := Nat.lt_of_lt_of_le h.hb hBw
  have hbs : b < C := Nat.lt_of_lt_of_le h.hb hB
  rw [hNg] at HGV
  rw [hNo, hNg]
  have HNR := hid hNr
  have HNL := hid hNl
  have HNO := hid hNo
  have HGN := hid hg
  have HNG := hid hNg
  have HRR := hid hrr
  have HGD := hid GD
  have HSG : Hid (L.signals = ((gn + nr + nl : Nat) : Int)) := by unfold Hid LN.signals; rw [hg, hNr, hNl]; omega
  obtain ⟨sg, hsg⟩ : ∃ n, gn + nr + nl = n := ⟨_, rfl⟩
  rw [hsg] at HSG
  have hsgb : sg ≤ 1000000 := by omega
  clear hsg
  have hmk := Try.make_cap sg hsgb
  have HV0 : Hid (L.valsTo regs given 0 = L.bitsIn given gn ++ regs) := by unfold Hid; rw [show L.valsTo regs given 0 = L.bitsIn given L.given.toNat ++ regs from rfl, hg, Int.toNat_natCast]
  have HVALS : Hid (L.vals regs given = L.valsTo regs given nl) := by unfold Hid LN.vals; rw [hNl]
  clear h hr hNr hNl hNo hg hNg hrr hrl hgv GD hz hbox hown0
  go_enter Try.func8, Try.ntmps8
  go_upto_region 2 with (go_at_call 16; (with_reducible refine (signals_any B b _ L w HI.out HZ.out).mono ?_); rintro e w1 ⟨rfl, q, rfl⟩; rw [HSG.out])
  have HO0 := hid (capRow (w.drewN q) sg w.heap.size hsgb (by simp))
  have HB1 := hid (show Below w.heap.size w ((w.drewN q).alloc (.cells (bools (List.replicate sg false)) 4)) from (below_drewN (Below.refl _ _) q).alloc (by simp) _)
  have hsz1 : ((w.drewN q).alloc (.cells (bools (List.replicate sg false)) 4)).heap.size = w.heap.size + 1 := by simp
  have hdq : (w.drewN q).heap.size = w.heap.size := by simp
  rw [hdq] at HO0
  (try rw [hdq])
  clear hmk hdq
  generalize (w.drewN q).alloc (.cells (bools (List.replicate sg false)) 4) = w1 at *
  have t0 := (HB1.out.cell (p := ⟨s, 0, none⟩) hsw).trans s0
  have x0 := (HI.out.stay (HB1.out.mono hBw)).g
  rw [HGN.out] at x0
  have hs1 : s < w1.heap.size := by omega
  have hb1 : b < w1.heap.size := by omega
  clear s0 s1
  go_wp2_with fail
  clear t0 x0
  go_loopw [5, 31] (fun v5 v wr => ∃ k : Nat, k ≤ gn ∧ v = .int .i64 k ∧ wr.ownsRow w.heap.size 4 1 v5 k ((L.bitsIn given k).map .bool) ∧ Below w.heap.size w wr) (fun _ v _ => gn - (intOf v).toNat)
  case atStart => exact ⟨0, Nat.zero_le _, rfl, HO0.out, HB1.out⟩
  case round =>
    obtain ⟨k, hk, rfl, hown, hbe⟩ := hrel
    have HO := hid hown
    have HB := hid hbe
    have hsz := hbe.size
    clear hown
    by_cases hlt : k < gn
    · have hkI : (k : Int) < (gn : Int) := by omega
      have hk0 : (0 : Int) ≤ k := by omega
      have HSN := hid (L.bitsIn_succ given k)
      by_cases hkg : k < ng
      · have hkgI : (k : Int) < (ng : Int) := by omega
        obtain ⟨bg, og, rfl, hbg, hcg⟩ := (HGV.out.stay hbe).at (by omega)
        have c0 := hcg k hkg
        generalize given.getD k false = x at c0 HSN
        clear hcg hbe
        go_wp2_with (at_builtin; refine wpList_push _ w wr rfl _ _ 36 rfl 4 i0 (.bool false) 1 1 Try.underlying36 hi hz0 hz1 hz2 rfl (by decide) w.heap.size _ _ _ rfl HO.out 1 1 _ rfl rfl rfl rfl ?c3 ?c4 HB.out (Nat.le_refl _) hsz ?_)
        case c3 => unfold maxLen; omega
        case c4 => omega
        intro v' w3 hown3 hbel3 _ _
        have HO3 := hid hown3
        have HB3 := hid hbel3
        clear hown3 hbel3 HO HB
        go_wp2
        go_roundw
        case rel => exact ⟨k + 1, by omega, by go_num, bitSnoc HO3.out HSN.out, HB3.out⟩
        case measure => simp [intOf]; omega
      · have dk : decide ((k : Int) < (ng : Int)) = false := decide_eq_false (by omega)
        have hx : given.getD k false = false := by have := HNG.out; simp [List.getD_eq_getElem?_getD]; rw [List.getElem?_eq_none (by omega)]; rfl
        rw [hx] at HSN
        clear hbe hx
        go_wp2_with (at_builtin; refine wpList_push _ w wr rfl _ _ 36 rfl 4 i0 (.bool false) 1 1 Try.underlying36 hi hz0 hz1 hz2 rfl (by decide) w.heap.size _ _ _ rfl HO.out 1 1 _ rfl rfl rfl rfl ?c3 ?c4 HB.out (Nat.le_refl _) hsz ?_)
        case c3 => unfold maxLen; omega
        case c4 => omega
        intro v' w3 hown3 hbel3 _ _
        have HO3 := hid hown3
        have HB3 := hid hbel3
        clear hown3 hbel3 HO HB
        go_wp2
        go_roundw
        case rel => exact ⟨k + 1, by omega, by go_num, bitSnoc HO3.out HSN.out, HB3.out⟩
        case measure => simp [intOf]; omega
    · obtain rfl : gn = k := by omega
      have hmr := (hbe.block s hsw).trans HBOX.out
      have t1 : wr.cell? ⟨s, 1, none⟩ = some (.slice aR nr cR) := (cell_block hmr 1).trans rfl
      have HRW := hid (rowOld HOR.out hbe)
      have HNEW := hid (bitsNews2 (bits_cells HRW.out) HRR.out)
      have hsr : s < wr.heap.size := boxLt hmr
      clear hmr hbe
      go_upto_region 8 with (at_builtin; refine wpSrc _ rfl _ _ 36 rfl w.heap.size 4 i0 _ 1 1 Try.underlying36 hi hz0 hz1 hz2 rfl (by decide) _ gn _ rfl HO.out aR nr cR (regs.map .bool) rfl (ownsNil HRW.out) (by simpa using HRR.out) HNEW.out (bools_one _) ?_ ?_ ?_ ?_; (focus (unfold maxLen; omega)); (focus omega); (focus omega); intro av2 cv2 w3 HP hown hg; have HO3 := hid hown.out; have HB3 := hid (HB.out.grown hg.out hsz (fun k hk => (HP.out.lt k hk).1)); clear HP hown hg)
      rw [← List.map_append, ← HV0.out] at HO3
      have hsz3 := HB3.out.size
      have x2 := (HI.out.stay (HB3.out.mono hBw)).luts
      rw [HNL.out] at x2
      simp only at x2
      have t0 : w3.cell? ⟨s, 0, none⟩ = some (.pointer (some ⟨b, 0, none⟩)) := (cell_block ((HB3.out.block s hsw).trans HBOX.out) 0).trans rfl
      have hs3 : s < w3.heap.size := by omega
      have hb3 : b < w3.heap.size := by omega
      clear HO HB hsz HNEW t1 HRW
      go_wp2_with fail
      clear x2 t0
      go_loopw [5, 62] (fun v5 v wr => ∃ i : Nat, i ≤ nl ∧ v = .int .i64 i ∧ wr.ownsRow w.heap.size 4 1 v5 (gn + nr + i) ((L.valsTo regs given i).map .bool) ∧ Below w.heap.size w wr) (fun _ v _ => nl - (intOf v).toNat)
      case atStart => exact ⟨0, Nat.zero_le _, rfl, HO3.out, HB3.out⟩
      case round =>
        obtain ⟨i, hle, rfl, hown, hbe⟩ := hrel
        have HO := hid hown
        have HB := hid hbe
        have hsz := hbe.size
        have h' := HI.out.stay (hbe.mono hBw)
        by_cases hlt : i < nl
        · have hrl : Cells B wr al (L.luts.length * 2) (lutCell L.luts A C') := h'.rows.rl
          obtain ⟨b1, off, rfl, hb1', c0, c1⟩ := Cells.two hrl i (by rw [HNL.out]; exact hlt)
          rw [lutCell_0] at c0
          rw [lutCell_1] at c1
          have hri : Cells B wr (A i) (L.luts.getD i LT.zero).ins.length (fun j => .int .i64 ((L.luts.getD i LT.zero).ins.getD j 0)) := h'.rows.ri i (by rw [HNL.out]; exact hlt)
          have hli := HGD.out.four i (by rw [HNL.out]; exact hlt)
          have ht0 := HGD.out.tab0 i (by rw [HNL.out]; exact hlt)
          have ht1 := HGD.out.tab1 i (by rw [HNL.out]; exact hlt)
          have hins := HGD.out.ins i
          have hsn : L.valsTo regs given (i + 1) = L.valsTo regs given i ++ [lutBit (L.luts.getD i LT.zero) (L.valsTo regs given i)] := rfl
          obtain ⟨t, ht⟩ : ∃ t, L.luts.getD i LT.zero = t := ⟨_, rfl⟩
          rw [ht] at c0 c1 hri hli hins hsn ht0 ht1
          obtain ⟨ins, tb⟩ := t
          simp only at c0 c1 hri hli hins ht0 ht1
          obtain ⟨tn, rfl⟩ := Int.eq_ofNat_of_zero_le ht0
          rw [lutBit_nat] at hsn
          obtain ⟨m, hm⟩ : ∃ m, ins.length = m := ⟨_, rfl⟩
          rw [hm] at c0 hri hli hins hsn
          rw [HNL.out, HGN.out, HNR.out] at hins
          have HINS := hid hins
          have HSN := hid hsn
          generalize A i = ai at c0 hri
          generalize C' i = ci at c0
          have hiI : (i : Int) < (nl : Int) := by omega
          have hltr : b < wr.heap.size := by omega
          have HBW := hid (show Below wr.heap.size wr (wr.alloc (.cells #[.slice ai m ci, .int .i64 (tn : Int)] 44)) from (Below.refl _ _).alloc (Nat.le_refl _) _)
          have k0 : (wr.alloc (.cells #[.slice ai m ci, .int .i64 (tn : Int)] 44)).cell? ⟨wr.heap.size, 0, none⟩ = some (.slice ai m ci) := (cell_new _ _ _ _).trans rfl
          have k1 : (wr.alloc (.cells #[.slice ai m ci, .int .i64 (tn : Int)] 44)).cell? ⟨wr.heap.size, 1, none⟩ = some (.int .i64 (tn : Int)) := (cell_new _ _ _ _).trans rfl
          have hri2 := hri.stay (HBW.out.mono (by omega))
          obtain ⟨av, cv, rfl, hvc⟩ := bitRow hown
          have HVC := hid (hvc.stay HBW.out)
          have HOB := hid (HO.out.alloc (.cells #[.slice ai m ci, .int .i64 (tn : Int)] 44))
          have HSW := hid (show (wr.alloc (.cells #[.slice ai m ci, .int .i64 (tn : Int)] 44)).heap.size = wr.heap.size + 1 by simp)
          clear h' ht hm hri hrl hown hbe hins hsn ht0 HO3 HB3 hvc
          go_upto_region 11 with fail
          have HBE2 := hid (HB.out.trans (HBW.out.mono hsz))
          clear c0 c1
          generalize wr.alloc (.cells #[.slice ai m ci, .int .i64 (tn : Int)] 44) = wb at *
          generalize L.valsTo regs given i = V at *
          go_wp2_with fail
          go_loopw [9, 69] (fun v9 v wq => wb = wq ∧ ∃ j : Nat, j ≤ m ∧ v = .int .i64 j ∧ v9 = .int .i64 (atTo V ins j : Nat)) (fun _ v _ => m - (intOf v).toNat)
          case atStart => exact ⟨rfl, 0, Nat.zero_le _, rfl, rfl⟩
          case round =>
            obtain ⟨rfl, j, hj, rfl, rfl⟩ := hrel
            have hat := atTo_lt V ins j
            by_cases hjlt : j < m
            · have hjI : (j : Int) < m := by omega
              obtain ⟨bi, oi, rfl, hbi, hci⟩ := hri2.at (by omega)
              have d0 := hci j hjlt
              obtain ⟨hx0, hx1⟩ := HINS.out j hlt hjlt
              have HAS : Hid (atTo V ins (j + 1) = atTo V ins j + if V.getD (ins.getD j 0).toNat false then 2 ^ j else 0) := rfl
              generalize ins.getD j 0 = x at d0 hx0 hx1 HAS
              obtain ⟨p, rfl⟩ := Int.eq_ofNat_of_zero_le hx0
              rw [Int.toNat_natCast] at HAS
              obtain ⟨bv, ov, rfl, hbv, hvc2⟩ := HVC.out.at (by omega)
              have u1 := hvc2 p (by omega)
              have hpI : (p : Int) < ((gn + nr + i : Nat) : Int) := by omega
              generalize V.getD p false = bit at u1 HAS
              generalize atTo V ins j = at0 at *
              clear hci hvc2
              cases bit
              · go_wp2_with fail
                go_roundw
                case rel => exact ⟨trivial, j + 1, by omega, by go_num, val_int (by rw [HAS.out]; simp)⟩
                case measure => simp [intOf]; omega
              · go_wp2_with fail
                go_roundw
                case rel => exact ⟨trivial, j + 1, by omega, by go_num, val_int (by rw [orBit j at0 (by omega) hat, HAS.out]; simp)⟩
                case measure => simp [intOf]; omega
            · obtain rfl : m = j := by omega
              have hpw : 2 ^ m ≤ 16 := Nat.pow_le_pow_right (n := 2) (by omega) (show m ≤ 4 by omega)
              generalize atTo V ins m = at0 at *
              clear hjlt hj HINS hri2
              have hszb : w.heap.size ≤ wb.heap.size := HBE2.out.size
              have hsb : s < wb.heap.size := by omega
              have hbb : b < wb.heap.size := by omega
              go_wp2_with (at_builtin; refine wpList_push _ w wb rfl _ _ 36 rfl 4 i0 (.bool false) 1 1 Try.underlying36 hi hz0 hz1 hz2 rfl (by decide) w.heap.size _ _ _ rfl HOB.out 1 1 _ rfl rfl rfl rfl ?c3 ?c4 HBE2.out (Nat.le_refl _) hszb ?_)
              case c3 => unfold maxLen; omega
              case c4 => omega
              intro v' w3 hown3 hbel3 _ _
              have HO3 := hid hown3
              have HB3 := hid hbel3
              clear hown3 hbel3 HOB HBE2
              go_wp2
              go_roundw
              case rel => exact ⟨i + 1, hlt, by go_num, bitSnoc HO3.out (by rw [HSN.out, shiftBit]), HB3.out⟩
              case measure => simp [intOf]; omega
        · obtain rfl : nl = i := by omega
          rw [← HVALS.out] at hown
          have NX : Hid (∀ j, j < nr → (L.next regs given).getD j false = (L.vals regs given).getD (L.regs.getD j LR.zero).next.toNat false) := fun j hj => by
            have hl : j < L.regs.length := by rw [HNR.out]; exact hj
            simp [LN.next, List.getD_eq_getElem?_getD, hl]
          have OX : Hid (∀ j, j < no → (L.outV regs given).take (j + 1) = (L.outV regs given).take j ++ [(L.vals regs given).getD (L.outs.getD j 0).toNat false]) := fun j hj => L.outV_at regs given j (by rw [HNO.out]; exact hj)
          have NXL : Hid ((L.next regs given).length = nr) := by unfold Hid; rw [L.next_len, HNR.out]
          have OXL : Hid ((L.outV regs given).take no = L.outV regs given) := List.take_of_length_le (by rw [L.outV_len, HNO.out]; exact Nat.le_refl _)
          have OOL : Hid ((L.outV regs given).length = no) := by unfold Hid; rw [L.outV_len, HNO.out]
          obtain ⟨NN, hNN⟩ : ∃ x, L.next regs given = x := ⟨_, rfl⟩
          obtain ⟨OO, hOO⟩ : ∃ x, L.outV regs given = x := ⟨_, rfl⟩
          unfold Hid at NX OX NXL OXL
          rw [hNN] at NX NXL
          rw [hOO] at OX OXL
          have NX := hid NX
          have OX := hid OX
          have NXL := hid NXL
          have OXL := hid OXL
          have HNN := hid hNN
          have HOO := hid hOO
          generalize L.vals regs given = V at *
          have hmr := (hbe.block s hsw).trans HBOX.out
          have t0 : wr.cell? ⟨s, 0, none⟩ = some (.pointer (some ⟨b, 0, none⟩)) := (cell_block hmr 0).trans rfl
          have t1 : wr.cell? ⟨s, 1, none⟩ = some (.slice aR nr cR) := (cell_block hmr 1).trans rfl
          have x1 := h'.regs
          rw [HNR.out] at x1
          simp only at x1
          have hsr : s < wr.heap.size := boxLt hmr
          have hbr : b < wr.heap.size := by omega
          have hmk := Try.make_bools nr (by omega)
          have HR0 := hid (show Row (wr.alloc (.cells (bools (List.replicate nr false)) 4)) wr.heap.size (NN.take 0 ++ List.replicate (nr - 0) false) from by unfold Row; simpa using alloc_at wr (.cells (bools (List.replicate nr false)) 4))
          have HBN := hid (show Below wr.heap.size wr (wr.alloc (.cells (bools (List.replicate nr false)) 4)) from (Below.refl _ _).alloc (Nat.le_refl _) _)
          have hszN : (wr.alloc (.cells (bools (List.replicate nr false)) 4)).heap.size = wr.heap.size + 1 := by simp
          obtain ⟨av, cv, rfl, hvc⟩ := bitRow hown
          have HVC := hid hvc
          have HOV := hid hown
          have HBR := hid hbe
          clear hNN hOO hown hbe h' HO3 HB3 HO HB hmr hvc HVALS HV0
          go_upto_region 21 with fail
          have t0' := (HBN.out.cell (p := ⟨s, 0, none⟩) hsr).trans t0
          have x1' := (HBN.out.cell (p := ⟨b, 1, none⟩) hbr).trans x1
          clear hmk t0 t1 x1
          obtain ⟨w5, rfl⟩ : ∃ wo : World, wo = wr := ⟨_, rfl⟩
          generalize w5.alloc (.cells (bools (List.replicate nr false)) 4) = w6 at *
          have hs6 : s < w6.heap.size := by omega
          have hb6 : b < w6.heap.size := by omega
          go_wp2_with fail
          clear t0' x1'
          go_loopw [107] (fun v wr => ∃ j : Nat, j ≤ nr ∧ v = .int .i64 j ∧ Row wr w5.heap.size (NN.take j ++ List.replicate (nr - j) false) ∧ Below w5.heap.size w5 wr) (fun v _ => nr - (intOf v).toNat)
          case atStart => exact ⟨0, Nat.zero_le _, rfl, HR0.out, HBN.out⟩
          case round =>
            obtain ⟨j, hj, rfl, hrow, hbe⟩ := hrel
            have hbw5 := HBR.out.size
            have h' := HI.out.stay ((HBR.out.trans (hbe.mono hbw5)).mono hBw)
            have hNlt := hrow.lt
            by_cases hlt : j < nr
            · have hrl : Cells B wr ar (L.regs.length * 2) (regCell L.regs) := h'.rows.rr
              obtain ⟨b1, off, rfl, hb1, c0, c1⟩ := Cells.two hrl j (by rw [HNR.out]; exact hlt)
              rw [regCell_0] at c0
              rw [regCell_1] at c1
              have hx := HGD.out.regs j (by rw [HNR.out]; exact hlt)
              rw [HGN.out, HNR.out, HNL.out] at hx
              have HT := NX.out j hlt
              obtain ⟨t, ht⟩ : ∃ t, L.regs.getD j LR.zero = t := ⟨_, rfl⟩
              rw [ht] at c0 c1 hx HT
              obtain ⟨ib, x⟩ := t
              simp only at c0 c1 hx HT
              obtain ⟨hx0, hx1⟩ := hx
              obtain ⟨p, rfl⟩ := Int.eq_ofNat_of_zero_le hx0
              rw [Int.toNat_natCast] at HT
              obtain ⟨bv, ov, rfl, hbv, hvc⟩ := (HVC.out.stay hbe).at (by omega)
              have u1 := hvc p (by omega)
              have hpI : (p : Int) < ((gn + nr + nl : Nat) : Int) := by omega
              have hjI : (j : Int) < (nr : Int) := by omega
              have hlen : (NN.take j ++ List.replicate (nr - j) false).length = nr := by have := NXL.out; simp; omega
              have r1 := hrow.cell j (by rw [hlen]; exact hlt)
              have r2 := hrow.free j
              have SPL := first_split NN j nr NXL.out.symm hlt
              rw [HT] at SPL
              have HSPL := hid SPL
              have HROW := hid hrow
              have HBE := hid hbe
              have hb1r : b1 < wr.heap.size := by omega
              have hbvr : bv < wr.heap.size := by omega
              generalize V.getD p false = bit at u1 HSPL
              generalize List.getD (List.take j NN ++ List.replicate (nr - j) false) j false = old at r1
              clear HT SPL hvc hrow hbe h' hrl ht hlen
              go_wp2_with fail
              go_roundw
              case rel =>
                refine ⟨j + 1, hlt, by go_num, ?_, ?_⟩
                · rw [← HSPL.out]
                  first
                    | exact (HROW.out.set j bit).keep (by first | rfl | exact Below.heap_alloc _ _ _ (by simpa [World.setCell] using hNlt))
                · first
                    | exact (HBE.out.alloc HBE.out.size _).setCell (Nat.le_refl _) _
                    | exact (HBE.out.setCell (Nat.le_refl _) _).alloc (by simpa [World.setCell] using HBE.out.size) _
              case measure => simp [intOf]; omega
            · obtain rfl : nr = j := by omega
              have hrowN : Row wr w5.heap.size NN := by
                have e : NN.take nr ++ List.replicate (nr - nr) false = NN := by
                  rw [List.take_of_length_le (by rw [NXL.out]; exact Nat.le_refl _)]; simp
                rw [e] at hrow
                exact hrow
              have hbw := HBR.out.trans (hbe.mono hbw5)
              have hmr := (hbw.block s hsw).trans HBOX.out
              have t0 : wr.cell? ⟨s, 0, none⟩ = some (.pointer (some ⟨b, 0, none⟩)) := (cell_block hmr 0).trans rfl
              have t1 : wr.cell? ⟨s, 1, none⟩ = some (.slice aR nr cR) := (cell_block hmr 1).trans rfl
              have tf := free_block hmr
              have HSIM := hid (ls_set (C := C) (C' := C) (b := b) (l := NN) (Nat.le_refl _) hCs hmr (v := .slice (some ⟨w5.heap.size, 0, none⟩) nr nr) (by rw [NXL.out]; exact rowOwn hrowN (by omega) NXL.out (by omega)))
              have HGR := hid (ls_grown (s := s) (v := .slice (some ⟨w5.heap.size, 0, none⟩) nr nr) hbw)
              have HOV7 := hid (rowSet (rowOld HOV.out hbe) hmr (by decide) 1 (.slice (some ⟨w5.heap.size, 0, none⟩) nr nr))
              have HI7 := hid (HI.out.stay ((hbw.mono hBw).setCell (show B ≤ s by omega) (.slice (some ⟨w5.heap.size, 0, none⟩) nr nr) (p := ⟨s, 1, none⟩)))
              have t07 : (wr.setCell ⟨s, 1, none⟩ (.slice (some ⟨w5.heap.size, 0, none⟩) nr nr)).cell? ⟨s, 0, none⟩ = some (.pointer (some ⟨b, 0, none⟩)) := (cell_block (boxSet hmr 1 _) 0).trans rfl
              have hszw : (wr.setCell ⟨s, 1, none⟩ (.slice (some ⟨w5.heap.size, 0, none⟩) nr nr)).heap.size = wr.heap.size := by simp [World.setCell]
              have hsr : s < wr.heap.size := boxLt hmr
              have hbr : b < wr.heap.size := by omega
              have hwwr := hbw.size
              clear hrowN hmr hbe hrow h' hbw HVC HR0
              go_upto_region 27 with fail
              clear t0 t1 tf
              generalize wr.setCell ⟨s, 1, none⟩ (.slice (some ⟨w5.heap.size, 0, none⟩) nr nr) = w7 at *
              have x3 := HI7.out.outs
              rw [HNO.out] at x3
              simp only at x3
              have hs7 : s < w7.heap.size := by omega
              have hb7 : b < w7.heap.size := by omega
              have hCw7 : w.heap.size ≤ w7.heap.size := by omega
              clear hszw
              go_wp2_with fail
              clear x3 t07
              go_loopw [15, 133] (fun v15 v wr => ∃ j : Nat, j ≤ no ∧ v = .int .i64 j ∧ wr.ownsRow w7.heap.size 4 1 v15 j ((OO.take j).map .bool) ∧ Below w7.heap.size w7 wr) (fun _ v _ => no - (intOf v).toNat)
              case atStart => exact ⟨0, Nat.zero_le _, rfl, World.ownsRow_nil _ _ _ _, Below.refl _ _⟩
              case round =>
                obtain ⟨j, hj, rfl, hown, hbe⟩ := hrel
                have HO7 := hid hown
                have HB7 := hid hbe
                have hsz7 := hbe.size
                have h' := HI7.out.stay (hbe.mono (show B ≤ w7.heap.size by omega))
                by_cases hlt : j < no
                · have hrl : Cells B wr ao L.outs.length (fun i => .int .i64 (L.outs.getD i 0)) := h'.rows.ro
                  obtain ⟨b1, off, rfl, hb1, hcc⟩ := hrl.at (by rw [HNO.out]; omega)
                  have c0 := hcc j (by rw [HNO.out]; exact hlt)
                  have hx := HGD.out.outs j (by rw [HNO.out]; exact hlt)
                  rw [HGN.out, HNR.out, HNL.out] at hx
                  have HT := OX.out j hlt
                  obtain ⟨x, ht⟩ : ∃ t, L.outs.getD j 0 = t := ⟨_, rfl⟩
                  rw [ht] at c0 hx HT
                  obtain ⟨hx0, hx1⟩ := hx
                  obtain ⟨p, rfl⟩ := Int.eq_ofNat_of_zero_le hx0
                  rw [Int.toNat_natCast] at HT
                  have HT' := hid HT
                  obtain ⟨bv, ov, rfl, hbv, hvc⟩ := ((bits_cells HOV7.out).stay hbe).at (by omega)
                  have u1 := hvc p (by omega)
                  have hpI : (p : Int) < ((gn + nr + nl : Nat) : Int) := by omega
                  have hjI : (j : Int) < (no : Int) := by omega
                  generalize V.getD p false = bit at u1 HT'
                  clear HT hvc hown hbe h' hrl ht hcc
                  go_wp2_with (at_builtin; refine wpList_push _ w7 wr rfl _ _ 36 rfl 4 i0 (.bool false) 1 1 Try.underlying36 hi hz0 hz1 hz2 rfl (by decide) w7.heap.size _ _ _ rfl HO7.out 1 1 _ rfl rfl rfl rfl ?c3 ?c4 HB7.out (Nat.le_refl _) hsz7 ?_)
                  case c3 => unfold maxLen; omega
                  case c4 => omega
                  intro v' w8 hown3 hbel3 _ _
                  have HO3 := hid hown3
                  have HB3 := hid hbel3
                  clear hown3 hbel3 HO7 HB7
                  go_wp2
                  go_roundw
                  case rel => exact ⟨j + 1, hlt, by go_num, by first | exact bitTake HO3.out HT'.out | exact (List.map_take ▸ bitTake HO3.out HT'.out), HB3.out⟩
                  case measure => simp [intOf]; omega
                · obtain rfl : no = j := by omega
                  rw [OXL.out] at HO7
                  go_wp2_with fail
                  go_ret
                  exact ⟨_, rfl, by rw [HOO.out]; exact lsBase0 HO7.out hCw7, by rw [HNN.out]; exact HSIM.out.stay HB7.out, HGR.out.trans ⟨HB7.out.os, HB7.out.tape, HB7.out.output, HB7.out.size, fun k hk _ => HB7.out.block k hk⟩⟩
theorem LsStep_any (h : LnIn B w b y L) (hB : B ≤ C) (hC : C ≤ w.heap.size) (hs : LSim C w s b regs) (hr : L.right = true) (hrl : regs.length = L.regs.length)
    (hgv : Cells w.heap.size w ag given.length (fun j => .bool (given.getD j false))) (hgl : given.length ≤ 1000000) :
    Calls Try.prog 8 #[.pointer (some ⟨s, 0, none⟩), .slice ag given.length cg] w fun e w' =>
      ∃ v, e = .returned v ∧ w'.ownsRow w.heap.size 4 1 v L.outs.length ((L.outV regs given).map .bool) ∧ LSim C w' s b (L.next regs given) ∧ w.grownBy w' (some s) :=
  LsStep_wide B C s b y L w regs given ag cg h hB hC hs hr hrl hgv (Nat.le_trans hgl (by unfold maxLen; decide))
end
end Go.Proofs.Ytlaeflpddehipab
