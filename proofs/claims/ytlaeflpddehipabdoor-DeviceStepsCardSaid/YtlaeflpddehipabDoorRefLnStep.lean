/- The document's Tables.Step, walked: the law of a cycle. -/
import Derived.Test.YtlaeflpddehipabDoorLsFactsAll
import Derived.Test.YtlaeflpddehipabDoorSrcAll
set_option linter.unusedVariables false
set_option linter.unusedSimpArgs false
set_option linter.unusedSectionVars false
namespace Go.Proofs.YtlaeflpddehipabDoor
open Go.RowKit
attribute [local go_sem ↓] Go.wp_at_zero Go.wp_at_succ

theorem Tryd.lsBool : (Tryd.prog.info? 4).map (fun i => (i.zero, i.size, i.bytes)) = some (some (.bool false), 1, 1) := by kernel_rfl
theorem LN.next_at (L : LN) (regs given : List Bool) (j : Nat) (h : j < L.regs.length) : (L.next regs given).take (j + 1) = (L.next regs given).take j ++ [(L.vals regs given).getD (L.regs.getD j LR.zero).next.toNat false] := by
  rw [take_snoc _ _ false (by rw [L.next_len]; exact h)]
  congr 2
  simp [LN.next, List.getD_eq_getElem?_getD, h]
theorem LN.outV_at (L : LN) (regs given : List Bool) (j : Nat) (h : j < L.outs.length) : (L.outV regs given).take (j + 1) = (L.outV regs given).take j ++ [(L.vals regs given).getD (L.outs.getD j 0).toNat false] := by
  rw [take_snoc _ _ false (by rw [L.outV_len]; exact h)]
  congr 2
  simp [LN.outV, List.getD_eq_getElem?_getD, h]
theorem lutBit_nat (ins : List Int) (tn : Nat) (v : List Bool) : lutBit ⟨ins, (tn : Int)⟩ v = (((tn / 2 ^ atTo v ins ins.length : Nat) : Int) % 2 == 1) := by
  unfold lutBit
  rw [Bool.eq_iff_iff]
  simp
section
variable (B : Nat) (y : Lay) (L : LN) (w : World) (regs given : List Bool) (rg : Option Addr) (cgr : Nat) (ag : Option Addr) (cg : Nat)
set_option maxRecDepth 100000 in
set_option maxHeartbeats 12800000 in
theorem RefLnStep_any (h : LnRows B w y L) (hB : B ≤ w.heap.size) (hr : L.right = true) (hrl : regs.length = L.regs.length) (hrg : Cells w.heap.size w rg regs.length (fun j => .bool (regs.getD j false))) (hrn : rg = none → regs.length = 0 ∧ cgr = 0)
    (hgv : Cells w.heap.size w ag given.length (fun j => .bool (given.getD j false))) (hgl : given.length ≤ 1000000) :
    Calls Tryd.prog 56 #[.agg #[.int .i64 L.given, .slice y.ar L.regs.length y.cr, .slice y.al L.luts.length y.cl, .slice y.ao L.outs.length y.co], .slice rg regs.length cgr, .slice ag given.length cg] w fun e w' =>
      ∃ v u, e = .returned (.tuple #[v, u]) ∧ w'.ownsRow w.heap.size 4 1 v L.outs.length ((L.outV regs given).map .bool) ∧ w'.ownsRow w.heap.size 4 1 u L.regs.length ((L.next regs given).map .bool) ∧ Below w.heap.size w w' := by
  obtain ⟨i0, hi, hz0, hz1, hz2⟩ := info_parts Tryd.lsBool
  have GD := LN.good hr
  have HI := hid (lbox B y L w h hB)
  have HB1 := hid (show Below w.heap.size w (w.alloc (.cells #[.int .i64 L.given, .slice y.ar L.regs.length y.cr, .slice y.al L.luts.length y.cl, .slice y.ao L.outs.length y.co] 30)) from (Below.refl _ _).alloc (Nat.le_refl _) _)
  have HSZ1 := hid (show (w.alloc (.cells #[.int .i64 L.given, .slice y.ar L.regs.length y.cr, .slice y.al L.luts.length y.cl, .slice y.ao L.outs.length y.co] 30)).heap.size = w.heap.size + 1 by simp)
  have HRG := hid (hrg.stay HB1.out)
  have HGV := hid (hgv.stay HB1.out)
  have HRN := hid hrn
  have HRL := hid hrl
  obtain ⟨ar, cr, al, cl, ao, co, A, C⟩ := y
  obtain ⟨nr, hNr⟩ : ∃ n, L.regs.length = n := ⟨_, rfl⟩
  obtain ⟨nl, hNl⟩ : ∃ n, L.luts.length = n := ⟨_, rfl⟩
  obtain ⟨no, hNo⟩ : ∃ n, L.outs.length = n := ⟨_, rfl⟩
  obtain ⟨gn, hg⟩ : ∃ gn : Nat, L.given = (gn : Int) := Int.eq_ofNat_of_zero_le GD.g0
  obtain ⟨ng, hNg⟩ : ∃ n, given.length = n := ⟨_, rfl⟩
  have hrr : regs.length = nr := by omega
  simp only at HI HB1 HSZ1 ⊢
  have z1 := GD.g1
  have z2 := GD.r1
  have z3 := GD.l1
  have z4 := GD.o1
  rw [hg] at z1
  rw [hNr] at z2
  rw [hNl] at z3
  rw [hNo] at z4
  rw [hNg] at hgl
  rw [hNr, hNl, hNo, hg] at HI HB1 HSZ1
  rw [hNr, hNl, hNo, hg] at HRG HGV
  rw [hNr, hNl, hNo, hg, hrr, hNg]
  rw [hrr] at HRG HRN
  rw [hNg] at HGV
  have HNR := hid hNr
  have HNL := hid hNl
  have HNO := hid hNo
  have HGN := hid hg
  have HNG := hid hNg
  have HRR := hid hrr
  have HGD := hid GD
  have HV0 : Hid (L.valsTo regs given 0 = L.bitsIn given gn ++ regs) := by unfold Hid; rw [show L.valsTo regs given 0 = L.bitsIn given L.given.toNat ++ regs from rfl, hg, Int.toNat_natCast]
  have HVALS : Hid (L.vals regs given = L.valsTo regs given nl) := by unfold Hid LN.vals; rw [hNl]
  clear h hr hNr hNl hNo hg hNg hrr hrl hrn hrg hgv GD
  go_enter Tryd.func56, Tryd.ntmps56
  go_upto_region 1 with fail
  generalize w.alloc (.cells #[.int .i64 (gn : Int), .slice ar nr cr, .slice al nl cl, .slice ao no co] 30) = w1 at *
  have hlt1 : w.heap.size < w1.heap.size := by have := HSZ1.out; omega
  have x0 := HI.out.g
  rw [HGN.out] at x0
  go_wp2_with fail
  clear x0
  go_loopw [8, 25] (fun v8 v wr => ∃ k : Nat, k ≤ gn ∧ v = .int .i64 k ∧ wr.ownsRow w1.heap.size 4 1 v8 k ((L.bitsIn given k).map .bool) ∧ Below w1.heap.size w1 wr) (fun _ v _ => gn - (intOf v).toNat)
  case atStart => exact ⟨0, Nat.zero_le _, rfl, World.ownsRow_nil _ _ _ _, Below.refl _ _⟩
  case round =>
    obtain ⟨k, hk, rfl, hown, hbe⟩ := hrel
    have HO := hid hown
    have HB := hid hbe
    have hsz := hbe.size
    clear hown
    by_cases hlt : k < gn
    · have hkI : (k : Int) < (gn : Int) := by omega
      have hk0 : (0 : Int) ≤ k := by omega
      have HSN := hid (L.bitsIn_succ given k)
      by_cases hkg : k < ng
      · have hkgI : (k : Int) < (ng : Int) := by omega
        obtain ⟨bg, og, rfl, hbg, hcg⟩ := (HGV.out.stay (hbe.mono (by omega))).at (by omega)
        have c0 := hcg k hkg
        generalize given.getD k false = x at c0 HSN
        clear hcg hbe
        go_wp2_with (at_builtin; refine wpList_push _ w1 wr rfl _ _ 62 rfl 4 i0 (.bool false) 1 1 Tryd.underlying62 hi hz0 hz1 hz2 rfl (by decide) w1.heap.size _ _ _ rfl HO.out 1 1 _ rfl rfl rfl rfl ?c3 ?c4 HB.out (Nat.le_refl _) hsz ?_)
        case c3 => unfold maxLen; omega
        case c4 => omega
        intro v' w3 hown3 hbel3 _ _
        have HO3 := hid hown3
        have HB3 := hid hbel3
        clear hown3 hbel3 HO HB
        go_wp2
        go_roundw
        case rel => exact ⟨k + 1, by omega, by go_num, bitSnoc HO3.out HSN.out, HB3.out⟩
        case measure => simp [intOf]; omega
      · have dk : decide ((k : Int) < (ng : Int)) = false := decide_eq_false (by omega)
        have hx : given.getD k false = false := by have := HNG.out; simp [List.getD_eq_getElem?_getD]; rw [List.getElem?_eq_none (by omega)]; rfl
        rw [hx] at HSN
        clear hbe hx
        go_wp2_with (at_builtin; refine wpList_push _ w1 wr rfl _ _ 62 rfl 4 i0 (.bool false) 1 1 Tryd.underlying62 hi hz0 hz1 hz2 rfl (by decide) w1.heap.size _ _ _ rfl HO.out 1 1 _ rfl rfl rfl rfl ?c3 ?c4 HB.out (Nat.le_refl _) hsz ?_)
        case c3 => unfold maxLen; omega
        case c4 => omega
        intro v' w3 hown3 hbel3 _ _
        have HO3 := hid hown3
        have HB3 := hid hbel3
        clear hown3 hbel3 HO HB
        go_wp2
        go_roundw
        case rel => exact ⟨k + 1, by omega, by go_num, bitSnoc HO3.out HSN.out, HB3.out⟩
        case measure => simp [intOf]; omega
    · obtain rfl : gn = k := by omega
      have HNEW := hid (bitsNews2 (HRG.out.stay (hbe.mono (by omega))) HRR.out)
      have h' := HI.out.stay (hbe.mono (by omega))
      have HMS := hid h'
      go_upto_region 8 with (at_builtin; refine wpSrc _ rfl _ _ 62 rfl w1.heap.size 4 i0 _ 1 1 Tryd.underlying62 hi hz0 hz1 hz2 rfl (by decide) _ gn _ rfl HO.out rg nr cgr (regs.map .bool) rfl HRN.out (by simpa using HRR.out) HNEW.out (bools_one _) ?_ ?_ ?_ ?_; (focus (unfold maxLen; omega)); (focus omega); (focus omega); intro av2 cv2 w3 HP hown hg; have HO3 := hid hown.out; have HB3 := hid (HB.out.grown hg.out hsz (fun k hk => (HP.out.lt k hk).1)); clear HP hown hg)
      rw [← List.map_append, ← HV0.out] at HO3
      have hsz3 := HB3.out.size
      have x2 := (HI.out.stay (HB3.out.mono (by omega))).luts
      rw [HNL.out] at x2
      simp only at x2
      clear HO HB hsz HNEW hbe h' HMS
      go_wp2_with fail
      clear x2
      go_loopw [8, 48] (fun v8 v wr => ∃ i : Nat, i ≤ nl ∧ v = .int .i64 i ∧ wr.ownsRow w1.heap.size 4 1 v8 (gn + nr + i) ((L.valsTo regs given i).map .bool) ∧ Below w1.heap.size w1 wr) (fun _ v _ => nl - (intOf v).toNat)
      case atStart => exact ⟨0, Nat.zero_le _, rfl, HO3.out, HB3.out⟩
      case round =>
        obtain ⟨i, hle, rfl, hown, hbe⟩ := hrel
        have HO := hid hown
        have HB := hid hbe
        have hsz := hbe.size
        have h' := HI.out.stay (hbe.mono (by omega))
        by_cases hlt : i < nl
        · have hrl : Cells (w.heap.size + 1) wr al (L.luts.length * 2) (lutCell L.luts A C) := h'.rows.rl
          obtain ⟨b1, off, rfl, hb1', c0, c1⟩ := Cells.two hrl i (by rw [HNL.out]; exact hlt)
          rw [lutCell_0] at c0
          rw [lutCell_1] at c1
          have hri : Cells (w.heap.size + 1) wr (A i) (L.luts.getD i LT.zero).ins.length (fun j => .int .i64 ((L.luts.getD i LT.zero).ins.getD j 0)) := h'.rows.ri i (by rw [HNL.out]; exact hlt)
          have hli := HGD.out.four i (by rw [HNL.out]; exact hlt)
          have ht0 := HGD.out.tab0 i (by rw [HNL.out]; exact hlt)
          have ht1 := HGD.out.tab1 i (by rw [HNL.out]; exact hlt)
          have hins := HGD.out.ins i
          have hsn : L.valsTo regs given (i + 1) = L.valsTo regs given i ++ [lutBit (L.luts.getD i LT.zero) (L.valsTo regs given i)] := rfl
          obtain ⟨t, ht⟩ : ∃ t, L.luts.getD i LT.zero = t := ⟨_, rfl⟩
          rw [ht] at c0 c1 hri hli hins hsn ht0 ht1
          obtain ⟨ins, tb⟩ := t
          simp only at c0 c1 hri hli hins ht0 ht1
          obtain ⟨tn, rfl⟩ := Int.eq_ofNat_of_zero_le ht0
          rw [lutBit_nat] at hsn
          obtain ⟨m, hm⟩ : ∃ m, ins.length = m := ⟨_, rfl⟩
          rw [hm] at c0 hri hli hins hsn
          rw [HNL.out, HGN.out, HNR.out] at hins
          have HINS := hid hins
          have HSN := hid hsn
          generalize A i = ai at c0 hri
          generalize C i = ci at c0
          have hiI : (i : Int) < (nl : Int) := by omega
          have hltr : w.heap.size < wr.heap.size := by omega
          have HBW := hid (show Below wr.heap.size wr (wr.alloc (.cells #[.slice ai m ci, .int .i64 (tn : Int)] 91)) from (Below.refl _ _).alloc (Nat.le_refl _) _)
          have k0 : (wr.alloc (.cells #[.slice ai m ci, .int .i64 (tn : Int)] 91)).cell? ⟨wr.heap.size, 0, none⟩ = some (.slice ai m ci) := (cell_new _ _ _ _).trans rfl
          have k1 : (wr.alloc (.cells #[.slice ai m ci, .int .i64 (tn : Int)] 91)).cell? ⟨wr.heap.size, 1, none⟩ = some (.int .i64 (tn : Int)) := (cell_new _ _ _ _).trans rfl
          have hri2 := hri.stay (HBW.out.mono (by omega))
          obtain ⟨av, cv, rfl, hvc⟩ := bitRow hown
          have HVC := hid (hvc.stay HBW.out)
          have HOB := hid (HO.out.alloc (.cells #[.slice ai m ci, .int .i64 (tn : Int)] 91))
          have HSW := hid (show (wr.alloc (.cells #[.slice ai m ci, .int .i64 (tn : Int)] 91)).heap.size = wr.heap.size + 1 by simp)
          clear h' ht hm hri hrl hown hbe hins hsn ht0 HO3 HB3 hvc
          go_upto_region 11 with fail
          have HBE2 := hid (HB.out.trans (HBW.out.mono hsz))
          clear c0 c1
          generalize wr.alloc (.cells #[.slice ai m ci, .int .i64 (tn : Int)] 91) = wb at *
          generalize L.valsTo regs given i = V at *
          go_wp2_with fail
          go_loopw [12, 13, 55] (fun v12 v13 v wq => wb = wq ∧ ∃ j : Nat, j ≤ m ∧ v = .int .i64 j ∧ v12 = .int .i64 (atTo V ins j : Nat) ∧ v13 = .int .i64 ((2 ^ j : Nat) : Int)) (fun _ _ v _ => m - (intOf v).toNat)
          case atStart => exact ⟨rfl, 0, Nat.zero_le _, rfl, rfl, rfl⟩
          case round =>
            obtain ⟨rfl, j, hj, rfl, rfl, rfl⟩ := hrel
            have hat := atTo_lt V ins j
            by_cases hjlt : j < m
            · have hjI : (j : Int) < m := by omega
              obtain ⟨bi, oi, rfl, hbi, hci⟩ := hri2.at (by omega)
              have d0 := hci j hjlt
              obtain ⟨hx0, hx1⟩ := HINS.out j hlt hjlt
              have HAS : Hid (atTo V ins (j + 1) = atTo V ins j + if V.getD (ins.getD j 0).toNat false then 2 ^ j else 0) := rfl
              have HPS : Hid (2 ^ (j + 1) = 2 ^ j * 2) := Nat.pow_succ 2 j
              have hpw : 2 ^ j ≤ 16 := Nat.pow_le_pow_right (n := 2) (by omega) (show j ≤ 4 by omega)
              generalize ins.getD j 0 = x at d0 hx0 hx1 HAS
              obtain ⟨p, rfl⟩ := Int.eq_ofNat_of_zero_le hx0
              rw [Int.toNat_natCast] at HAS
              obtain ⟨bv, ov, rfl, hbv, hvc2⟩ := HVC.out.at (by omega)
              have u1 := hvc2 p (by omega)
              have hpI : (p : Int) < ((gn + nr + i : Nat) : Int) := by omega
              generalize V.getD p false = bit at u1 HAS
              generalize atTo V ins j = at0 at *
              generalize 2 ^ j = f at *
              have q1 : IntKind.i64.wrap ((at0 : Int) + (f : Int)) = at0 + f := wrap_fit _ (by omega) (by omega)
              have q2 : IntKind.i64.wrap ((f : Int) * 2) = f * 2 := wrap_fit _ (by omega) (by omega)
              clear hci hvc2
              cases bit
              · go_wp2_with fail
                go_roundw
                case rel => exact ⟨trivial, j + 1, by omega, by go_num, val_int (by rw [HAS.out]; simp), val_int (by rw [HPS.out]; push_cast; rfl)⟩
                case measure => simp [intOf]; omega
              · go_wp2_with fail
                go_roundw
                case rel => exact ⟨trivial, j + 1, by omega, by go_num, val_int (by rw [HAS.out]; simp), val_int (by rw [HPS.out]; push_cast; rfl)⟩
                case measure => simp [intOf]; omega
            · obtain rfl : m = j := by omega
              have hpw : 2 ^ m ≤ 16 := Nat.pow_le_pow_right (n := 2) (by omega) (show m ≤ 4 by omega)
              generalize atTo V ins m = at0 at *
              generalize ((2 ^ m : Nat) : Int) = fI
              clear hjlt hj HINS hri2
              go_wp2_with fail
              go_loopw [16, 72] (fun v16 v wq => wb = wq ∧ ∃ k : Nat, k ≤ at0 ∧ v = .int .i64 k ∧ v16 = .int .i64 ((tn / 2 ^ k : Nat) : Int)) (fun _ v _ => at0 - (intOf v).toNat)
              case atStart => exact ⟨rfl, 0, Nat.zero_le _, rfl, by simp⟩
              case round =>
                obtain ⟨rfl, k, hk, rfl, rfl⟩ := hrel
                have HDV : Hid (tn / 2 ^ (k + 1) = tn / 2 ^ k / 2) := by unfold Hid; rw [Nat.pow_succ, Nat.div_div_eq_div_mul]
                have htk : tn / 2 ^ k ≤ tn := Nat.div_le_self _ _
                by_cases hklt : k < at0
                · have hkI : (k : Int) < (at0 : Int) := by omega
                  generalize tn / 2 ^ k = tk at *
                  go_wp2_with fail
                  go_roundw
                  case rel => exact ⟨trivial, k + 1, by omega, by go_num, val_int (by rw [HDV.out]; omega)⟩
                  case measure => simp [intOf]; omega
                · obtain rfl : at0 = k := by omega
                  generalize tn / 2 ^ at0 = tk at *
                  have hszb : w1.heap.size ≤ wb.heap.size := HBE2.out.size
                  have hwb : w.heap.size < wb.heap.size := by omega
                  go_wp2_with (at_builtin; refine wpList_push _ w1 wb rfl _ _ 62 rfl 4 i0 (.bool false) 1 1 Tryd.underlying62 hi hz0 hz1 hz2 rfl (by decide) w1.heap.size _ _ _ rfl HOB.out 1 1 _ rfl rfl rfl rfl ?c3 ?c4 HBE2.out (Nat.le_refl _) hszb ?_)
                  case c3 => unfold maxLen; omega
                  case c4 => omega
                  intro v' w3 hown3 hbel3 _ _
                  have HO3 := hid hown3
                  have HB3 := hid hbel3
                  clear hown3 hbel3 HOB HBE2
                  go_wp2
                  go_roundw
                  case rel => exact ⟨i + 1, hlt, by go_num, bitSnoc HO3.out HSN.out, HB3.out⟩
                  case measure => simp [intOf]; omega
        · obtain rfl : nl = i := by omega
          rw [← HVALS.out] at hown
          obtain ⟨av, cv, rfl, hvc⟩ := bitRow hown
          have HVC := hid hvc
          have NX : Hid (∀ j, j < nr → (L.next regs given).take (j + 1) = (L.next regs given).take j ++ [(L.vals regs given).getD (L.regs.getD j LR.zero).next.toNat false]) := fun j hj => L.next_at regs given j (by rw [HNR.out]; exact hj)
          have OX : Hid (∀ j, j < no → (L.outV regs given).take (j + 1) = (L.outV regs given).take j ++ [(L.vals regs given).getD (L.outs.getD j 0).toNat false]) := fun j hj => L.outV_at regs given j (by rw [HNO.out]; exact hj)
          have NXL : Hid ((L.next regs given).take nr = L.next regs given) := List.take_of_length_le (by rw [L.next_len, HNR.out]; exact Nat.le_refl _)
          have OXL : Hid ((L.outV regs given).take no = L.outV regs given) := List.take_of_length_le (by rw [L.outV_len, HNO.out]; exact Nat.le_refl _)
          generalize L.vals regs given = V at *
          obtain ⟨NN, hNN⟩ : ∃ x, L.next regs given = x := ⟨_, rfl⟩
          obtain ⟨OO, hOO⟩ : ∃ x, L.outV regs given = x := ⟨_, rfl⟩
          unfold Hid at NX OX NXL OXL
          rw [hNN] at NX NXL
          rw [hOO] at OX OXL
          have NX := hid NX
          have OX := hid OX
          have NXL := hid NXL
          have OXL := hid OXL
          have HNN := hid hNN
          have HOO := hid hOO
          clear hNN hOO
          have x1 := h'.regs
          rw [HNR.out] at x1
          simp only at x1
          have HI5 := hid (h'.mono (show w.heap.size + 1 ≤ wr.heap.size by omega))
          have HB5 := hid (HB1.out.trans (hbe.mono (by omega)))
          have hwr5 : w.heap.size < wr.heap.size := by omega
          clear hown hvc hbe h' HO HB HO3 HB3 HVALS HV0
          go_wp2_with fail
          clear x1
          obtain ⟨w5, rfl⟩ : ∃ wo : World, wo = wr := ⟨_, rfl⟩
          go_loopw [17, 87] (fun v17 v wr => ∃ j : Nat, j ≤ nr ∧ v = .int .i64 j ∧ wr.ownsRow w5.heap.size 4 1 v17 j ((NN.take j).map .bool) ∧ Below w5.heap.size w5 wr) (fun _ v _ => nr - (intOf v).toNat)
          case atStart => exact ⟨0, Nat.zero_le _, rfl, World.ownsRow_nil _ _ _ _, Below.refl _ _⟩
          case round =>
            obtain ⟨j, hj, rfl, hown, hbe⟩ := hrel
            have HO := hid hown
            have HB := hid hbe
            have hsz := hbe.size
            have h' := HI5.out.stay hbe
            by_cases hlt : j < nr
            · have hrl : Cells w5.heap.size wr ar (L.regs.length * 2) (regCell L.regs) := h'.rows.rr
              obtain ⟨b1, off, rfl, hb1, c0, c1⟩ := Cells.two hrl j (by rw [HNR.out]; exact hlt)
              rw [regCell_0] at c0
              rw [regCell_1] at c1
              have hx := HGD.out.regs j (by rw [HNR.out]; exact hlt)
              rw [HGN.out, HNR.out, HNL.out] at hx
              have HT := hid (NX.out j hlt)
              obtain ⟨t, ht⟩ : ∃ t, L.regs.getD j LR.zero = t := ⟨_, rfl⟩
              unfold Hid at HT
              rw [ht] at c0 c1 hx HT
              obtain ⟨ib, x⟩ := t
              simp only at c0 c1 hx HT
              obtain ⟨hx0, hx1⟩ := hx
              obtain ⟨p, rfl⟩ := Int.eq_ofNat_of_zero_le hx0
              rw [Int.toNat_natCast] at HT
              have HT' := hid HT
              obtain ⟨bv, ov, rfl, hbv, hvc⟩ := (HVC.out.stay hbe).at (by omega)
              have u1 := hvc p (by omega)
              have hpI : (p : Int) < ((gn + nr + nl : Nat) : Int) := by omega
              have hjI : (j : Int) < (nr : Int) := by omega
              generalize V.getD p false = bit at u1 HT'
              have hbvr : bv < wr.heap.size := by omega
              clear HT hvc hown hbe h' hrl ht
              go_wp2_with (at_builtin; refine wpList_push_g _ w5 (wr.alloc _) _ (World.size_alloc _ _) rfl _ _ 62 rfl 4 i0 (.bool false) 1 1 Tryd.underlying62 hi hz0 hz1 hz2 rfl (by decide) w5.heap.size _ _ _ rfl (HO.out.alloc _) 1 1 _ rfl rfl rfl rfl ?c3 ?c4 (HB.out.alloc hsz _) (Nat.le_refl _) (srcLe hsz _) ?_)
              case c3 => unfold maxLen; omega
              case c4 => omega
              intro v' w6 hown3 hbel3 _ _
              have HO3 := hid hown3
              have HB3 := hid hbel3
              clear hown3 hbel3 HO HB
              go_wp2
              go_roundw
              case rel => exact ⟨j + 1, hlt, by go_num, by first | exact bitTake HO3.out HT'.out | exact (List.map_take ▸ bitTake HO3.out HT'.out), HB3.out⟩
              case measure => simp [intOf]; omega
            · obtain rfl : nr = j := by omega
              rw [NXL.out] at HO
              have x1 := h'.outs
              rw [HNO.out] at x1
              simp only at x1
              have HVC6 := hid ((HVC.out.stay hbe).mono hsz)
              have HI6 := hid (h'.mono hsz)
              have HB6 := hid (HB5.out.trans (hbe.mono (by omega)))
              have hwr6 : w.heap.size < wr.heap.size := by omega
              clear hown hbe h' HB HVC HI5 HB5 NX
              go_wp2_with fail
              clear x1
              obtain ⟨w6, rfl⟩ : ∃ wo : World, wo = wr := ⟨_, rfl⟩
              go_loopw [18, 103] (fun v18 v wr => ∃ j : Nat, j ≤ no ∧ v = .int .i64 j ∧ wr.ownsRow w6.heap.size 4 1 v18 j ((OO.take j).map .bool) ∧ Below w6.heap.size w6 wr) (fun _ v _ => no - (intOf v).toNat)
              case atStart => exact ⟨0, Nat.zero_le _, rfl, World.ownsRow_nil _ _ _ _, Below.refl _ _⟩
              case round =>
                obtain ⟨j, hj, rfl, hown, hbe⟩ := hrel
                have HO7 := hid hown
                have HB7 := hid hbe
                have hsz7 := hbe.size
                have h' := HI6.out.stay hbe
                by_cases hlt : j < no
                · have hrl : Cells w6.heap.size wr ao L.outs.length (fun i => .int .i64 (L.outs.getD i 0)) := h'.rows.ro
                  obtain ⟨b1, off, rfl, hb1, hcc⟩ := hrl.at (by rw [HNO.out]; omega)
                  have c0 := hcc j (by rw [HNO.out]; exact hlt)
                  have hx := HGD.out.outs j (by rw [HNO.out]; exact hlt)
                  rw [HGN.out, HNR.out, HNL.out] at hx
                  have HT := OX.out j hlt
                  obtain ⟨x, ht⟩ : ∃ t, L.outs.getD j 0 = t := ⟨_, rfl⟩
                  rw [ht] at c0 hx HT
                  obtain ⟨hx0, hx1⟩ := hx
                  obtain ⟨p, rfl⟩ := Int.eq_ofNat_of_zero_le hx0
                  rw [Int.toNat_natCast] at HT
                  have HT' := hid HT
                  obtain ⟨bv, ov, rfl, hbv, hvc⟩ := (HVC6.out.stay hbe).at (by omega)
                  have u1 := hvc p (by omega)
                  have hpI : (p : Int) < ((gn + nr + nl : Nat) : Int) := by omega
                  have hjI : (j : Int) < (no : Int) := by omega
                  generalize V.getD p false = bit at u1 HT'
                  clear HT hvc hown hbe h' hrl ht hcc
                  go_wp2_with (at_builtin; refine wpList_push _ w6 wr rfl _ _ 62 rfl 4 i0 (.bool false) 1 1 Tryd.underlying62 hi hz0 hz1 hz2 rfl (by decide) w6.heap.size _ _ _ rfl HO7.out 1 1 _ rfl rfl rfl rfl ?c3 ?c4 HB7.out (Nat.le_refl _) hsz7 ?_)
                  case c3 => unfold maxLen; omega
                  case c4 => omega
                  intro v' w7 hown3 hbel3 _ _
                  have HO3 := hid hown3
                  have HB3 := hid hbel3
                  clear hown3 hbel3 HO7 HB7
                  go_wp2
                  go_roundw
                  case rel => exact ⟨j + 1, hlt, by go_num, by first | exact bitTake HO3.out HT'.out | exact (List.map_take ▸ bitTake HO3.out HT'.out), HB3.out⟩
                  case measure => simp [intOf]; omega
                · obtain rfl : no = j := by omega
                  rw [OXL.out] at HO7
                  go_wp2_with fail
                  go_ret2
                  exact ⟨_, _, rfl, by rw [HOO.out]; exact lsBase0 HO7.out (show w.heap.size ≤ w6.heap.size by omega), by rw [HNN.out]; exact lsBase0 (ownsRow_below HO.out HB7.out) (show w.heap.size ≤ w5.heap.size by omega), HB6.out.trans (HB7.out.mono (by omega))⟩
end
end Go.Proofs.YtlaeflpddehipabDoor
