/- device.Step (written by gen_dstep.py). -/
import Derived.Test.YtlaeflpddehipabDoorDNew
import Derived.Test.YtlaeflpddehipabDoorLsStep
set_option linter.unusedVariables false
set_option linter.unusedSimpArgs false
set_option linter.unusedSectionVars false
namespace Go.Proofs.YtlaeflpddehipabDoor
open Go.RowKit
attribute [local go_sem ↓] Go.wp_at_zero Go.wp_at_succ

theorem bitRow3 {w : World} {base n : Nat} {v : Value} {l : List Bool} (h : w.ownsRow base 4 1 v n (l.map .bool)) : ∃ a c, v = .slice a n c ∧ n ≤ c ∧ (a = none → n = 0 ∧ c = 0) ∧ Cells w.heap.size w a n (fun j => .bool (l.getD j false)) := by
  obtain ⟨a, c, rfl, hle, _, _⟩ := Cells.of_owns h
  exact ⟨a, c, rfl, hle, ownsNil h, bits_cells h⟩
theorem intRow {w : World} {base n c : Nat} {a : Option Addr} {l : List Int} (h : w.ownsRow base 3 1 (.slice a n c) n (l.map (.int .i64))) (hl : l.length = n) : Cells w.heap.size w a n (fun j => .int .i64 (l.getD j 0)) := by
  have := rowCells h (fun j => .int .i64 (l.getD j 0)) fun j hj => by
    rw [Nat.mul_one] at hj
    simp [List.getElem?_map, List.getElem?_eq_getElem (by omega : j < l.length)]
  rw [Nat.mul_one] at this
  exact this
theorem Cells.any0 {B : Nat} {w : World} {a : Option Addr} {m c : Nat} {f : Nat → Value} (h : Cells B w a m f) : Cells B w (if c = 0 then a else a.map (·.add (0 * 1))) m f := by
  split
  · exact h
  · rcases h with h | ⟨b, off, rfl, hB, hh⟩
    · exact .inl h
    · refine .inr ⟨b, off, ?_, hB, hh⟩
      show some ((⟨b, off, none⟩ : Addr).add (0 * 1)) = _
      unfold Addr.add
      split <;> simp_all
theorem dInRow {w : World} {base t d k : Nat} {v : Value} {ins gv : List Int} {x z : Int} (h : w.ownsRow base 4 1 v (t + d) ((dIn ins gv k).map .bool ++ (vbits x z).map .bool)) (ht : wTo ins (k + 1) = t + d) (hx : ins.getD k 0 = x) (hz : gv.getD k 0 = z) :
    w.ownsRow base 4 1 v (wTo ins (k + 1)) ((dIn ins gv (k + 1)).map .bool) := by
  subst hx hz
  rw [ht]
  unfold dIn
  rw [List.map_append]
  exact h
theorem dOutRow {w : World} {base t k e : Nat} {v : Value} {outs : List Int} {bs : List Bool} {z : Int} (h : w.ownsRow base 3 1 v (k + 1) ((dOut outs bs k).map (.int .i64) ++ #[Value.int .i64 z].toList)) (hz : vof ((bs.drop t).take e) = z) (ht : wTo outs k = t) (he : wd outs k = e) :
    w.ownsRow base 3 1 v (k + 1) ((dOut outs bs (k + 1)).map (.int .i64)) := by
  subst hz ht he
  unfold dOut
  rw [List.map_append]
  exact h
theorem grown_stay {w wD w' : World} {r : Option Nat} (h : w.grownBy wD r) (hb : Below wD.heap.size wD w') : w.grownBy w' r :=
  ⟨hb.os.trans h.os, hb.tape.trans h.tape, hb.output.trans h.output, Nat.le_trans h.size hb.size, fun k hk hne => (hb.block k (Nat.lt_of_lt_of_le hk h.size)).trans (h.block k hk hne)⟩
theorem grown_from {w W w' : World} {r : Option Nat} (hb : Below w.heap.size w W) (h : W.grownBy w' r) : w.grownBy w' r :=
  ⟨h.os.trans hb.os, h.tape.trans hb.tape, h.output.trans hb.output, Nat.le_trans hb.size h.size, fun k hk hne => (h.block k (Nat.lt_of_lt_of_le hk hb.size) hne).trans (hb.block k hk)⟩
theorem LsStep_n (B C s b : Nat) (y : Lay) (L : LN) (w : World) (regs given : List Bool) (ag : Option Addr) (cg n : Nat) (hn : given.length = n) (h : LnIn B w b y L) (hB : B ≤ C) (hC : C ≤ w.heap.size) (hs : LSim C w s b regs) (hr : L.right = true) (hrl : regs.length = L.regs.length)
    (hgv : Cells w.heap.size w ag n (fun j => .bool (given.getD j false))) (hgl : n ≤ 1000000) :
    Calls Tryd.prog 38 #[.pointer (some ⟨s, 0, none⟩), .slice ag n cg] w fun e w' =>
      ∃ v, e = .returned v ∧ w'.ownsRow w.heap.size 4 1 v L.outs.length ((L.outV regs given).map .bool) ∧ LSim C w' s b (L.next regs given) ∧ w.grownBy w' (some s) := by
  subst hn
  exact LsStep_any B C s b y L w regs given ag cg h hB hC hs hr hrl hgv hgl

set_option maxRecDepth 100000 in
set_option maxHeartbeats 6400000 in
theorem DStep_any (hp q s b n m ng : Nat) (y : Lay) (L : LN) (ai ao ag : Option Addr) (ci co cg : Nat) (ins outs gv : List Int) (regs : List Bool) (W : World)
    (hD : DBox W hp q s ai ao ci co n m ins outs) (hI : LnIn hp W b y L) (hS : LSim hp W s b regs) (hC : hp ≤ W.heap.size) (hr : L.right = true) (hrl : regs.length = L.regs.length)
    (hni : ins.length = n) (hno : outs.length = m) (hn20 : n ≤ 20) (hm20 : m ≤ 20) (hol : L.outs.length = wTo outs m) (hgl : gv.length = ng) (hng : ng ≤ 30)
    (hcg : Cells W.heap.size W ag ng (fun j => .int .i64 (gv.getD j 0))) :
    Calls Tryd.prog 26 #[.pointer (some ⟨q, 0, none⟩), .slice ag ng cg] W fun e w' =>
      ∃ v, e = .returned v ∧ w'.ownsRow W.heap.size 3 1 v m ((dOut outs (L.outV regs (dIn ins gv n)) m).map (.int .i64)) ∧ LSim hp w' s b (L.next regs (dIn ins gv n)) ∧ W.grownBy w' (some s) := by
  obtain ⟨i0, hi, hz0, hz1, hz2⟩ := info_parts Tryd.lsInfoBool
  obtain ⟨i2, hi2, hx0, hx1, hx2⟩ := info_parts Tryd.infoOutInt
  obtain ⟨hbox, hri, hro⟩ := hD
  have x1 : W.cell? ⟨q, 1, none⟩ = some (.slice ai n ci) := (cell_block hbox 1).trans rfl
  have HCI := hid (intRow hri hni)
  have HBOX := hid hbox
  have HRO := hid hro
  have HI := hid hI
  have HS := hid hS
  have HR := hid hr
  have HRL := hid hrl
  have HNO := hid hno
  have HGL := hid hgl
  have HCG := hid hcg
  obtain ⟨tu, htu⟩ : ∃ t, wTo outs m = t := ⟨_, rfl⟩
  have htul := wTo_le outs m
  rw [htu] at hol htul
  have HOL := hid hol
  have HTU := hid htu
  clear hbox hri hro hI hS hr hrl hni hno hgl hcg hol htu
  go_enter Tryd.func26, Tryd.ntmps26
  go_wp2
  go_loopw [5, 18] (fun v5 v wr => ∃ k : Nat, k ≤ n ∧ v = .int .i64 k ∧ wr.ownsRow W.heap.size 4 1 v5 (wTo ins k) ((dIn ins gv k).map .bool) ∧ Below W.heap.size W wr) (fun _ v _ => n - (intOf v).toNat)
  case atStart => exact ⟨0, Nat.zero_le _, rfl, World.ownsRow_nil _ _ _ _, Below.refl _ _⟩
  case round =>
    obtain ⟨k, hk, rfl, hown, hbe⟩ := hrel
    have hsz := hbe.size
    have HBE := hid hbe
    by_cases hlt : k < n
    · have hkI : (k : Int) < (n : Int) := by omega
      have hk0 : (0 : Int) ≤ (k : Int) := by omega
      obtain ⟨bi, oi, rfl, hbi, hci⟩ := HCI.out.at (by omega)
      have hck := (hbe.cell (p := ⟨bi, oi + k, none⟩) hbi).trans (hci k hlt)
      have hwl := wd_le ins k
      have hto := wTo_le ins k
      have hvl := vbits_len (ins.getD k 0) (gv.getD k 0)
      have HE : Hid (wTo ins (k + 1) = wTo ins k + wd ins k) := rfl
      have hwd : (vwidth (ins.getD k 0)).toNat = wd ins k := rfl
      rw [hwd] at hvl
      obtain ⟨x, hx⟩ : ∃ x, ins.getD k 0 = x := ⟨_, rfl⟩
      obtain ⟨z, hz⟩ : ∃ z, gv.getD k 0 = z := ⟨_, rfl⟩
      obtain ⟨d, hd⟩ : ∃ d, wd ins k = d := ⟨_, rfl⟩
      obtain ⟨t, ht⟩ : ∃ t, wTo ins k = t := ⟨_, rfl⟩
      rw [hd, hx, hz] at hvl
      rw [hx] at hck
      rw [hd] at hwl
      rw [ht] at hto hown
      unfold Hid at HE
      rw [hd, ht] at HE
      have HE' := hid HE
      have HX := hid hx
      have HZ := hid hz
      have HVL := hid hvl
      have HROW := hid hown
      clear hci hwd hx hd ht hvl HE hown
      by_cases hg : k < ng
      · have hgI : (k : Int) < (ng : Int) := by omega
        obtain ⟨bg, og, rfl, hbg, hcg⟩ := HCG.out.at (by omega)
        have hgk := (hbe.cell (p := ⟨bg, og + k, none⟩) hbg).trans (hcg k hg)
        rw [hz] at hgk
        clear hcg hz hbe
        go_wp2_with (first
          | (go_at_call 52; (with_reducible refine (bits_any x z wr).mono ?_); rintro e w1 ⟨v1, rfl, hv1, hb1⟩; rw [HVL.out] at hv1; obtain ⟨a1, c1, rfl, _, hnil1, hc1⟩ := bitRow3 hv1; have HO1 := hid (rowOld HROW.out hb1); have HB1 := hid (HBE.out.trans (hb1.mono hsz)); have HNEW := hid (bitsNews2 hc1 HVL.out); have HNIL1 := hid hnil1; have hsz1 := hb1.size; clear hv1 hb1 hc1 hnil1)
          | (at_builtin; refine wpSrc _ rfl _ _ 62 rfl W.heap.size 4 i0 _ 1 1 Tryd.underlying62 hi hz0 hz1 hz2 rfl (by decide) _ t ((dIn ins gv k).map .bool) rfl HO1.out a1 d c1 ((vbits x z).map .bool) rfl HNIL1.out (by simpa using HVL.out) HNEW.out (bools_one _) ?_ ?_ ?_ ?_; (focus (unfold maxLen; omega)); (focus omega); (focus omega); intro av cv w2 HP hown2 hg2; have HB2 := hid (HB1.out.grown hg2.out HB1.out.size (fun q hq => (HP.out.lt q hq).1)); have HR2 := hid (dInRow hown2.out HE'.out HX.out HZ.out); clear HP hown2 hg2))
        go_roundw
        case rel => exact ⟨k + 1, hlt, by go_num, by rw [HE'.out]; have h := HR2.out; rw [HE'.out] at h; exact h, HB2.out⟩
        case measure => simp [intOf]; omega
      · have hgI : decide ((k : Int) < (ng : Int)) = false := decide_eq_false (by omega)
        have hgN : ¬ ((k : Int) < (ng : Int)) := by omega
        have hz0 : z = 0 := by
          rw [← hz, List.getD_eq_getElem?_getD, List.getElem?_eq_none (by rw [HGL.out]; omega)]
          rfl
        subst hz0
        clear hz hbe
        go_wp2_with (first
          | (go_at_call 52; (with_reducible refine (bits_any x 0 wr).mono ?_); rintro e w1 ⟨v1, rfl, hv1, hb1⟩; rw [HVL.out] at hv1; obtain ⟨a1, c1, rfl, _, hnil1, hc1⟩ := bitRow3 hv1; have HO1 := hid (rowOld HROW.out hb1); have HB1 := hid (HBE.out.trans (hb1.mono hsz)); have HNEW := hid (bitsNews2 hc1 HVL.out); have HNIL1 := hid hnil1; have hsz1 := hb1.size; clear hv1 hb1 hc1 hnil1)
          | (at_builtin; refine wpSrc _ rfl _ _ 62 rfl W.heap.size 4 i0 _ 1 1 Tryd.underlying62 hi hz0 hz1 hz2 rfl (by decide) _ t ((dIn ins gv k).map .bool) rfl HO1.out a1 d c1 ((vbits x 0).map .bool) rfl HNIL1.out (by simpa using HVL.out) HNEW.out (bools_one _) ?_ ?_ ?_ ?_; (focus (unfold maxLen; omega)); (focus omega); (focus omega); intro av cv w2 HP hown2 hg2; have HB2 := hid (HB1.out.grown hg2.out HB1.out.size (fun q hq => (HP.out.lt q hq).1)); have HR2 := hid (dInRow hown2.out HE'.out HX.out HZ.out); clear HP hown2 hg2))
        go_roundw
        case rel => exact ⟨k + 1, hlt, by go_num, by rw [HE'.out]; have h := HR2.out; rw [HE'.out] at h; exact h, HB2.out⟩
        case measure => simp [intOf]; omega
    · obtain rfl : k = n := by omega
      obtain ⟨ti, hti⟩ : ∃ t, wTo ins k = t := ⟨_, rfl⟩
      have htil := wTo_le ins k
      have HIL := hid (dIn_len ins gv k)
      unfold Hid at HIL
      rw [hti] at HIL htil hown
      have HIL' := hid HIL
      obtain ⟨a5, c5, rfl, hle5, hnil5, hc5⟩ := bitRow3 hown
      have HC5 := hid hc5
      have HNIL5 := hid hnil5
      obtain ⟨inb, hinb⟩ : ∃ x, x = dIn ins gv k := ⟨_, rfl⟩
      have HINB := hid hinb
      rw [← hinb] at HIL' HC5
      clear hk hlt hown hti HIL hc5 hnil5 hinb
      have hboxr := (hbe.block q (boxLt HBOX.out)).trans HBOX.out
      have HBOXR := hid hboxr
      have HSR := hid (HS.out.stay hbe)
      have HIR := hid (HI.out.stay (hbe.mono hC))
      have HROR := hid (rowOld HRO.out hbe)
      have y0 : wr.cell? ⟨q, 0, none⟩ = some (.pointer (some ⟨s, 0, none⟩)) := (cell_block hboxr 0).trans rfl
      have hCr : hp ≤ wr.heap.size := by omega
      clear hboxr hbe
      go_upto_region 11 with (go_at_call 38; (with_reducible refine (LsStep_n hp hp s b y L wr regs inb a5 c5 ti HIL'.out HIR.out (Nat.le_refl _) hCr HSR.out HR.out HRL.out HC5.out (by omega)).mono ?_); rintro e wD ⟨vD, rfl, hvD, hsimD, hgD⟩; rw [HOL.out] at hvD; obtain ⟨aD, cD, rfl, hleD, _, hcD⟩ := bitRow3 hvD; have HCD := hid hcD; have HSD := hid hsimD; have HGD := hid hgD; clear hcD hvD hsimD hgD)
      obtain ⟨aS, cS, _, hsb, _⟩ := HSR.out
      have hboxD := boxGrown HBOXR.out hsb (by decide) HGD.out
      have HCO := hid (intRow (rowGrown HROR.out hsb (by decide) HGD.out) HNO.out)
      have y2 : wD.cell? ⟨q, 2, none⟩ = some (.slice ao m co) := (cell_block hboxD 2).trans rfl
      have HBS : Hid ((L.outV regs inb).length = tu) := by unfold Hid; rw [L.outV_len, HOL.out]
      have hszD := HGD.out.size
      have HGW := hid (grown_from HBE.out HGD.out)
      obtain ⟨bs, hbs⟩ : ∃ x, x = L.outV regs inb := ⟨_, rfl⟩
      have HBSE := hid hbs
      rw [← hbs] at HBS HCD
      clear hbs
      clear y0 hsb HSR HIR HROR HBOXR HGD hboxD HBE
      go_wp2_with fail
      clear y2
      go_loopw [9, 5, 48] (fun v9 v5 v wr => ∃ (k mm cc : Nat) (aa : Option Addr), k ≤ m ∧ v = .int .i64 k ∧ v5 = .slice aa mm cc ∧ mm + wTo outs k = tu ∧ mm ≤ cc ∧ Cells wD.heap.size wD aa mm (fun j => .bool ((bs.drop (wTo outs k)).getD j false)) ∧ wr.ownsRow wD.heap.size 3 1 v9 k ((dOut outs bs k).map (.int .i64)) ∧ Below wD.heap.size wD wr) (fun _ _ v _ => m - (intOf v).toNat)
      case atStart => exact ⟨0, tu, cD, aD, Nat.zero_le _, rfl, rfl, Nat.add_zero _, hleD, by simpa [wTo] using HCD.out, World.ownsRow_nil _ _ _ _, Below.refl _ _⟩
      case round =>
        obtain ⟨k2, mm, cc, aa, hk, rfl, rfl, hmm, hcc, hca, hown, hbe⟩ := hrel
        have hsz := hbe.size
        have HBE := hid hbe
        by_cases hlt : k2 < m
        · have hkI : (k2 : Int) < (m : Int) := by omega
          have hk0 : (0 : Int) ≤ (k2 : Int) := by omega
          obtain ⟨bo, oo, rfl, hbo, hco⟩ := HCO.out.at (by omega)
          have hck := (hbe.cell (p := ⟨bo, oo + k2, none⟩) hbo).trans (hco k2 hlt)
          have hwi := wd_int outs k2
          have hwl := wd_le outs k2
          have hmono := wTo_mono outs (show k2 + 1 ≤ m from hlt)
          have HE : wTo outs (k2 + 1) = wTo outs k2 + wd outs k2 := rfl
          rw [HE, HTU.out] at hmono
          obtain ⟨x, hx⟩ : ∃ x, outs.getD k2 0 = x := ⟨_, rfl⟩
          obtain ⟨e, he⟩ : ∃ d, wd outs k2 = d := ⟨_, rfl⟩
          obtain ⟨t, ht⟩ : ∃ t, wTo outs k2 = t := ⟨_, rfl⟩
          rw [hx, he] at hwi
          rw [hx] at hck
          rw [he] at hwl
          rw [ht, he] at hmono HE
          rw [ht] at hmm hca
          have HWI := hid hwi
          have HEK := hid he
          have HTK := hid ht
          have HE' := hid HE
          have HCA := hid hca
          have HROW := hid hown
          have hem : e ≤ mm := by omega
          have heI : (0 : Int) ≤ (e : Int) := by omega
          have hemI : (e : Int) ≤ (mm : Int) := by omega
          have hecI : (e : Int) ≤ (cc : Int) := by omega
          have HTL := hid (show e = ((bs.drop t).take e).length by simp [HBS.out]; omega)
          have HCH := hid (hca.head hem)
          have HMM := hid hmm
          obtain ⟨z, hz⟩ : ∃ z, vof ((bs.drop t).take e) = z := ⟨_, rfl⟩
          have HZ := hid hz
          clear hco hwi hx he ht HE hca hown hbe hz hmm
          go_wp2_with (first
            | (go_at_call 53; (with_reducible refine (width_any x _).mono ?_); rintro e w1 ⟨rfl, hw1⟩; subst w1; rw [HWI.out])
            | (go_at_call 54; (with_reducible refine (of_any wD.heap.size _ e _ ((bs.drop t).take e) _ HTL.out (by unfold maxLen; omega) (by first | exact HCH.out.stay HBE.out | exact (HCH.out.stay HBE.out).any0)).mono ?_); rintro e9 w1 ⟨rfl, hw1⟩; subst w1; rw [HZ.out])
            | (at_builtin; refine wpList_push _ wD wr rfl _ _ 24 rfl 3 i2 (.int .i64 0) 1 8 Tryd.underlying24 hi2 hx0 hx1 hx2 rfl (by decide) wD.heap.size _ _ _ rfl HROW.out 1 1 _ rfl rfl rfl rfl ?c3 ?c4 HBE.out (Nat.le_refl _) hsz ?_))
          case c3 => unfold maxLen; omega
          case c4 => omega
          intro v' w9 hown3 hbel3 _ _
          have HO3 := hid (dOutRow hown3 HZ.out HTK.out HEK.out)
          have HB3 := hid hbel3
          clear hown3 hbel3
          go_wp2
          go_roundw
          case rel =>
            refine ⟨k2 + 1, mm - e, cc - e, _, hlt, by go_num, rfl, by rw [HE'.out]; have := HMM.out; omega, by omega, ?_, HO3.out, HB3.out⟩
            rw [HE'.out, ← List.drop_drop]
            have hp := HCA.out.part hem hcc
            rw [Nat.mul_one] at hp
            exact hp
          case measure => simp [intOf]; omega
        · obtain rfl : k2 = m := by omega
          go_wp2_with fail
          go_ret
          have e1 := HBSE.out
          subst e1
          have e2 := HINB.out
          subst e2
          exact ⟨_, rfl, lsBase hown HGW.out.size, HSD.out.stay HBE.out, grown_stay HGW.out HBE.out⟩
end Go.Proofs.YtlaeflpddehipabDoor
