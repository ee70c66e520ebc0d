/- LutHolds, walked. -/
import Derived.Test.YtlaeflpddehipabLutTwo
import Derived.Test.YtlaeflpddehipabPacked
import Derived.Test.YtlaeflpddehipabTabled
import Derived.Deep.RegionHeld3
import Derived.Deep.DeepCutAuto
set_option linter.unusedVariables false
set_option linter.unusedSimpArgs false
namespace Go.Proofs.Ytlaeflpddehipab
open Go.RowKit
attribute [local go_sem ↓] Go.wp_at_zero Go.wp_at_succ

def lnCells (y : Lay) (L : LN) : Array Value := #[.int .i64 L.given, .slice y.ar L.regs.length y.cr, .slice y.al L.luts.length y.cl, .slice y.ao L.outs.length y.co]
theorem LnRows.boxed {B : Nat} {w w' : World} {y : Lay} {L : LN} {T : TypeId} (h : LnRows B w y L) (hB : B ≤ w.heap.size) {b : Nat} (hb : w'.heap[b]? = some (.cells (lnCells y L) T (0, 0))) (hbw : Below w.heap.size w w') (C : Nat) (hC : b < C) (hBC : B ≤ C) : LnIn C w' b y L :=
  ⟨(cell_block hb 0).trans rfl, (cell_block hb 1).trans rfl, (cell_block hb 2).trans rfl, (cell_block hb 3).trans rfl, (h.stay (hbw.mono hB)).mono hBC, hC⟩
section
variable (B : Nat) (y : Lay) (L : LN) (a1 a2 a3 : Option Addr) (n1 n2 n3 c1 c2 c3 : Nat) (w : World)
set_option maxHeartbeats 1600000 in
theorem lut_long (h : LnRows B w y L) (hB : B ≤ w.heap.size) (hl : L.tabled = false ∨ 15 < n1 ∨ 15 < n2 ∨ 15 < n3) :
    Calls Try.prog 3 #[.agg #[.int .i64 L.given, .slice y.ar L.regs.length y.cr, .slice y.al L.luts.length y.cl, .slice y.ao L.outs.length y.co], .slice a1 n1 c1, .slice a2 n2 c2, .slice a3 n3 c3] w (Yes w) := by
  have hb := (Below.refl w.heap.size w).alloc (Nat.le_refl _) (.cells #[.int .i64 L.given, .slice y.ar L.regs.length y.cr, .slice y.al L.luts.length y.cl, .slice y.ao L.outs.length y.co] 26)
  have hc := tabled_any B y L _ (h.stay (hb.mono hB)) (Nat.le_trans hB hb.size)
  have HB := hid hb
  clear hb h
  cases ht : L.tabled
  · rw [ht] at hc
    have HC := hid hc
    clear hc hl ht
    go_enter Try.func3, Try.ntmps3
    go_wp2_with (go_at_call 4; (with_reducible refine HC.out.mono ?_); rintro e w1 ⟨rfl, hbel⟩; have HB1 := hid (HB.out.trans (hbel.mono HB.out.size)); clear hbel)
    go_ret
    exact ⟨rfl, HB1.out⟩
  · rw [ht] at hc
    have HC := hid hc
    clear hc
    by_cases h1 : 15 < n1
    · have d1 : (15 : Int) < (n1 : Int) := by omega
      clear hl ht
      go_enter Try.func3, Try.ntmps3
      go_wp2_with (go_at_call 4; (with_reducible refine HC.out.mono ?_); rintro e w1 ⟨rfl, hbel⟩; have HB1 := hid (HB.out.trans (hbel.mono HB.out.size)); clear hbel)
      go_ret
      exact ⟨rfl, HB1.out⟩
    · have d1 : decide ((15 : Int) < (n1 : Int)) = false := decide_eq_false (by omega)
      by_cases h2 : 15 < n2
      · have d2 : (15 : Int) < (n2 : Int) := by omega
        clear hl ht
        go_enter Try.func3, Try.ntmps3
        go_wp2_with (go_at_call 4; (with_reducible refine HC.out.mono ?_); rintro e w1 ⟨rfl, hbel⟩; have HB1 := hid (HB.out.trans (hbel.mono HB.out.size)); clear hbel)
        go_ret
        exact ⟨rfl, HB1.out⟩
      · have d2 : decide ((15 : Int) < (n2 : Int)) = false := decide_eq_false (by omega)
        have d3 : (15 : Int) < (n3 : Int) := by
          rcases hl with h | h | h | h
          · rw [ht] at h; cases h
          all_goals omega
        clear hl ht
        go_enter Try.func3, Try.ntmps3
        go_wp2_with (go_at_call 4; (with_reducible refine HC.out.mono ?_); rintro e w1 ⟨rfl, hbel⟩; have HB1 := hid (HB.out.trans (hbel.mono HB.out.size)); clear hbel)
        go_ret
        exact ⟨rfl, HB1.out⟩
set_option maxHeartbeats 1600000 in
theorem lut_wrong (h : LnRows B w y L) (hB : B ≤ w.heap.size) (ht : L.tabled = true) (h1 : n1 ≤ 15) (h2 : n2 ≤ 15) (h3 : n3 ≤ 15) (hr : L.right = false) :
    Calls Try.prog 3 #[.agg #[.int .i64 L.given, .slice y.ar L.regs.length y.cr, .slice y.al L.luts.length y.cl, .slice y.ao L.outs.length y.co], .slice a1 n1 c1, .slice a2 n2 c2, .slice a3 n3 c3] w (Yes w) := by
  have hb := (Below.refl w.heap.size w).alloc (Nat.le_refl _) (.cells #[.int .i64 L.given, .slice y.ar L.regs.length y.cr, .slice y.al L.luts.length y.cl, .slice y.ao L.outs.length y.co] 26)
  have hc := tabled_any B y L _ (h.stay (hb.mono hB)) (Nat.le_trans hB hb.size)
  have hbox := alloc_at w (.cells #[.int .i64 L.given, .slice y.ar L.regs.length y.cr, .slice y.al L.luts.length y.cl, .slice y.ao L.outs.length y.co] 26)
  have hin : LnIn (w.heap.size + 1) _ w.heap.size y L := h.boxed hB hbox hb _ (by omega) (by omega)
  rw [ht] at hc
  have HC := hid hc
  have HB := hid hb
  have HIN := hid hin
  have HR := hid hr
  have hsz : w.heap.size + 1 ≤ (w.alloc (.cells #[.int .i64 L.given, .slice y.ar L.regs.length y.cr, .slice y.al L.luts.length y.cl, .slice y.ao L.outs.length y.co] 26)).heap.size := by simp
  have HSZ := hid hsz
  have d1 : decide ((15 : Int) < (n1 : Int)) = false := decide_eq_false (by omega)
  have d2 : decide ((15 : Int) < (n2 : Int)) = false := decide_eq_false (by omega)
  have d3 : decide ((15 : Int) < (n3 : Int)) = false := decide_eq_false (by omega)
  clear hc hb h hbox hin hr hsz ht
  go_enter Try.func3, Try.ntmps3
  go_wp2_with (first
    | (go_at_call 4; (with_reducible refine HC.out.mono ?_); rintro e w1 ⟨rfl, hbel⟩; have HB1 := hid (HB.out.trans (hbel.mono HB.out.size)); have HI1 := hid (HIN.out.stay (hbel.mono HSZ.out)); have HS1 := hid (Nat.le_trans HSZ.out hbel.size); clear hbel)
    | (go_at_call 5; (with_reducible refine (packed_any _).mono ?_); rintro e w2 ⟨rfl, hbel⟩; have HB2 := hid (HB1.out.trans (hbel.mono HB1.out.size)); have HI2 := hid (HI1.out.stay (hbel.mono HS1.out)); have HS2 := hid (Nat.le_trans HS1.out hbel.size); clear hbel)
    | (go_at_call 6; (with_reducible refine (LsNew_wrong _ _ y L w2 HI2.out HS2.out HR.out).mono ?_); rintro e w3 ⟨rfl, hbel⟩; have HB3 := hid (HB2.out.trans (hbel.mono HB2.out.size)); have HI3 := hid (HI2.out.stay (hbel.mono HS2.out)); have HS3 := hid (Nat.le_trans HS2.out hbel.size); clear hbel)
    | (go_at_call 6; (with_reducible refine (LsNew_wrong _ _ y L w3 HI3.out HS3.out HR.out).mono ?_); rintro e w4 ⟨rfl, hbel⟩; have HB4 := hid (HB3.out.trans (hbel.mono HB3.out.size)); have HI4 := hid (HI3.out.stay (hbel.mono HS3.out)); have HS4 := hid (Nat.le_trans HS3.out hbel.size); clear hbel)
    | (go_at_call 7; (with_reducible refine (LnRight_any _ _ y L _ HI4.out HS4.out).mono ?_); rintro e w5 ⟨rfl, hbel⟩; rw [HR.out]; have HB5 := hid (HB4.out.trans (hbel.mono HB4.out.size)); clear hbel))
  go_ret
  exact ⟨rfl, HB5.out⟩
end
section
variable (B : Nat) (y : Lay) (L : LN) (a1 a2 a3 : Option Addr) (n1 n2 n3 c1 c2 c3 : Nat) (g1 g2 g3 : List (List Bool)) (A1 A2 A3 : Nat → Option Addr) (C1 C2 C3 : Nat → Nat) (w : World)
set_option maxRecDepth 100000 in
set_option maxHeartbeats 6400000 in
theorem lut_right (h : LnRows B w y L) (hB : B ≤ w.heap.size) (ht : L.tabled = true) (h1 : n1 ≤ 15) (h2 : n2 ≤ 15) (h3 : n3 ≤ 15) (hr : L.right = true) (hg1 : GivenRows w.heap.size w a1 g1 A1 C1) (hg2 : GivenRows w.heap.size w a2 g2 A2 C2) (hg3 : GivenRows w.heap.size w a3 g3 A3 C3) (hn1 : g1.length = n1) (hn2 : g2.length = n2) (hn3 : g3.length = n3) :
    Calls Try.prog 3 #[.agg #[.int .i64 L.given, .slice y.ar L.regs.length y.cr, .slice y.al L.luts.length y.cl, .slice y.ao L.outs.length y.co], .slice a1 n1 c1, .slice a2 n2 c2, .slice a3 n3 c3] w (Yes w) := by
  have hb := (Below.refl w.heap.size w).alloc (Nat.le_refl _) (.cells #[.int .i64 L.given, .slice y.ar L.regs.length y.cr, .slice y.al L.luts.length y.cl, .slice y.ao L.outs.length y.co] 26)
  have hc := tabled_any B y L _ (h.stay (hb.mono hB)) (Nat.le_trans hB hb.size)
  have hbox := alloc_at w (.cells #[.int .i64 L.given, .slice y.ar L.regs.length y.cr, .slice y.al L.luts.length y.cl, .slice y.ao L.outs.length y.co] 26)
  have hin : LnIn (w.heap.size + 1) _ w.heap.size y L := h.boxed hB hbox hb _ (by omega) (by omega)
  rw [ht] at hc
  have HC := hid hc
  have HB := hid hb
  have HIN := hid hin
  have HR := hid hr
  have hsz : w.heap.size + 1 ≤ (w.alloc (.cells #[.int .i64 L.given, .slice y.ar L.regs.length y.cr, .slice y.al L.luts.length y.cl, .slice y.ao L.outs.length y.co] 26)).heap.size := by simp
  have HSZ := hid hsz
  have d1 : decide ((15 : Int) < (n1 : Int)) = false := decide_eq_false (by omega)
  have d2 : decide ((15 : Int) < (n2 : Int)) = false := decide_eq_false (by omega)
  have d3 : decide ((15 : Int) < (n3 : Int)) = false := decide_eq_false (by omega)
  have HG1 := hid hg1
  have HG2 := hid hg2
  have HG3 := hid hg3
  have HN1 := hid hn1
  have HN2 := hid hn2
  have HN3 := hid hn3
  clear hc hb h hbox hin hr hsz ht hg1 hg2 hg3 hn1 hn2 hn3
  go_enter Try.func3, Try.ntmps3
  go_upto_region 11 with (first
    | (go_at_call 4; (with_reducible refine HC.out.mono ?_); rintro e w1 ⟨rfl, hbel⟩; have HB1 := hid (HB.out.trans (hbel.mono HB.out.size)); have HI1 := hid (HIN.out.stay (hbel.mono HSZ.out)); have HS1 := hid (Nat.le_trans HSZ.out hbel.size); clear hbel)
    | (go_at_call 5; (with_reducible refine (packed_any _).mono ?_); rintro e w2 ⟨rfl, hbel⟩; have HB2 := hid (HB1.out.trans (hbel.mono HB1.out.size)); have HI2 := hid (HI1.out.stay (hbel.mono HS1.out)); have HS2 := hid (Nat.le_trans HS1.out hbel.size); clear hbel)
    | (go_at_call 6; (with_reducible refine (LsNew_right _ _ y L w2 HI2.out HS2.out HR.out).mono ?_); rintro e w3 ⟨sA, rfl, hsim, hbel⟩; have HA3 := hid hsim; have HL3 := hid hbel; have HB3 := hid (HB2.out.trans (hbel.mono HB2.out.size)); have HI3 := hid (HI2.out.stay (hbel.mono HS2.out)); have HS3 := hid (Nat.le_trans HS2.out hbel.size); clear hbel hsim)
    | (go_at_call 6; (with_reducible refine (LsNew_right _ _ y L w3 HI3.out HS3.out HR.out).mono ?_); rintro e w4 ⟨sB, rfl, hsim, hbel⟩; have HA4 := hid hsim; have HL4 := hid hbel; have HB4 := hid (HB3.out.trans (hbel.mono HB3.out.size)); have HI4 := hid (HI3.out.stay (hbel.mono HS3.out)); have HS4 := hid (Nat.le_trans HS3.out hbel.size); clear hbel hsim)
    | (go_at_call 7; (with_reducible refine (LnRight_any _ _ y L _ HI4.out HS4.out).mono ?_); rintro e w5 ⟨rfl, hbel⟩; rw [HR.out]; have HB5 := hid (HB4.out.trans (hbel.mono HB4.out.size)); have HL5 := hid hbel; clear hbel))
  have HT : Hid (LTwo w w2.heap.size w.heap.size sA sB y L L.first L.first w5) := by
    have hA := HA3.out
    have h3 := HL3.out.size
    have h4 := HL4.out.size
    have h5 := HL5.out.size
    have hlt := hA.lt
    have hge := HA4.out.ge
    have hb2 := HB2.out.size
    have hi4 := HI4.out.mono HS2.out
    exact ⟨hi4.stay (HL5.out.mono (by omega)), by omega, HR.out, by omega, (HA3.out.stay HL4.out).stay HL5.out, (HA4.out.base h3).stay HL5.out, L.first_len, L.first_len, HB5.out, hb2⟩
  have HNR := hid (show L.regs.length = L.regs.length from rfl)
  clear HB HB1 HB2 HB3 HB4 HB5 HI1 HI2 HI3 HI4 HS1 HS2 HS3 HS4 HL3 HL4 HL5 HA3 HA4 HC HIN HSZ d1 d2 d3
  obtain ⟨CC, hCC⟩ : ∃ C, C = w2.heap.size := ⟨_, rfl⟩
  rw [← hCC] at HT
  clear hCC
  go_wp2_with fail
  go_loopw [13] (fun v wr => ∃ (i : Nat) (r : List Bool), i ≤ n1 ∧ v = .int .i64 i ∧ LTwo w CC w.heap.size sA sB y L r L.first wr) (fun v _ => n1 - (intOf v).toNat)
  case atStart => exact ⟨0, _, Nat.zero_le _, rfl, HT.out⟩
  case round =>
    obtain ⟨i, r, hi, rfl, ht⟩ := hrel
    by_cases hlt : i < n1
    · have hltI : (i : Int) < (n1 : Int) := by omega
      have hi0 : (0 : Int) ≤ (i : Int) := by omega
      obtain ⟨bg, og, gv, nv, av, cv, rfl, hbg, hcell, hrow, hnv, hm⟩ := lutRow HG1.out HN1.out hlt
      have hgr := ht.cell hcell hbg
      have HROW := hid hrow
      clear hrow hcell
      go_wp2_with (go_at_call 8; (with_reducible refine (two_stepA _ rfl ht HROW.out hnv hm).mono ?_); rintro e w6 ⟨a, c, rfl, -, ht6, -⟩; have HT6 := hid ht6; clear ht6)
      go_roundw
      case rel => exact ⟨i + 1, _, hlt, by go_num, HT6.out⟩
      case measure => simp [intOf]; omega
    · obtain rfl : i = n1 := by omega
      have HT13 := hid ht
      clear ht hlt hi
      obtain ⟨rA, hrA⟩ : ∃ rA, rA = r := ⟨_, rfl⟩
      rw [← hrA] at HT13
      clear hrA r
      go_wp2_with fail
      go_loopw [14] (fun v wr => ∃ (i : Nat) (r : List Bool), i ≤ n2 ∧ v = .int .i64 i ∧ LTwo w CC w.heap.size sA sB y L rA r wr) (fun v _ => n2 - (intOf v).toNat)
      case atStart => exact ⟨0, _, Nat.zero_le _, rfl, HT13.out⟩
      case round =>
        obtain ⟨i, r, hi, rfl, ht⟩ := hrel
        by_cases hlt : i < n2
        · have hltI : (i : Int) < (n2 : Int) := by omega
          have hi0 : (0 : Int) ≤ (i : Int) := by omega
          obtain ⟨bg, og, gv, nv, av, cv, rfl, hbg, hcell, hrow, hnv, hm⟩ := lutRow HG2.out HN2.out hlt
          have hgr := ht.cell hcell hbg
          have HROW := hid hrow
          clear hrow hcell
          go_wp2_with (go_at_call 8; (with_reducible refine (two_stepB _ rfl ht HROW.out hnv hm).mono ?_); rintro e w6 ⟨a, c, rfl, -, ht6, -⟩; have HT6 := hid ht6; clear ht6)
          go_roundw
          case rel => exact ⟨i + 1, _, hlt, by go_num, HT6.out⟩
          case measure => simp [intOf]; omega
        · obtain rfl : i = n2 := by omega
          have HT14 := hid ht
          clear ht hlt hi
          go_wp2_with (first
            | (go_at_call 10; (with_reducible refine (two_regsA _ rfl HT14.out).mono ?_); rintro e w7 ⟨a, c, rfl, hv, ht7, -⟩; have HV7 := hid hv; have HT7 := hid ht7; clear hv ht7)
            | (go_at_call 9; (with_reducible refine (two_put _ rfl HT7.out HV7.out).mono ?_); rintro e w8 ⟨rfl, ht8⟩; have HTP := hid ht8; clear ht8))
          go_loopw [15] (fun v wr => ∃ (i : Nat) (r : List Bool), i ≤ n3 ∧ v = .int .i64 i ∧ LTwo w CC w.heap.size sA sB y L r r wr) (fun v _ => n3 - (intOf v).toNat)
          case atStart => exact ⟨0, _, Nat.zero_le _, rfl, HTP.out⟩
          case round =>
            obtain ⟨i, r, hi, rfl, ht⟩ := hrel
            by_cases hlt : i < n3
            · have hltI : (i : Int) < (n3 : Int) := by omega
              have hi0 : (0 : Int) ≤ (i : Int) := by omega
              obtain ⟨bg, og, gv, nv, av, cv, rfl, hbg, hcell, hrow, hnv, hm⟩ := lutRow HG3.out HN3.out hlt
              have hgr := ht.cell hcell hbg
              have HROW := hid hrow
              have HC0 := hid hcell
              have HLEN := hid (L.outV_len r gv)
              have HS := hid ht.small
              obtain ⟨no, hno⟩ : ∃ no, L.outs.length = no := ⟨_, rfl⟩
              have HNO := hid hno
              obtain ⟨nr, hnr⟩ : ∃ nr, L.regs.length = nr := ⟨_, rfl⟩
              have HNR := hid hnr
              have HRL := hid (L.next_len r gv)
              clear hrow hcell hgr hno hnr
              go_upto_region 24 with fail
              go_cut [114] (fun sx wx => sx = .bool false ∧ LTwo w CC w.heap.size sA sB y L (L.next r gv) (L.next r gv) wx)
              case first =>
                go_region_held3 (fun w' => w'.cell? ⟨bg, og + i, none⟩ = some (.slice av nv cv))
                  (first | exact LTwo.cell (by assumption) HC0.out hbg | exact LTwo.cell (LTwo.drew (by assumption)) HC0.out hbg)
                  (first
                    | (go_at_call 8; (with_reducible refine (two_stepA no HNO.out (by first | assumption | exact LTwo.drew (by assumption)) HROW.out hnv hm).mono ?_); rintro e wA ⟨a, c, rfl, hv, htA, hgA⟩; have HV1 := hid hv; clear hv hgA)
                    | (go_at_call 8; (with_reducible refine (two_stepB no HNO.out htA HROW.out hnv hm).mono ?_); rintro e wB ⟨a', c', rfl, hv, htB, hgB⟩; have HV2 := hid hv; have HV1' := hid (two_keepB htA HV1.out hgB); clear hv hgB)
                    | (go_at_call 11; (with_reducible refine (two_equal htB (HLEN.out.trans HNO.out) (by have := HS.out; have := HNO.out; omega) HV1'.out HV2.out).mono ?_); rintro e wC ⟨rfl, htC⟩)
                    | (go_at_call 10; (with_reducible refine (two_regsA nr HNR.out htC).mono ?_); rintro e wD ⟨a, c, rfl, hv, htD, hbD⟩; have HR1 := hid hv; clear hv hbD)
                    | (go_at_call 10; (with_reducible refine (two_regsB nr HNR.out htD).mono ?_); rintro e wE ⟨a', c', rfl, hv, htE, hbE⟩; have HR2 := hid hv; have HR1' := hid (rowOld HR1.out hbE); clear hv hbE)
                    | (go_at_call 11; (with_reducible refine (two_equal htE (HRL.out.trans HNR.out) (by have := HS.out; have := HNR.out; omega) HR1'.out HR2.out).mono ?_); rintro e wF ⟨rfl, htF⟩)
                    | fail)
                all_goals (go_wp2_with fail; go_meet; exact ⟨rfl, by assumption⟩)
              case rest =>
              obtain ⟨rfl, htn⟩ := hcut
              obtain ⟨w9, rfl⟩ : ∃ wo : World, wo = wc := ⟨_, rfl⟩
              have HTN := hid htn
              clear ht htn
              go_wp2_with fail
              go_roundw
              case rel => exact ⟨i + 1, _, hlt, by go_num, HTN.out⟩
              case measure => simp [intOf]; omega
            · obtain rfl : i = n3 := by omega
              have HT15 := hid ht
              clear ht hlt hi
              go_wp2_with fail
              go_ret
              exact ⟨rfl, HT15.out.low⟩
end
theorem lutHolds_any (B : Nat) (y : Lay) (L : LN) (a1 a2 a3 : Option Addr) (c1 c2 c3 : Nat) (g1 g2 g3 : List (List Bool)) (A1 A2 A3 : Nat → Option Addr) (C1 C2 C3 : Nat → Nat) (w : World) (h : LnRows B w y L) (hB : B ≤ w.heap.size) (hg1 : GivenRows w.heap.size w a1 g1 A1 C1) (hg2 : GivenRows w.heap.size w a2 g2 A2 C2) (hg3 : GivenRows w.heap.size w a3 g3 A3 C3) :
    Calls Try.prog 3 #[.agg #[.int .i64 L.given, .slice y.ar L.regs.length y.cr, .slice y.al L.luts.length y.cl, .slice y.ao L.outs.length y.co], .slice a1 g1.length c1, .slice a2 g2.length c2, .slice a3 g3.length c3] w (Yes w) := by
  by_cases hl : L.tabled = false ∨ 15 < g1.length ∨ 15 < g2.length ∨ 15 < g3.length
  · exact lut_long B y L a1 a2 a3 _ _ _ c1 c2 c3 w h hB hl
  · have ht : L.tabled = true := by cases ht : L.tabled <;> simp_all
    have h1 : g1.length ≤ 15 := by omega
    have h2 : g2.length ≤ 15 := by omega
    have h3 : g3.length ≤ 15 := by omega
    cases hr : L.right
    · exact lut_wrong B y L a1 a2 a3 _ _ _ c1 c2 c3 w h hB ht h1 h2 h3 hr
    · exact lut_right B y L a1 a2 a3 _ _ _ c1 c2 c3 g1 g2 g3 A1 A2 A3 C1 C2 C3 w h hB ht h1 h2 h3 hr hg1 hg2 hg3 rfl rfl rfl
end Go.Proofs.Ytlaeflpddehipab
