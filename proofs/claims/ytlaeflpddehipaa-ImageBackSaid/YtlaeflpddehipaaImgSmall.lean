/- ImageSmall, walked. -/
import Derived.Test.YtlaeflpddehipaaImaged
import Derived.Test.YtlaeflpddehipaaTabled
import Derived.Test.YtlaeflpddehipaaSmallPlain
set_option linter.unusedVariables false
namespace Go.Proofs.Ytlaeflpddehipaa
open Go.RowKit

def lnVal (y : Lay) (L : LN) : Array Value := #[.int .i64 L.given, .slice y.ar L.regs.length y.cr, .slice y.al L.luts.length y.cl, .slice y.ao L.outs.length y.co]
theorem LnRows.box {B : Nat} {w w' : World} {y : Lay} {L : LN} {T : TypeId} (h : LnRows B w y L) (hB : B ≤ w.heap.size) {b : Nat} (hb : w'.heap[b]? = some (.cells (lnVal y L) T (0, 0))) (hbw : Below w.heap.size w w') (C : Nat) (hC : b < C) (hBC : B ≤ C) : LnIn C w' b y L :=
  ⟨(cell_block hb 0).trans rfl, (cell_block hb 1).trans rfl, (cell_block hb 2).trans rfl, (cell_block hb 3).trans rfl, (h.stay (hbw.mono hB)).mono hBC, hC⟩

section
variable (B : Nat) (y : Lay) (L : LN) (w : World)

theorem small_not (h : LnRows B w y L) (hB : B ≤ w.heap.size) (ht : L.tabled = false) :
    Calls Try.prog 3 #[.agg #[.int .i64 L.given, .slice y.ar L.regs.length y.cr, .slice y.al L.luts.length y.cl, .slice y.ao L.outs.length y.co]] w (Yes w) := by
  have hb := (Below.refl w.heap.size w).alloc (Nat.le_refl _) (.cells #[.int .i64 L.given, .slice y.ar L.regs.length y.cr, .slice y.al L.luts.length y.cl, .slice y.ao L.outs.length y.co] 26)
  have hc := tabled_any B y L _ (h.stay (hb.mono hB)) (Nat.le_trans hB hb.size)
  rw [ht] at hc
  have HC := hid hc
  have HB := hid hb
  clear hc hb h
  go_enter Try.func3, Try.ntmps3
  go_wp2_with (go_at_call 12; (with_reducible refine HC.out.mono ?_); rintro e w1 ⟨rfl, hbel⟩; have HB1 := hid (HB.out.trans (hbel.mono HB.out.size)); clear hbel)
  go_ret
  exact ⟨rfl, HB1.out⟩

theorem small_wrong (h : LnRows B w y L) (hB : B ≤ w.heap.size) (ht : L.tabled = true) (hr : L.right = false) :
    Calls Try.prog 3 #[.agg #[.int .i64 L.given, .slice y.ar L.regs.length y.cr, .slice y.al L.luts.length y.cl, .slice y.ao L.outs.length y.co]] w (Yes w) := by
  have hb := (Below.refl w.heap.size w).alloc (Nat.le_refl _) (.cells #[.int .i64 L.given, .slice y.ar L.regs.length y.cr, .slice y.al L.luts.length y.cl, .slice y.ao L.outs.length y.co] 26)
  have hc := tabled_any B y L _ (h.stay (hb.mono hB)) (Nat.le_trans hB hb.size)
  have hbox := box_new w (.cells #[.int .i64 L.given, .slice y.ar L.regs.length y.cr, .slice y.al L.luts.length y.cl, .slice y.ao L.outs.length y.co] 26)
  have hin : LnIn (w.heap.size + 1) _ w.heap.size y L := h.box hB hbox hb _ (by omega) (by omega)
  rw [ht] at hc
  have HC := hid hc
  have HB := hid hb
  have HIN := hid hin
  have HR := hid hr
  have hsz : w.heap.size + 1 ≤ (w.alloc (.cells #[.int .i64 L.given, .slice y.ar L.regs.length y.cr, .slice y.al L.luts.length y.cl, .slice y.ao L.outs.length y.co] 26)).heap.size := by simp
  have HSZ := hid hsz
  clear hc hb h hbox hin hr hsz
  go_enter Try.func3, Try.ntmps3
  go_wp2_with (first
    | (go_at_call 12; (with_reducible refine HC.out.mono ?_); rintro e w1 ⟨rfl, hbel⟩; have HB1 := hid (HB.out.trans (hbel.mono HB.out.size)); have HI1 := hid (HIN.out.stay (hbel.mono HSZ.out)); have HS1 := hid (Nat.le_trans HSZ.out hbel.size); clear hbel)
    | (go_at_call 13; (with_reducible refine (imaged_any _).mono ?_); rintro e w2 ⟨rfl, hbel⟩; have HB2 := hid (HB1.out.trans (hbel.mono HB1.out.size)); have HI2 := hid (HI1.out.stay (hbel.mono HS1.out)); have HS2 := hid (Nat.le_trans HS1.out hbel.size); clear hbel)
    | (go_at_call 14; (with_reducible refine (Write_wrong _ _ y L _ HI2.out HS2.out HR.out).mono ?_); rintro e w3 ⟨rfl, hbel⟩; have HB3 := hid (HB2.out.trans (hbel.mono HB2.out.size)); have HI3 := hid (HI2.out.stay (hbel.mono HS2.out)); have HS3 := hid (Nat.le_trans HS2.out hbel.size); clear hbel)
    | (go_at_call 15; (with_reducible refine (LnRight_any _ _ y L _ HI3.out HS3.out).mono ?_); rintro e w4 ⟨rfl, hbel⟩; rw [HR.out]; have HB4 := hid (HB3.out.trans (hbel.mono HB3.out.size)); clear hbel))
  go_ret
  exact ⟨rfl, HB4.out⟩

set_option maxRecDepth 100000 in
set_option maxHeartbeats 1600000 in
theorem small_right (h : LnRows B w y L) (hB : B ≤ w.heap.size) (ht : L.tabled = true) (hr : L.right = true) :
    Calls Try.prog 3 #[.agg #[.int .i64 L.given, .slice y.ar L.regs.length y.cr, .slice y.al L.luts.length y.cl, .slice y.ao L.outs.length y.co]] w (Yes w) := by
  have hb := (Below.refl w.heap.size w).alloc (Nat.le_refl _) (.cells #[.int .i64 L.given, .slice y.ar L.regs.length y.cr, .slice y.al L.luts.length y.cl, .slice y.ao L.outs.length y.co] 26)
  have hc := tabled_any B y L _ (h.stay (hb.mono hB)) (Nat.le_trans hB hb.size)
  have hbox := box_new w (.cells #[.int .i64 L.given, .slice y.ar L.regs.length y.cr, .slice y.al L.luts.length y.cl, .slice y.ao L.outs.length y.co] 26)
  have hin : LnIn (w.heap.size + 1) _ w.heap.size y L := h.box hB hbox hb _ (by omega) (by omega)
  rw [ht] at hc
  have htp := LN.tabled_parts ht
  obtain ⟨htp1, htp2, htp3, htp4, _⟩ := htp
  have hg0 := (LN.small_numbers hr).2.1
  have HC := hid hc
  have HB := hid hb
  have HIN := hid hin
  have HR := hid hr
  have hsz : w.heap.size + 1 ≤ (w.alloc (.cells #[.int .i64 L.given, .slice y.ar L.regs.length y.cr, .slice y.al L.luts.length y.cl, .slice y.ao L.outs.length y.co] 26)).heap.size := by simp
  have HSZ := hid hsz
  have hnb := LN.bytes_between hr
  have hnl := LN.bytes_low hr
  have hss : (strOf L.bytes).size = L.bytes.length := by simp [strOf, ByteArray.size]
  have hsum := insSum_le hr L.luts.length
  rw [List.take_length] at hsum
  have hnums : L.nums = 4 + 2 * L.regs.length + 2 * L.luts.length + L.outs.length + insSum L.luts := rfl
  obtain ⟨sB, hsB⟩ : ∃ s, strOf L.bytes = s := ⟨_, rfl⟩
  rw [hsB] at hss
  have HSB := hid hsB
  have HNB := hid hnb
  have HNL := hid hnl
  have HSS := hid hss
  have HNU := hid hnums
  clear hc hb h hbox hin hr hsz hnb hnl hss hsB hnums
  go_enter Try.func3, Try.ntmps3
  go_upto_region 8 with (first
    | (go_at_call 12; (with_reducible refine HC.out.mono ?_); rintro e w1 ⟨rfl, hbel⟩; have HB1 := hid (HB.out.trans (hbel.mono HB.out.size)); have HI1 := hid (HIN.out.stay (hbel.mono HSZ.out)); have HS1 := hid (Nat.le_trans HSZ.out hbel.size); clear hbel)
    | (go_at_call 13; (with_reducible refine (imaged_any _).mono ?_); rintro e w2 ⟨rfl, hbel⟩; have HB2 := hid (HB1.out.trans (hbel.mono HB1.out.size)); have HI2 := hid (HI1.out.stay (hbel.mono HS1.out)); have HS2 := hid (Nat.le_trans HS1.out hbel.size); clear hbel)
    | (go_at_call 14; (with_reducible refine (Write_right _ _ y L _ HI2.out HS2.out HR.out).mono ?_); rintro e w3 ⟨rfl, hbel⟩; rw [HSB.out]; have HB3 := hid (HB2.out.trans (hbel.mono HB2.out.size)); have HI3 := hid (HI2.out.stay (hbel.mono HS2.out)); clear hbel))
  have c0 := HI3.out.g
  have c1 := HI3.out.regs
  have c2 := HI3.out.luts
  have c3 := HI3.out.outs
  go_wp2_with fail
  go_loopw [5, 6, 7] (fun s5 s6 s7 wr => ∃ k : Nat, k ≤ L.luts.length ∧ s7 = .int .i64 k ∧ s5 = .int .i64 ((4 + 2 * L.regs.length + 2 * L.luts.length + L.outs.length + insSum (L.luts.take k) : Nat) : Int) ∧ s6 = .int .i64 (lowTo (L.luts.take k) L.low0) ∧ wr = w3) (fun _ _ s7 _ => L.luts.length - (intOf s7).toNat)
  case atStart => exact ⟨0, Nat.zero_le _, rfl, by simp [insSum], rfl, rfl⟩
  case round =>
    obtain ⟨k, hk, rfl, rfl, rfl, rfl⟩ := hrel
    by_cases hlt : k < L.luts.length
    · have hltI : (k : Int) < (L.luts.length : Int) := by omega
      have hk0 : (0 : Int) ≤ (k : Int) := by omega
      obtain ⟨bl, off, hal, hbl, t0, t1⟩ := HI3.out.rows.rl.two k hlt
      rw [lutCell_0] at t0
      rw [lutCell_1] at t1
      have htab := LN.right_tab HR.out hlt
      have hsk := insSum_le HR.out k
      have SS := hid (insSum_succ L.luts hlt)
      have SL := hid (lowTo_succ L.luts L.low0 hlt)
      generalize L.luts.getD k LT.zero = t at *
      obtain ⟨tl, tb⟩ := t
      simp only at t0 t1 htab SS SL
      obtain ⟨htl4, htb0, htb1, -⟩ := htab
      rw [hal]
      have HAL := hid hal
      obtain ⟨NS, hNS⟩ : ∃ n, 4 + 2 * L.regs.length + 2 * L.luts.length + L.outs.length + insSum (L.luts.take k) = n := ⟨_, rfl⟩
      rw [hNS]
      have hNS2 : NS ≤ 10000 := by omega
      have HNS := hid hNS
      obtain ⟨m, hm⟩ : ∃ m, lowTo (L.luts.take k) L.low0 = m := ⟨_, rfl⟩
      rw [hm]
      have HM := hid hm
      clear hNS hm hsk
      by_cases hmx : m < tb
      all_goals
        go_wp2_with fail
        go_roundw
        case rel =>
          refine ⟨k + 1, by omega, by go_num, ?_, ?_, by first | trivial | rfl⟩
          · rw [SS.out, ← Nat.add_assoc, HNS.out]; exact val_int (by simp)
          · rw [SL.out, HM.out]; exact val_int (by omega)
        case measure => simp [intOf]; omega
    · obtain rfl : k = L.luts.length := by omega
      rw [List.take_length]
      have hn0 := HNU.out
      rw [← hn0]
      have hb1 := HNB.out
      have hb2 := HSS.out
      have hd1 : (L.nums : Int) ≤ (sB.size : Int) := by omega
      have hd2 : (sB.size : Int) ≤ 4 * (L.nums : Int) := by omega
      have hN := HNL.out
      have hnb : L.nums ≤ 10000 := by omega
      have hsb : sB.size ≤ 100000 := by omega
      have ho : decide ((127 : Int) < (L.outs.length : Int)) = false := decide_eq_false (by omega)
      generalize lowTo L.luts L.low0 = m at *
      by_cases hm : 127 < m
      · clear hN hb1 hb2 hn0
        generalize L.nums = NS at *
        go_wp2_with fail
        go_ret
        exact ⟨rfl, HB3.out⟩
      · have he : ((sB.size : Int) == (L.nums : Int)) = true := by
          have := hN (by omega) (by omega)
          rw [beq_iff_eq]; omega
        have hm' : decide (127 < m) = false := decide_eq_false hm
        clear hN hb1 hb2 hn0
        generalize L.nums = NS at *
        go_wp2_with fail
        go_ret
        exact ⟨rfl, HB3.out⟩

theorem imageSmall_any (h : LnRows B w y L) (hB : B ≤ w.heap.size) :
    Calls Try.prog 3 #[.agg #[.int .i64 L.given, .slice y.ar L.regs.length y.cr, .slice y.al L.luts.length y.cl, .slice y.ao L.outs.length y.co]] w (Yes w) := by
  cases ht : L.tabled
  · exact small_not B y L w h hB ht
  · cases hr : L.right
    · exact small_wrong B y L w h hB ht hr
    · exact small_right B y L w h hB ht hr
end
end Go.Proofs.Ytlaeflpddehipaa
