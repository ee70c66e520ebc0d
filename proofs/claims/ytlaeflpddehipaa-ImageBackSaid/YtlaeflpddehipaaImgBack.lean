/- ImageBack, walked. -/
import Derived.Test.YtlaeflpddehipaaParse
import Derived.Test.YtlaeflpddehipaaAlike
import Derived.Test.YtlaeflpddehipaaImgSmall
import Derived.Test.YtlaeflpddehipaaValUse
set_option linter.unusedVariables false
namespace Go.Proofs.Ytlaeflpddehipaa
open Go.RowKit

theorem bl_strOf {l : List Nat} (h : AllBytes l) : bl (strOf l) = l := by
  unfold bl strOf
  simp only
  rw [List.map_map]
  conv => rhs; rw [← List.map_id l]
  refine List.map_congr_left fun x hx => ?_
  have := h x hx
  simp [UInt8.toNat_ofNat', Nat.mod_eq_of_lt this]
theorem strOf_bl (s : ByteArray) : strOf (bl s) = s := by
  unfold bl strOf
  rw [List.map_map]
  have e : (UInt8.ofNat ∘ UInt8.toNat) = id := by funext x; simp
  rw [e, List.map_id]
theorem strOf_size (l : List Nat) : (strOf l).size = l.length := by simp [strOf, ByteArray.size]
theorem bl_take (s : ByteArray) (k : Nat) : bl (s.extract 0 k) = (bl s).take k := by
  unfold bl
  rw [← List.map_take]
  congr 1
  rw [ByteArray.data_extract, Array.toList_extract, List.extract_eq_take_drop]
  simp

section
variable (B : Nat) (y : Lay) (L : LN) (s : ByteArray) (cut : Int) (w : World)

theorem back_not (h : LnRows B w y L) (hB : B ≤ w.heap.size) (ht : L.tabled = false) :
    Calls Try.prog 8 #[.agg #[.int .i64 L.given, .slice y.ar L.regs.length y.cr, .slice y.al L.luts.length y.cl, .slice y.ao L.outs.length y.co], .string s, .int .i64 cut] w (Yes w) := by
  have hb := (Below.refl w.heap.size w).alloc (Nat.le_refl _) (.cells #[.int .i64 L.given, .slice y.ar L.regs.length y.cr, .slice y.al L.luts.length y.cl, .slice y.ao L.outs.length y.co] 26)
  have hc := tabled_any B y L _ (h.stay (hb.mono hB)) (Nat.le_trans hB hb.size)
  rw [ht] at hc
  have HC := hid hc
  have HB := hid hb
  clear hc hb h
  go_enter Try.func8, Try.ntmps8
  go_wp2_with (go_at_call 12; (with_reducible refine HC.out.mono ?_); rintro e w1 ⟨rfl, hbel⟩; have HB1 := hid (HB.out.trans (hbel.mono HB.out.size)); clear hbel)
  go_ret
  exact ⟨rfl, HB1.out⟩

theorem back_long (h : LnRows B w y L) (hB : B ≤ w.heap.size) (ht : L.tabled = true) (hs : 500 < s.size) :
    Calls Try.prog 8 #[.agg #[.int .i64 L.given, .slice y.ar L.regs.length y.cr, .slice y.al L.luts.length y.cl, .slice y.ao L.outs.length y.co], .string s, .int .i64 cut] w (Yes w) := by
  have hb := (Below.refl w.heap.size w).alloc (Nat.le_refl _) (.cells #[.int .i64 L.given, .slice y.ar L.regs.length y.cr, .slice y.al L.luts.length y.cl, .slice y.ao L.outs.length y.co] 26)
  have hc := tabled_any B y L _ (h.stay (hb.mono hB)) (Nat.le_trans hB hb.size)
  rw [ht] at hc
  have HC := hid hc
  have HB := hid hb
  have hsI : (500 : Int) < (s.size : Int) := by omega
  clear hc hb h
  go_enter Try.func8, Try.ntmps8
  go_wp2_with (go_at_call 12; (with_reducible refine HC.out.mono ?_); rintro e w1 ⟨rfl, hbel⟩; have HB1 := hid (HB.out.trans (hbel.mono HB.out.size)); clear hbel)
  go_ret
  exact ⟨rfl, HB1.out⟩

theorem parse_yes {s : ByteArray} (hs : s.size ≤ 1000000) (hp : parses (bl s) = true) (w : World) : Calls Try.prog 35 #[.string s] w (ParseYes s w) := by
  refine (Parse_any s hs w).mono ?_
  intro e w' h
  unfold ParsePost at h
  rw [if_pos hp] at h
  exact h
theorem parse_no {s : ByteArray} (hs : s.size ≤ 1000000) (hp : parses (bl s) = false) (w : World) : Calls Try.prog 35 #[.string s] w (ParseNo w) := by
  refine (Parse_any s hs w).mono ?_
  intro e w' h
  unfold ParsePost at h
  rw [if_neg (by rw [hp]; decide)] at h
  exact h
theorem not_begun {L : LN} {sB : ByteArray} (h : L.right = true) (hb : bl sB = L.bytes) {k : Nat} (hk : k < sB.size) : parses (bl (sB.extract 0 k)) = false := by
  cases hp : parses (bl (sB.extract 0 k)) with
  | false => rfl
  | true =>
    rw [bl_take, hb] at hp
    have := parses_prefix h (p := L.bytes.take k) (q := L.bytes.drop k) (List.take_append_drop k _).symm hp
    have hl := congrArg List.length this
    have hl2 := bl_len sB
    rw [hb] at hl2
    simp at hl
    omega

set_option maxRecDepth 100000 in
set_option maxHeartbeats 3200000 in
theorem back_any (h : LnRows B w y L) (hB : B ≤ w.heap.size) (ht : L.tabled = true) (hs : s.size ≤ 500) :
    Calls Try.prog 8 #[.agg #[.int .i64 L.given, .slice y.ar L.regs.length y.cr, .slice y.al L.luts.length y.cl, .slice y.ao L.outs.length y.co], .string s, .int .i64 cut] w (Yes w) := by
  have hb := (Below.refl w.heap.size w).alloc (Nat.le_refl _) (.cells #[.int .i64 L.given, .slice y.ar L.regs.length y.cr, .slice y.al L.luts.length y.cl, .slice y.ao L.outs.length y.co] 26)
  have hc := tabled_any B y L _ (h.stay (hb.mono hB)) (Nat.le_trans hB hb.size)
  have hbox := box_new w (.cells #[.int .i64 L.given, .slice y.ar L.regs.length y.cr, .slice y.al L.luts.length y.cl, .slice y.ao L.outs.length y.co] 26)
  have hin : LnIn (w.heap.size + 1) _ w.heap.size y L := h.box hB hbox hb _ (by omega) (by omega)
  rw [ht] at hc
  have hsI : decide ((500 : Int) < (s.size : Int)) = false := decide_eq_false (by omega)
  have HC := hid hc
  have HB := hid hb
  have HIN := hid hin
  have hsz : w.heap.size + 1 ≤ (w.alloc (.cells #[.int .i64 L.given, .slice y.ar L.regs.length y.cr, .slice y.al L.luts.length y.cl, .slice y.ao L.outs.length y.co] 26)).heap.size := by simp
  have HSZ := hid hsz
  have hP := Parse_any s (by omega)
  have HP := hid hP
  clear hc hb h hbox hin hsz ht hP
  go_enter Try.func8, Try.ntmps8
  go_upto_region 5 with (first
    | (go_at_call 12; (with_reducible refine HC.out.mono ?_); rintro e w1 ⟨rfl, hbel⟩; have HB1 := hid (HB.out.trans (hbel.mono HB.out.size)); have HI1 := hid (HIN.out.stay (hbel.mono HSZ.out)); have HS1 := hid (Nat.le_trans HSZ.out hbel.size); clear hbel)
    | (go_at_call 13; (with_reducible refine (imaged_any _).mono ?_); rintro e w2 ⟨rfl, hbel⟩; have HB2 := hid (HB1.out.trans (hbel.mono HB1.out.size)); have HI2 := hid (HI1.out.stay (hbel.mono HS1.out)); have HS2 := hid (Nat.le_trans HS1.out hbel.size); clear hbel))
  have hs6 : s.size ≤ 1000000 := by omega
  clear hsI
  have hfirst : ∀ W W' : World, Below w.heap.size w W → LnIn (w.heap.size + 1) W w.heap.size y L → w.heap.size + 1 ≤ W.heap.size → Below W.heap.size W W' → Below w.heap.size w W' ∧ LnIn (w.heap.size + 1) W' w.heap.size y L ∧ w.heap.size + 1 ≤ W'.heap.size :=
    fun _ _ h1 h2 h3 hb => ⟨h1.trans (hb.mono h1.size), h2.stay (hb.mono h3), Nat.le_trans h3 hb.size⟩
  have HF := hid hfirst
  clear hfirst
  cases hp : parses (bl s)
  case' false =>
    have HPA := hid hp
    clear hp
    go_upto_region 10 with (go_at_call 35; (with_reducible refine (parse_no hs6 HPA.out _).mono ?_); rintro e w3 ⟨rfl, hbel⟩; obtain ⟨q1, q2, q3⟩ := HF.out _ _ HB2.out HI2.out HS2.out hbel; have HB3 := hid q1; have HI3 := hid q2; have HS3 := hid q3; clear hbel q1 q2 q3)
  case' true =>
    have HPA := hid hp
    obtain ⟨z1, z2⟩ := parses_bytes (bl_bytes s) hp
    have HZ1 := hid z1
    have HZ2 : Hid (strOf (run (bl s)).1.bytes = s) := by unfold Hid; rw [z2]; exact strOf_bl s
    clear hp z1 z2
    go_upto_region 10 with (first
      | (go_at_call 35; (with_reducible refine (parse_yes hs6 HPA.out _).mono ?_); rintro e wp ⟨bn, yn, rfl, hn, hbel⟩; obtain ⟨q1, q2, q3⟩ := HF.out _ _ HB2.out HI2.out HS2.out hbel; have HBp := hid q1; have HIp := hid q2; have HSp := hid q3; have HNp := hid hn; clear hbel q1 q2 q3 hn)
      | (go_at_call 14; (with_reducible refine (Write_right _ _ _ _ _ HNp.out (Nat.le_refl _) HZ1.out).mono ?_); rintro e w3 ⟨rfl, hbel⟩; rw [HZ2.out]; obtain ⟨q1, q2, q3⟩ := HF.out _ _ HBp.out HIp.out HSp.out hbel; have HB3 := hid q1; have HI3 := hid q2; have HS3 := hid q3; clear hbel q1 q2 q3))
  all_goals
    cases hr : L.right
    · have HR := hid hr
      clear hr
      go_wp2_with (first
        | (go_at_call 14; (with_reducible refine (Write_wrong _ _ y L _ HI3.out HS3.out HR.out).mono ?_); rintro e w4 ⟨rfl, hbel⟩; obtain ⟨q1, q2, q3⟩ := HF.out _ _ HB3.out HI3.out HS3.out hbel; have HB4 := hid q1; have HI4 := hid q2; have HS4 := hid q3; clear hbel q1 q2 q3)
        | (go_at_call 15; (with_reducible refine (LnRight_any _ _ y L _ HI4.out HS4.out).mono ?_); rintro e w5 ⟨rfl, hbel⟩; rw [HR.out]; have HB5 := hid (HB4.out.trans (hbel.mono HB4.out.size)); clear hbel))
      go_ret
      exact ⟨rfl, HB5.out⟩
    · have hbs := bl_strOf (LN.bytes_byte hr)
      have hbz := strOf_size L.bytes
      have hb1 := L.bytes_pos
      have hb2 : L.bytes.length ≤ 900020 := LN.part3_len hr L.outs.length
      obtain ⟨sB, hsB⟩ : ∃ sB, strOf L.bytes = sB := ⟨_, rfl⟩
      rw [hsB] at hbs hbz
      have hz1 : 1 ≤ sB.size := by omega
      have hz2 : sB.size ≤ 1000000 := by omega
      obtain ⟨z1, z2⟩ := parses_of hr
      rw [← hbs] at z1
      have z2' : (run (bl sB)).1 = L := by rw [hbs]; exact z2
      have hpb := vpick_bd cut (sB.size : Int) (by omega)
      obtain ⟨k, hk⟩ : ∃ k : Nat, vpick cut (sB.size : Int) = (k : Int) := ⟨(vpick cut (sB.size : Int)).toNat, by omega⟩
      rw [hk] at hpb
      have hkB : k < sB.size := by omega
      have hkI : (k : Int) ≤ (sB.size : Int) := by omega
      have hk0 : (0 : Int) ≤ (k : Int) := by omega
      have hsz0 : (0 : Int) < (sB.size : Int) ∧ (sB.size : Int) ≤ 1000000 := by omega
      have HSZ0 := hid hsz0
      have hz3 : (sB.extract 0 k).size ≤ 1000000 := by rw [ByteArray.size_extract]; omega
      have HN := hid (not_begun hr hbs hkB)
      have HR := hid hr
      have HSB := hid hsB
      have HZ1' := hid z1
      have HZ2' := hid z2'
      have HK := hid hk
      have HZ3 := hid hz3
      clear hr hbs hbz hb1 hb2 hsB z1 z2 z2' hk hpb hz3 hsz0
      go_wp2_with (first
        | (go_at_call 14; (with_reducible refine (Write_right _ _ y L _ HI3.out HS3.out HR.out).mono ?_); rintro e w4 ⟨rfl, hbel⟩; rw [HSB.out]; obtain ⟨q1, q2, q3⟩ := HF.out _ _ HB3.out HI3.out HS3.out hbel; have HB4 := hid q1; have HI4 := hid q2; have HS4 := hid q3; clear hbel q1 q2 q3)
        | (go_at_call 35; (with_reducible refine (parse_yes hz2 HZ1'.out _).mono ?_); rintro e w5 ⟨bm, ym, rfl, hn, hbel⟩; obtain ⟨q1, q2, q3⟩ := HF.out _ _ HB4.out HI4.out HS4.out hbel; rw [HZ2'.out] at hn; have HB5 := hid q1; have HI5 := hid (q2.mono q3); have HN5 := hid hn; have HI5' := hid q2; have HS5 := hid q3; clear hbel q1 q2 q3 hn)
        | (go_at_call 36; (with_reducible refine (alike_any _ _ _ _ _ _ _ (Nat.le_refl _) HN5.out HI5.out).mono ?_); rintro e w6 ⟨rfl, hbel⟩; have HB6 := hid (HB5.out.trans (hbel.mono HB5.out.size)); clear hbel)
        | (go_at_call 17; (with_reducible refine (pick_any _ _ HSZ0.out _).mono ?_); rintro e w' ⟨rfl, rfl⟩; rw [HK.out])
        | (go_at_call 35; (with_reducible refine (parse_no HZ3.out HN.out _).mono ?_); rintro e w7 ⟨rfl, hbel⟩; have HB7 := hid (HB6.out.trans (hbel.mono HB6.out.size)); clear hbel))
      go_ret
      exact ⟨rfl, HB7.out⟩

theorem imageBack_any (h : LnRows B w y L) (hB : B ≤ w.heap.size) :
    Calls Try.prog 8 #[.agg #[.int .i64 L.given, .slice y.ar L.regs.length y.cr, .slice y.al L.luts.length y.cl, .slice y.ao L.outs.length y.co], .string s, .int .i64 cut] w (Yes w) := by
  cases ht : L.tabled
  · exact back_not B y L s cut w h hB ht
  · by_cases hs : 500 < s.size
    · exact back_long B y L s cut w h hB ht hs
    · exact back_any B y L s cut w h hB ht (by omega)
end
end Go.Proofs.Ytlaeflpddehipaa
