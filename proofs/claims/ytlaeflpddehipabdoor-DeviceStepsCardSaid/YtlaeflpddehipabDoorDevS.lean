/- DeviceSteps, walked. -/
import Derived.Test.YtlaeflpddehipabDoorPlaceNilAll
import Derived.Deep.DeepCutAuto
set_option linter.unusedVariables false
set_option linter.unusedSimpArgs false
set_option linter.unusedSectionVars false
namespace Go.Proofs.YtlaeflpddehipabDoor
open Go.RowKit
attribute [local go_sem ↓] Go.wp_at_zero Go.wp_at_succ

theorem DNew_any (B : Nat) (s : ByteArray) (ai ao : Option Addr) (n m ci co : Nat) (ins outs : List Int) (w : World) (hlen : s.size ≤ 1000000) (hB : B ≤ w.heap.size) (hni : ins.length = n) (hno : outs.length = m) (hn20 : n ≤ 20) (hm20 : m ≤ 20)
    (hci : Cells B w ai n (fun j => .int .i64 (ins.getD j 0))) (hco : Cells B w ao m (fun j => .int .i64 (outs.getD j 0))) (hin : ai = none → n = 0 ∧ ci = 0) (hon : ao = none → m = 0 ∧ co = 0) :
    Calls Tryd.prog 24 #[.string s, .slice ai n ci, .slice ao m co] w (DNewPost s n m ins outs w) := by
  cases h1 : wAll ins with
  | false => exact DNew_arg B s ai ao n m ci co ins outs w hlen hni hno hn20 hm20 hci hco (.inl h1)
  | true =>
    cases h2 : wAll outs with
    | false => exact DNew_arg B s ai ao n m ci co ins outs w hlen hni hno hn20 hm20 hci hco (.inr ⟨h1, h2⟩)
    | true =>
      cases h3 : parses (bl s) with
      | false => exact DNew_form B s ai ao n m ci co ins outs w hlen hni hno hn20 hm20 hci hco h1 h2 h3
      | true => exact DNew_rest B s ai ao n m ci co ins outs w hlen hB hni hno hn20 hm20 hci hco hin hon h1 h2 h3
theorem intRow3 {w : World} {base n : Nat} {v : Value} {l : List Int} (h : w.ownsRow base 3 1 v n (l.map (.int .i64))) : ∃ a c, v = .slice a n c := by
  obtain ⟨a, c, rfl, _⟩ := Cells.of_owns h
  exact ⟨a, c, rfl⟩
theorem two_cell {p : TP} {r1 r2 : List Bool} {W : World} {bg o : Nat} {v : Value} (hlt : bg < p.w0.heap.size) (hc : p.w0.cell? ⟨bg, o, none⟩ = some v) (h : Two p r1 r2 W) : W.cell? ⟨bg, o, none⟩ = some v :=
  (h.low.cell (p := ⟨bg, o, none⟩) hlt).trans hc
theorem two_keepd {p : TP} {r1 r2 : List Bool} {W w' : World} {base n : Nat} {v : Value} {l : List Value} (h : Two p r1 r2 W) (hv : W.ownsRow base 3 1 v n l) (hg : W.grownBy w' (some p.d)) : w'.ownsRow base 3 1 v n l := by
  obtain ⟨a, c, _, hm, _⟩ := h.rb
  exact rowGrown hv hm (by decide) hg
/-- What a device is begun with that has been parsed. -/
theorem devErr_zero {s : ByteArray} {ins outs : List Int} (h : devErr s ins outs = 0) : parses (bl s) = true ∧ (run (bl s)).1.outs.length = wTo outs outs.length := by
  unfold devErr at h
  split at h
  · split at h
    · split at h
      · rename_i h1 h2 h3
        exact ⟨h2, h3.2⟩
      · cases h
    · cases h
  · cases h

section
variable (s t : ByteArray) (ai ao ag : Option Addr) (n m ng ci co cg : Nat) (ins outs : List Int) (gs : List (List Int)) (A : Nat → Option Addr) (C : Nat → Nat) (w : World)
set_option maxRecDepth 100000 in
set_option maxHeartbeats 3200000 in
theorem dv_long (hl : 500 < s.size ∨ 20 < n ∨ 20 < m ∨ 30 < ng ∨ 100 < t.size) : Calls Tryd.prog 5 #[.string s, .slice ai n ci, .slice ao m co, .slice ag ng cg, .string t] w (Yes w) := by
  go_enter Tryd.func5, Tryd.ntmps5
  by_cases h1 : (500 : Int) < (s.size : Int)
  · go_wp2_with fail
    go_ret
    exact ⟨rfl, Below.refl _ _⟩
  · have d1 : decide ((500 : Int) < (s.size : Int)) = false := decide_eq_false h1
    by_cases h2 : (20 : Int) < (n : Int)
    · go_wp2_with fail
      go_ret
      exact ⟨rfl, Below.refl _ _⟩
    · have d2 : decide ((20 : Int) < (n : Int)) = false := decide_eq_false h2
      by_cases h3 : (20 : Int) < (m : Int)
      · go_wp2_with fail
        go_ret
        exact ⟨rfl, Below.refl _ _⟩
      · have d3 : decide ((20 : Int) < (m : Int)) = false := decide_eq_false h3
        by_cases h4 : (30 : Int) < (ng : Int)
        · go_wp2_with fail
          go_ret
          exact ⟨rfl, Below.refl _ _⟩
        · have d4 : decide ((30 : Int) < (ng : Int)) = false := decide_eq_false h4
          have h5 : (100 : Int) < (t.size : Int) := by omega
          go_wp2_with fail
          go_ret
          exact ⟨rfl, Below.refl _ _⟩
set_option maxRecDepth 100000 in
set_option maxHeartbeats 6400000 in
theorem dv_err (h1 : s.size ≤ 500) (h2 : n ≤ 20) (h3 : m ≤ 20) (h4 : ng ≤ 30) (h5 : t.size ≤ 100) (hni : ins.length = n) (hno : outs.length = m)
    (hci : Cells w.heap.size w ai n (fun j => .int .i64 (ins.getD j 0))) (hco : Cells w.heap.size w ao m (fun j => .int .i64 (outs.getD j 0))) (hin : ai = none → n = 0 ∧ ci = 0) (hon : ao = none → m = 0 ∧ co = 0)
    (he : ErrType w) (k : Int) (hk : devErr s ins outs = k) (hne : k ≠ 0) : Calls Tryd.prog 5 #[.string s, .slice ai n ci, .slice ao m co, .slice ag ng cg, .string t] w (Yes w) := by
  have d1 : decide ((500 : Int) < (s.size : Int)) = false := decide_eq_false (by omega)
  have d2 : decide ((20 : Int) < (n : Int)) = false := decide_eq_false (by omega)
  have d3 : decide ((20 : Int) < (m : Int)) = false := decide_eq_false (by omega)
  have d4 : decide ((30 : Int) < (ng : Int)) = false := decide_eq_false (by omega)
  have d5 : decide ((100 : Int) < (t.size : Int)) = false := decide_eq_false (by omega)
  have dk : decide (k = 0) = false := decide_eq_false hne
  have HNI := hid hni
  have HNO := hid hno
  have HCI := hid hci
  have HCO := hid hco
  have HIN := hid hin
  have HON := hid hon
  have HE := hid he
  have HK := hid hk
  clear hni hno hci hco hin hon he hk
  go_enter Tryd.func5, Tryd.ntmps5
  go_upto_region 6 with (first
    | (go_at_call 23; (with_reducible refine (RNew_any w.heap.size s ai ao n m ci co ins outs w (by omega) (Nat.le_refl _) HNI.out HNO.out h2 h3 HCI.out HCO.out).mono ?_); intro e w1 hpost; unfold RNewPost at hpost; rw [HK.out, if_neg hne] at hpost; obtain ⟨rfl, hb1⟩ := hpost; have HB1 := hid hb1; clear hb1)
    | (go_at_call 24; (with_reducible refine (DNew_any w1.heap.size s ai ao n m ci co ins outs w1 (by omega) (Nat.le_refl _) HNI.out HNO.out h2 h3 ((HCI.out.stay HB1.out).mono HB1.out.size) ((HCO.out.stay HB1.out).mono HB1.out.size) HIN.out HON.out).mono ?_); intro e w2 hpost; unfold DNewPost at hpost; rw [HK.out, if_neg hne] at hpost; obtain ⟨rfl, hb2⟩ := hpost; have HB2 := hid (HB1.out.trans (hb2.mono HB1.out.size)); clear hb2)
    | (go_at_call 10; (with_reducible refine (bare_same k w2 (HE.out.stay HB2.out)).mono ?_); rintro e w3 ⟨rfl, hb3⟩; have HB3 := hid (HB2.out.trans (hb3.mono HB2.out.size)); clear hb3))
  go_wp2_with (go_at_call 10; (with_reducible refine (bare_same k w3 (HE.out.stay HB3.out)).mono ?_); rintro e w4 ⟨rfl, hb4⟩; have HB4 := hid (HB3.out.trans (hb4.mono HB3.out.size)); clear hb4)
  go_ret
  exact ⟨rfl, HB4.out⟩
set_option maxRecDepth 100000 in
set_option maxHeartbeats 12800000 in
theorem dv_right (h1 : s.size ≤ 500) (h2 : n ≤ 20) (h3 : m ≤ 20) (h4 : ng ≤ 30) (h5 : t.size ≤ 100) (hni : ins.length = n) (hno : outs.length = m) (hgl : gs.length = ng)
    (hci : Cells w.heap.size w ai n (fun j => .int .i64 (ins.getD j 0))) (hco : Cells w.heap.size w ao m (fun j => .int .i64 (outs.getD j 0))) (hin : ai = none → n = 0 ∧ ci = 0) (hon : ao = none → m = 0 ∧ co = 0)
    (hgr : IntRows w.heap.size w ag gs A C) (he : ErrType w) (hk : devErr s ins outs = 0) : Calls Tryd.prog 5 #[.string s, .slice ai n ci, .slice ao m co, .slice ag ng cg, .string t] w (Yes w) := by
  have d1 : decide ((500 : Int) < (s.size : Int)) = false := decide_eq_false (by omega)
  have d2 : decide ((20 : Int) < (n : Int)) = false := decide_eq_false (by omega)
  have d3 : decide ((20 : Int) < (m : Int)) = false := decide_eq_false (by omega)
  have d4 : decide ((30 : Int) < (ng : Int)) = false := decide_eq_false (by omega)
  have d5 : decide ((100 : Int) < (t.size : Int)) = false := decide_eq_false (by omega)
  obtain ⟨hpar, hol⟩ := devErr_zero hk
  have HR := hid ((parses_bytes (bl_bytes s) hpar).1)
  rw [hno] at hol
  obtain ⟨L, hL⟩ : ∃ L, (run (bl s)).1 = L := ⟨_, rfl⟩
  rw [hL] at hol
  unfold Hid at HR
  rw [hL] at HR
  have HR' := hid HR
  have HL := hid hL
  have HOL := hid hol
  have HNI := hid hni
  have HNO := hid hno
  have HGL := hid hgl
  have HCI := hid hci
  have HCO := hid hco
  have HIN := hid hin
  have HON := hid hon
  have HGR := hid hgr
  have HE := hid he
  have HK := hid hk
  clear hni hno hgl hci hco hin hon hgr he hk hpar hol HR hL
  go_enter Tryd.func5, Tryd.ntmps5
  go_upto_region 7 with (first
    | (go_at_call 23; (with_reducible refine (RNew_any w.heap.size s ai ao n m ci co ins outs w (by omega) (Nat.le_refl _) HNI.out HNO.out h2 h3 HCI.out HCO.out).mono ?_); intro e w1 hpost; unfold RNewPost at hpost; rw [HK.out, if_pos rfl, HL.out] at hpost; obtain ⟨a1, c1, a2, c2, a3, c3, A1, C1, d, rfl, hd, hsr, hrb, hb1⟩ := hpost; have HB1 := hid hb1; have HSR := hid hsr; have HRB := hid hrb; have HD := hid hd; clear hb1 hsr hrb hd)
    | (go_at_call 24; (with_reducible refine (DNew_any w1.heap.size s ai ao n m ci co ins outs w1 (by omega) (Nat.le_refl _) HNI.out HNO.out h2 h3 ((HCI.out.stay HB1.out).mono HB1.out.size) ((HCO.out.stay HB1.out).mono HB1.out.size) HIN.out HON.out).mono ?_); intro e w2 hpost; unfold DNewPost at hpost; rw [HK.out, if_pos rfl, HL.out] at hpost; obtain ⟨q, sb, b, hp, y, bi, ki, bo, ko, rfl, hhp, hhp2, hsi, hls, hdb, hb2⟩ := hpost; have HHP := hid hhp; have HHP2 := hid hhp2; have HSI := hid hsi; have HLS := hid hls; have HDB := hid hdb; have HB2 := hid hb2; clear hhp hhp2 hsi hls hdb hb2)
    | (go_at_call 10; (with_reducible refine (bare_nil w2).mono ?_); rintro e w3 ⟨rfl, hb3⟩; have HB3 := hid hb3; clear hb3))
  obtain ⟨p, e1, e2, e3, e4, e5, e6, e7, e8, e9, e10, e11, e12, e13, e14, e15, e16, e17, e18, e19, e20, e21, e22, e23⟩ : ∃ p : TP, p.A1 = w1.heap.size ∧ p.hp = hp ∧ p.q = q ∧ p.s = sb ∧ p.b = b ∧ p.d = d ∧ p.n = n ∧ p.m = m ∧ p.nr = L.regs.length ∧ p.ci = ki ∧ p.co = ko ∧ p.ki = ci ∧ p.ko = co ∧ p.ai = bi ∧ p.ao = bo ∧ p.ei = ai ∧ p.eo = ao ∧ p.y = y ∧ p.y1 = ⟨a1, c1, a2, c2, a3, c3, A1, C1⟩ ∧ p.L = L ∧ p.ins = ins ∧ p.outs = outs ∧ p.w0 = w :=
    ⟨⟨w1.heap.size, hp, q, sb, b, d, n, m, L.regs.length, ki, ko, ci, co, bi, bo, ai, ao, y, ⟨a1, c1, a2, c2, a3, c3, A1, C1⟩, L, ins, outs, w⟩, rfl, rfl, rfl, rfl, rfl, rfl, rfl, rfl, rfl, rfl, rfl, rfl, rfl, rfl, rfl, rfl, rfl, rfl, rfl, rfl, rfl, rfl, rfl⟩
  have HO : Hid (TPOk p) := by
    have hlt := HRB.out.lt
    refine ⟨by rw [e6, e1]; exact hlt, by rw [e1, e2]; exact HHP.out, by rw [e20]; exact HR'.out, by rw [e21, e7]; exact HNI.out, by rw [e22, e8]; exact HNO.out, by rw [e7]; exact h2, by rw [e8]; exact h3, by rw [e20, e22, e8]; exact HOL.out, by rw [e20, e9], ?_, by rw [e23, e16, e7, e21]; exact HCI.out, by rw [e23, e17, e8, e22]; exact HCO.out⟩
    rw [e9]
    have h := (LN.small_numbers HR'.out).2.2.2.1
    omega
  have HT2 : Hid (Two p L.first L.first w2) := by
    have hfl := L.first_len
    refine ⟨by rw [e23]; exact HB1.out.trans (HB2.out.mono HB1.out.size), by rw [e2]; exact HHP2.out, by rw [e9]; exact hfl, by rw [e9]; exact hfl, ?_, ?_, ?_, ?_, ?_⟩
    · rw [e23, e6, e20, e19, e16, e7, e12, e17, e8, e13]
      exact HRB.out.stay HB2.out
    · rw [e2, e4, e5]
      exact HLS.out
    · rw [e2, e3, e4, e14, e15, e10, e11, e7, e8, e21, e22]
      exact HDB.out
    · intro wx hx
      rw [e1, e2] at hx
      rw [e2, e5, e18, e20]
      exact HSI.out wx hx
    · intro wx hx
      rw [e23, e6] at hx
      rw [e19, e20]
      exact HSR.out wx fun k hk1 hk2 => (hx k hk1 hk2).trans (HB2.out.block k (Nat.lt_trans hk2 HRB.out.lt))
  have HT3 := hid (HT2.out.below HO.out HB3.out)
  have HGV := hid (show IntRows p.w0.heap.size p.w0 ag gs A C by rw [e23]; exact HGR.out)
  have HLOW : Hid (∀ W, Below p.w0.heap.size p.w0 W → Below w.heap.size w W) := by rw [e23]; exact fun W h => h
  clear e1 e2 e4 e5 e7 e8 e9 e10 e11 e12 e13 e14 e15 e16 e17 e18 e19 e20 e21 e22 e23 HRB HHP HR' HNI HNO HOL HCI HCO HB1 HB2 HB3 HHP2 HLS HDB HSI HSR HT2 HGR HIN HON HK HL HD
  subst e3 e6
  go_wp2_with fail
  go_loopw [15] (fun v wr => ∃ (i : Nat) (r : List Bool), i ≤ ng ∧ v = .int .i64 i ∧ Two p r r wr) (fun v _ => ng - (intOf v).toNat)
  case atStart => exact ⟨0, _, Nat.zero_le _, rfl, HT3.out⟩
  case round =>
    obtain ⟨i, r, hi, rfl, ht⟩ := hrel
    clear HT3
    by_cases hlt : i < ng
    · have hltI : (i : Int) < (ng : Int) := by omega
      have hi0 : (0 : Int) ≤ (i : Int) := by omega
      have hrow := HGV.out.rows i (by rw [HGL.out]; exact hlt)
      have hh := HGV.out.heads
      rw [HGL.out] at hh
      obtain ⟨bg, og, rfl, hbg, hcg⟩ := hh.at (by omega)
      have hg1 := hcg i hlt
      generalize gs.getD i [] = gv at hrow hg1
      generalize A i = av at hrow hg1
      generalize C i = cv at hg1
      obtain ⟨nv, hnv⟩ : ∃ nv, gv.length = nv := ⟨_, rfl⟩
      rw [hnv] at hrow hg1
      have HROW := hid hrow
      have HNV := hid hnv
      have HG1 := hid hg1
      clear hh hcg hrow hnv
      have hgr := two_cell hbg hg1 ht
      have hbgr : bg < wr.heap.size := Nat.lt_of_lt_of_le hbg ht.low.size
      by_cases h30 : (30 : Int) < (nv : Int)
      · have HLO := hid (HLOW.out _ ht.low)
        clear ht hg1
        go_upto_region 10 with fail
        go_quiet (fail)
        go_wp2_with fail
        go_ret
        exact ⟨rfl, below_drewN HLO.out _⟩
      · have d30 : decide ((30 : Int) < (nv : Int)) = false := decide_eq_false h30
        have hn30 : nv ≤ 30 := by omega
        have hm1 : p.m ≤ maxLen := by have := HO.out.hm20; unfold maxLen; omega
        have HLEN : Hid ((dvOut p r gv).length = p.m) := dOut_len _ _ _
        clear hgr
        go_upto_region 10 with fail
        go_cut [102] (fun sx wx => sx = .bool false ∧ Two p (dvNext p r gv) (dvNext p r gv) wx)
        case first =>
          go_region_held3 (fun w' => w'.cell? ⟨bg, og + i, none⟩ = some (.slice av nv cv))
            (first | exact two_cell hbg hg1 (by assumption) | exact two_cell hbg hg1 (Two.drew HO.out (by assumption)))
            (first
              | (go_at_call 26; (with_reducible refine (two_step1 HO.out (by first | assumption | exact Two.drew HO.out (by assumption)) HNV.out hn30 HROW.out).mono ?_); rintro e wA ⟨v, rfl, hv, htA, hgA⟩; obtain ⟨a1, c1, rfl⟩ := intRow3 hv; have HV1 := hid hv; clear hv hgA)
              | (go_at_call 27; (with_reducible refine (two_step2 HO.out (by first | assumption | exact Two.drew HO.out (by assumption)) HNV.out hn30 HROW.out).mono ?_); rintro e wB ⟨v, rfl, hv, htB, hgB⟩; obtain ⟨a2, c2, rfl⟩ := intRow3 hv; have HX2 := hid (intRow hv HLEN.out); have HX1 := hid (intRow (two_keepd htA HV1.out hgB) HLEN.out); clear hv hgB)
              | (go_at_call 25; (with_reducible refine (two_same HO.out (by first | assumption | exact Two.drew HO.out (by assumption)) hm1 HX1.out HX2.out).mono ?_); rintro e wD ⟨rfl, htD⟩)
              | (go_at_call 28; (with_reducible refine (two_save1 HO.out (by first | assumption | exact Two.drew HO.out (by assumption))).mono ?_); rintro e wE ⟨rfl, htE, _⟩)
              | (go_at_call 29; (with_reducible refine (two_save2 HO.out (by first | assumption | exact Two.drew HO.out (by assumption))).mono ?_); rintro e wF ⟨rfl, htF, _⟩)
              | fail)
          all_goals (go_wp2_with fail; go_meet; exact ⟨rfl, by assumption⟩)
        case rest =>
        obtain ⟨rfl, htn⟩ := hcut
        obtain ⟨w9, rfl⟩ : ∃ wo : World, wo = wc := ⟨_, rfl⟩
        clear ht HLEN hg1
        generalize dvNext p r gv = r' at htn
        by_cases hi2 : (i : Int) = 2
        · obtain rfl : i = 2 := by omega
          have hm5 : t.size ≤ 1000000 := by omega
          by_cases hld : ldErr t p.nr = 0
          · have hsz : t.size = p.nr := by
              unfold ldErr at hld
              split at hld
              · split at hld
                · assumption
                · cases hld
              · cases hld
            have HLD := hid hld
            have HSZ := hid hsz
            clear hld hsz
            go_wp2_with (first
              | (go_at_call 30; (with_reducible refine (two_load1 HO.out htn hm5 HLD.out HSZ.out).mono ?_); rintro e wA ⟨rfl, htA⟩)
              | (go_at_call 31; (with_reducible refine (two_load2 HO.out htA hm5 HLD.out HSZ.out).mono ?_); rintro e wB ⟨rfl, htB⟩)
              | (go_at_call 10; (with_reducible refine (bare_nil wB).mono ?_); rintro e wD ⟨rfl, hbD⟩; have HTD := hid (htB.below HO.out hbD); clear hbD))
            go_roundw
            case rel => exact ⟨2 + 1, _, by omega, by go_num, HTD.out⟩
            case measure => simp [intOf]; omega
          · obtain ⟨k, hk⟩ : ∃ k, ldErr t p.nr = k := ⟨_, rfl⟩
            have HKL := hid hk
            go_wp2_with (first
              | (go_at_call 30; (with_reducible refine (two_load1_no HO.out htn hm5 hld).mono ?_); rintro e wA ⟨rfl, htA⟩)
              | (go_at_call 31; (with_reducible refine (two_load2_no HO.out htA hm5 hld).mono ?_); rintro e wB ⟨rfl, htB⟩)
              | (go_at_call 10; (with_reducible refine (bare_same _ wB (HE.out.stay (HLOW.out _ htB.low))).mono ?_); rintro e wD ⟨rfl, hbD⟩; have HTD := hid (htB.below HO.out hbD); clear hbD))
            go_roundw
            case rel => exact ⟨2 + 1, _, by omega, by go_num, HTD.out⟩
            case measure => simp [intOf]; omega
        · have di2 : decide ((i : Int) = 2) = false := decide_eq_false hi2
          go_wp2_with fail
          go_roundw
          case rel => exact ⟨i + 1, _, by omega, by go_num, htn⟩
          case measure => simp [intOf]; omega
    · obtain rfl : i = ng := by omega
      go_wp2_with (first
        | (go_at_call 28; (with_reducible refine (two_save1 HO.out ht).mono ?_); rintro e wA ⟨rfl, htA, _⟩)
        | (go_at_call 29; (with_reducible refine (two_save2 HO.out htA).mono ?_); rintro e wB ⟨rfl, htB, _⟩))
      go_ret
      exact ⟨by first | rfl | simp, HLOW.out _ htB.low⟩
theorem deviceSteps_any (hni : ins.length = n) (hno : outs.length = m) (hgl : gs.length = ng)
    (hci : Cells w.heap.size w ai n (fun j => .int .i64 (ins.getD j 0))) (hco : Cells w.heap.size w ao m (fun j => .int .i64 (outs.getD j 0))) (hin : ai = none → n = 0 ∧ ci = 0) (hon : ao = none → m = 0 ∧ co = 0)
    (hgr : IntRows w.heap.size w ag gs A C) (he : ErrType w) : Calls Tryd.prog 5 #[.string s, .slice ai n ci, .slice ao m co, .slice ag ng cg, .string t] w (Yes w) := by
  by_cases hl : 500 < s.size ∨ 20 < n ∨ 20 < m ∨ 30 < ng ∨ 100 < t.size
  · exact dv_long s t ai ao ag n m ng ci co cg w hl
  · by_cases hk : devErr s ins outs = 0
    · exact dv_right s t ai ao ag n m ng ci co cg ins outs gs A C w (by omega) (by omega) (by omega) (by omega) (by omega) hni hno hgl hci hco hin hon hgr he hk
    · exact dv_err s t ai ao ag n m ng ci co cg ins outs w (by omega) (by omega) (by omega) (by omega) (by omega) hni hno hci hco hin hon he _ rfl hk
end
end Go.Proofs.YtlaeflpddehipabDoor
