/- GateTwice, walked: a net that may be. -/
import Derived.Test.YtlaeflpddehipaaTwUse
set_option linter.unusedVariables false
namespace Go.Proofs.Ytlaeflpddehipaa
open Go.RowKit
attribute [local go_sem ↓] Go.wp_at_zero Go.wp_at_succ

set_option maxRecDepth 100000 in
set_option maxHeartbeats 6400000 in
theorem twice_right (B : Nat) (a : Option Addr) (c : Nat) (a' : Option Addr) (c' : Nat) (N : Net) (ag : Option Addr) (ng cg : Nat) (gs : List (List Bool)) (A : Nat → Option Addr) (C : Nat → Nat) (hgl : gs.length = ng) (hs : N.small = true) (hng : ng ≤ 20) (hr : N.right = true) (w : World) (hgr : GivenRows B w ag gs A C) (h : NetRows B w a c a' c' N) (hB : B ≤ w.heap.size) (ha : a = none → N.nodes.length = 0 ∧ c = 0) :
    Calls Try.prog 6 #[.agg #[.int .i64 N.given, .slice a N.nodes.length c, .slice a' N.outs.length c'], .slice ag ng cg] w (Yes w) := by
  obtain ⟨i0, hi, hz0, hz1, hz2⟩ := info_parts Try.infoNode
  obtain ⟨i1, hi1, hy0, hy1, hy2⟩ := info_parts Try.infoInt
  obtain ⟨i2, hi2, hx0, hx1, hx2⟩ := info_parts Try.infoBool
  have HGL := hid hgl
  have HGR := hid hgr
  clear hgl hgr
  have HS := hid hs
  have HR := hid hr
  have H := hid h
  have HA := hid ha
  have h2 : decide ((20 : Int) < ng) = false := decide_eq_false (by omega)
  clear hs hr h ha
  go_enter Try.func6, Try.ntmps6
  go_upto_region 7 with (first
    | (go_at_call 28; refine (small_is a c a' c' N _ HS _).mono ?_; rintro e w1 ⟨rfl, hbel⟩; have hbox := box_block hbel; have HB1 := hid (box_below hbel); have hsz1 := box_size hbel; clear hbel)
    | (go_at_call 29; refine (netted_any _).mono ?_; rintro e w2 ⟨rfl, hbel⟩; have hbox2 := (hbel.block _ hsz1).trans hbox; have HB2 := hid (HB1.out.trans (hbel.mono HB1.out.size)); have hsz2 : w.heap.size < w2.heap.size := Nat.lt_of_lt_of_le hsz1 hbel.size; clear hbel hbox HB1)
    | (go_at_call 30; refine (Right_any (w.heap.size + 1) _ _ _ _ _ N _ (H.out.box hB hbox2 HB2.out _ (Nat.lt_succ_self _) (by omega)) hsz2).mono ?_; rintro e w3 ⟨rfl, hbel⟩; rw [HR.out]; have HB3 := hid (HB2.out.trans (hbel.mono HB2.out.size)); have hbox3 := (hbel.block _ hsz2).trans hbox2; have hsz3 : w.heap.size < w3.heap.size := Nat.lt_of_lt_of_le hsz2 hbel.size; clear hbel hbox2 HB2 hsz2 hsz1))
  have k0 := cell_block hbox3 0
  have k1 := cell_block hbox3 1
  simp only [List.getElem?_toArray, List.getElem?_cons_succ, List.getElem?_cons_zero] at k0 k1
  have HBOX := hid hbox3
  clear hbox3 h2
  obtain ⟨b0, hb0⟩ : ∃ b, w.heap.size = b := ⟨_, rfl⟩
  have HB0 := hid hb0
  rw [hb0] at k0 k1 hsz3 ⊢
  have K := hid (And.intro hsz3 (And.intro k0 k1))
  have hnews : Hid (∀ ad', a = some ad' → ∀ (w' : World), Below w3.heap.size w3 w' → ∀ j u, (nodeVals N.nodes)[j]? = some u → w'.cell? (ad'.add j) = some u) := by
    intro ad' had w' hb'
    have hc := (H.out.rn.stay (HB3.out.mono hB)).stay (hb'.mono (Nat.le_trans hB HB3.out.size))
    subst had
    exact hc.news (nodeVals_len _) (fun j hj => nodeVals_get _ j hj)
  have S3 : w3.cell? ⟨b0, 0, none⟩ = some (.int .i64 N.given) ∧ w3.cell? ⟨b0, 1, none⟩ = some (.slice a N.nodes.length c) ∧ Below w3.heap.size w3 w3 := ⟨k0, k1, Below.refl _ _⟩
  have hn60 : N.nodes.length ≤ 60 := by
    have := HS.out
    simp [Net.small] at this
    omega
  clear hb0
  go_cut [5] (fun s5 wx => ∃ bm, s5 = .pointer (some ⟨bm, 0, none⟩) ∧ TwAt w3 N bm N.nodes [] wx)
  case first =>
    go_region_held3 (fun w' => w'.cell? ⟨b0, 0, none⟩ = some (.int .i64 N.given) ∧ w'.cell? ⟨b0, 1, none⟩ = some (.slice a N.nodes.length c) ∧ Below w3.heap.size w3 w')
      ((refine keep2 K.out.1 K.out.2.1 K.out.2.2 ?_; repeat (first | exact Below.refl _ _ | assumption | refine Below.drew ?_ | refine Below.alloc ?_ (by first | (simp; done) | (simp; omega) | exact Below.size (by assumption)) _ | refine Below.setCell ?_ (by first | (simp; done) | (simp; omega) | exact Below.size (by assumption)) _)))
      (first
        | ((refine step_append_src (by rfl) _ _ 46 (by rfl) w3.heap.size 52 i0 _ 4 32 Try.underlying46 hi hz0 hz1 hz2 (by rfl) (by decide) _ 0 [] (by rfl) (by first | exact empty_at _ _ _ | exact empty_then _ _ _ _ | exact empty_behind _ _ _ _) a N.nodes.length c (nodeVals N.nodes) (by rfl) HA.out (nodeVals_len _) (fun ad' had => hnews.out ad' had _ (by repeat (first | exact Below.refl _ _ | assumption | refine Below.drew ?_ | refine Below.alloc ?_ (by first | (simp; done) | (simp; omega)) _))) (nodeVals_one _) (by unfold maxLen; omega) (by omega) (by first | (simp; done) | (simp; omega)) ?_; intro av cv wb hown hgb; (first | (have hM := grown_box hgb (w3.heap.size + 1) _ (by first | (simp [Act.eval, Act.put, Value.ownBlock]; done) | fail) (box2_second _ _ _)) | (have hM := grown_box hgb w3.heap.size _ (by first | (simp [Act.eval, Act.put, Value.ownBlock]; done) | fail) (box2_first _ _ _)) | skip); (try have hm0 := cell_block hM 0); (try have hm1 := cell_block hM 1); (try have hm2 := cell_block hM 2); (try simp only [List.getElem?_toArray, List.getElem?_cons_succ, List.getElem?_cons_zero] at hm0 hm1 hm2); (try have hmf := free_block hM); (try have hsz := (lt_of_cell hm0).1); (try have HM := hid hM); (try clear hM); have hbS : Below w3.heap.size w3 wb := Below.grown (by repeat (first | exact Below.refl _ _ | assumption | refine Below.drew ?_ | refine Below.alloc ?_ (by first | (simp; done) | (simp; omega)) _)) hgb.out (by first | (simp; done) | (simp; omega)) (fun k hk => by simp [Act.eval, Act.put, Value.ownBlock] at hk; omega)))
        | fail)
    all_goals (go_wp2_with fail; go_meet; refine ⟨_, rfl, ?_⟩; first | exact TwAt.way1 hown hbS | exact TwAt.way2 hown hbS (by omega) HM)
  case rest =>
  obtain ⟨bm, rfl, hT⟩ := hcut
  have NI : Hid (NetIn w3.heap.size w3 b0 a c a' c' N) := by
    have h := H.out.box hB HBOX.out HB3.out w3.heap.size (by rw [HB0.out]; exact hsz3) (Nat.le_trans hB HB3.out.size)
    rw [HB0.out] at h
    exact h
  have HS30 : N.outs.length ≤ 30 := by
    have := HS.out
    simp [Net.small] at this
    omega
  have HT0 := hid hT
  clear hT HBOX
  go_wp2_with fail
  go_loopw [6] (fun v wr => ∃ i : Nat, i ≤ N.outs.length ∧ v = .int .i64 i ∧ TwAt w3 N bm (N.nodes ++ dbl N.nodes.length N.outs i) (dblO N.nodes.length i) wr) (fun v _ => N.outs.length - (intOf v).toNat)
  case atStart => exact ⟨0, Nat.zero_le _, rfl, by simpa [dbl, dblO] using HT0.out⟩
  case round =>
    obtain ⟨i, hle, rfl, ht⟩ := hrel
    have hnw := NI.out.stay ht.below
    have c2 := hnw.outs
    by_cases hlt : i < N.outs.length
    · have hlti : (i : Int) < (N.outs.length : Int) := by omega
      obtain ⟨bo, off, rfl, hbo, hco⟩ := hnw.ro.at (by omega)
      have hci := hco i hlt
      obtain ⟨L, hL⟩ : ∃ L, L = N.nodes ++ dbl N.nodes.length N.outs i := ⟨_, rfl⟩
      obtain ⟨O, hO⟩ : ∃ O, O = dblO N.nodes.length i := ⟨_, rfl⟩
      rw [← hL, ← hO] at ht
      have hL120 : L.length ≤ 120 := by rw [hL, List.length_append, dbl_len]; omega
      have hO30 : O.length ≤ 30 := by rw [hO, dblO_len]; omega
      have HL := hid hL
      have HO := hid hO
      obtain ⟨ad, cn, ao, co, hbm, hm, hrN, hrO, hd1, hd2, hd3, hbe⟩ := ht
      have m1 := cell_block hm 1
      simp only [List.getElem?_toArray, List.getElem?_cons_succ, List.getElem?_cons_zero] at m1
      have hbmlt := (lt_of_cell m1).1
      have HM := hid hm
      have HRN := hid hrN
      have HRO := hid hrO
      have HBE := hid hbe
      have hszle := hbe.size
      obtain ⟨o, ho⟩ : ∃ o, N.outs.getD i 0 = o := ⟨_, rfl⟩
      rw [ho] at hci
      have HOO := hid ho
      clear ho
      have hneN : (Value.slice ad L.length cn).ownBlock ≠ some bm := by
        cases ad with
        | none => simp [Value.ownBlock]
        | some g => have := hd1 g rfl; simp [Value.ownBlock]; exact this
      clear hL hO hm hrN hrO hd1 hd2 hbe hco hnw HT0
      go_upto_region 12 with fail
      go_cut [] (fun wx => TwAt w3 N bm (L ++ [⟨8, o, 0, 0⟩, ⟨8, L.length, 0, 0⟩]) O wx)
      case first =>
        go_region_law (refine step_append_src (by rfl) _ _ 46 (by rfl) w3.heap.size 52 i0 _ 4 32 Try.underlying46 hi hz0 hz1 hz2 (by rfl) (by decide) _ L.length (nodeVals L) (by rfl) (by first | exact (HRN.out.alloc _).drew | exact HRN.out.alloc _) (some ⟨wr.heap.size, 0, none⟩) 2 2 [.int .i64 8, .int .i64 o, .int .i64 0, .int .i64 0, .int .i64 8, .int .i64 L.length, .int .i64 0, .int .i64 0] (by rfl) (by intro h; cases h) (by rfl) (by rintro ad' h j u hj; cases h; rw [Addr.add_at]; exact (cell_new wr _ _ _).trans (by simpa using hj)) (by intro u hu; simp at hu; rcases hu with rfl | rfl | rfl | rfl | rfl | rfl <;> rfl) (by unfold maxLen; omega) (by omega) (by first | (simp; done) | (simp; omega)) ?_; intro av cv wb hown hgb; have hgb : Hid (World.grownBy _ wb (Value.slice ad L.length cn).ownBlock) := hgb; have hM := grown_box hgb bm _ hneN ((Below.heap_alloc _ _ _ hbmlt).trans HM.out); have hm0 := cell_block hM 0; have hm1 := cell_block hM 1; have hm2 := cell_block hM 2; simp only [List.getElem?_toArray, List.getElem?_cons_succ, List.getElem?_cons_zero] at hm0 hm1 hm2; have hmf := free_block hM; have hsz := (lt_of_cell hm0).1; have HMb := hid hM; clear hM; have hOb := hid (beside_row hgb HRO.out hd3); have hbS := beside_below hgb HBE.out HRN.out)
        all_goals (go_wp2_with fail; go_meet; exact TwAt.addN (x := ⟨8, o, 0, 0⟩) (y := ⟨8, L.length, 0, 0⟩) hbm HMb.out hown.out hOb.out hbS.out)
      case rest =>
      clear m1 hbmlt HM HRN HRO HBE hszle hneN hd3 hci c2
      have HT := hid hcut
      obtain ⟨ad, cn, ao, co, hbm, hm, hrN, hrO, hd1, hd2, hd3, hbe⟩ := hcut
      have m2 := cell_block hm 2
      simp only [List.getElem?_toArray, List.getElem?_cons_succ, List.getElem?_cons_zero] at m2
      have hbmlt := (lt_of_cell m2).1
      have HM := hid hm
      have HRN := hid hrN
      have HRO := hid hrO
      have HBE := hid hbe
      have hszle := hbe.size
      have hneO : (Value.slice ao O.length co).ownBlock ≠ some bm := by
        cases ao with
        | none => simp [Value.ownBlock]
        | some g => have := hd2 g rfl; simp [Value.ownBlock]; exact this
      have hd3' : ∀ g g', ao = some g → ad = some g' → g.block ≠ g'.block := fun g g' h h' e => hd3 g' g h' h e.symm
      clear hm hrN hrO hd1 hd2 hd3 hbe
      go_upto_region 13 with fail
      go_wp2_with (at_builtin; refine wpList_push _ w3 wc rfl _ _ 24 rfl 3 i1 (.int .i64 0) 1 8 Try.underlying24 hi1 hy0 hy1 hy2 rfl (by decide) w3.heap.size _ _ _ rfl HRO.out 1 1 _ rfl rfl rfl rfl ?c3 ?c4 HBE.out (Nat.le_refl _) hszle ?_)
      case c3 => unfold maxLen; omega
      case c4 => omega
      intro v' wb hown hbS hgb _
      obtain ⟨av, cv, rfl⟩ := owns_slice hown
      have hM := grown_box hgb bm _ hneO HM.out
      have hm0 := cell_block hM 0
      have hm1 := cell_block hM 1
      have hm2 := cell_block hM 2
      simp only [List.getElem?_toArray, List.getElem?_cons_succ, List.getElem?_cons_zero] at hm0 hm1 hm2
      have hmf := free_block hM
      have hsz := (lt_of_cell hm0).1
      have HMb := hid hM
      have hOb := hid (beside_row0 hgb HRN.out hd3')
      have HOW := hid hown
      have HBS := hid hbS
      clear hM hown hbS hgb
      all_goals
        have hcut := TwAt.addO (x := (L.length : Int) + 1) hbm HMb.out hOb.out HOW.out HBS.out
        rw [HL.out, HO.out] at hcut
        have e : (N.nodes ++ dbl N.nodes.length N.outs i).length = N.nodes.length + 2 * i := by rw [List.length_append, dbl_len]
        rw [e, List.append_assoc] at hcut
        have HCUT := hid hcut
        clear hcut
        go_wp2_with fail
        go_roundw
        case rel =>
          refine ⟨i + 1, by omega, by go_num, ?_⟩
          unfold dbl dblO
          rw [HOO.out]
          have h := HCUT.out
          rw [dblO_len] at h
          rw [show (((N.nodes.length + 2 * i + 1 : Nat) : Int)) = ((N.nodes.length + 2 * i : Nat) : Int) + 1 from by omega, HO.out, dblO_len]
          exact h
        case measure => simp [intOf]; omega
    · obtain rfl : i = N.outs.length := by omega
      obtain ⟨ad, cn, ao, co, hMI⟩ := ht.netIn hn60 HS30
      have NI4 := hid hnw
      have MI4 := hid hMI
      have hbe := ht.below
      have HBE := hid hbe
      have hsz34 := hbe.size
      have NIlt : b0 < w3.heap.size := NI4.out.hb
      have HMR := hid (Net.twice_right HR.out hn60 HS30)
      obtain ⟨w4, rfl⟩ : ∃ w4 : World, w4 = wr := ⟨_, rfl⟩
      clear hMI hnw ht HT0 hbe
      go_upto_region 17 with (first
        | (go_at_call 31; (with_reducible refine (New_right _ _ _ _ _ _ N _ NI4.out hsz34 HR.out).mono ?_); rintro e w5 ⟨sa, ra, rfl, hs, hr, hsr, hsim, hbel⟩; have ska := hid (SimOk.mk' NI4.out HR.out hs hr hsr hsim hbel hsz34); have har := hid (show w4.heap.size ≤ sa ∧ w4.heap.size ≤ ra from ⟨hs, hr⟩); have MI5 := hid (MI4.out.stay hbel); have NI5 := hid (NI4.out.stay (hbel.mono hsz34)); have HB5 := hid (HBE.out.trans (hbel.mono hsz34)); have hsz45 := hbel.size; clear NI4 MI4 hbel hsim hs hr hsr)
        | (go_at_call 31; (with_reducible refine (New_right _ _ _ _ _ _ N.twice _ MI5.out hsz45 HMR.out).mono ?_); rintro e w6 ⟨sb, rb, rfl, hs, hr, hsr, hsim, hbel⟩; have skb := hid (SimOk.mk' MI5.out HMR.out hs hr hsr hsim hbel hsz45); have ska6 := hid (ska.out.stay hbel); have hab := hid (show sa < w5.heap.size ∧ ra < w5.heap.size ∧ w5.heap.size ≤ sb ∧ w5.heap.size ≤ rb from ⟨ska.out.slt, ska.out.rlt, hs, hr⟩); have NI6 := hid (NI5.out.stay (hbel.mono (by omega))); have HB6 := hid (HB5.out.trans (hbel.mono (by omega))); have hsz56 := hbel.size; clear NI5 MI5 ska hbel hsim hs hr hsr)
        | (go_at_call 31; (with_reducible refine (New_right _ _ _ _ _ _ N _ NI6.out (by omega) HR.out).mono ?_); rintro e w7 ⟨sc, rc, rfl, hs, hr, hsr, hsim, hbel⟩; have skc7 := hid (SimOk.mk' NI6.out HR.out hs hr hsr hsim hbel (by omega)); have ska7 := hid (ska6.out.stay hbel); have skb7 := hid (skb.out.stay hbel); have hbc := hid (show sb < w6.heap.size ∧ rb < w6.heap.size ∧ w6.heap.size ≤ sc ∧ w6.heap.size ≤ rc from ⟨skb.out.slt, skb.out.rlt, hs, hr⟩); have HB7 := hid (HB6.out.trans (hbel.mono (by omega))); have hsz67 := hbel.size; clear NI6 skb ska6 hbel hsim hs hr hsr))
      have hG : N.gates ≤ 60 := Nat.le_trans (gatesTo_le _ _) hn60
      have hTG := N.twice_gates
      obtain ⟨G, hGG⟩ : ∃ G, N.gates = G := ⟨_, rfl⟩
      rw [hGG] at hG hTG
      have HTG := hid hTG
      have HGG := hid hGG
      have hne : ((G + 2 * N.outs.length : Nat) : Int) = (G : Int) + 2 * N.outs.length := by omega
      have HNE := hid hne
      have hc2 := skc7.out.net.outs
      clear hTG hGG hne
      have hbl7 : Below w7.heap.size w7 w7 := Below.refl _ _
      have hbl7' : Below w7.heap.size w7 w7.drew := Below.drew (Below.refl _ _)
      have hb07 : b0 < w7.heap.size := by omega
      go_cut [96] (fun s96 wx => s96 = .bool false ∧ Below w7.heap.size w7 wx)
      case first =>
        go_region_held3 (fun w' => w'.cell? ⟨b0, 2, none⟩ = some (.slice a' N.outs.length c') ∧ Below w7.heap.size w7 w')
          ((refine keep1 hb07 hc2 ?_; first | assumption | exact Below.refl _ _ | exact (Below.refl _ _).drew))
          (first
            | (go_at_call 32; (with_reducible refine (gates_at skb7.out (by first | assumption | exact Below.refl _ _ | exact (Below.refl _ _).drew)).mono ?_); rintro e w8 ⟨rfl, hb8⟩; rw [HTG.out, HNE.out])
            | (go_at_call 32; (with_reducible refine (gates_at skc7.out (by first | assumption | exact Below.refl _ _ | exact (Below.refl _ _).drew)).mono ?_); rintro e w8 ⟨rfl, hb8⟩; rw [HGG.out])
            | fail)
        all_goals (go_wp2_with fail; go_meet; refine ⟨?_, by assumption⟩; rw [wrap_low (2 * (N.outs.length : Int)) (by omega) (by omega), wrap_low _ (by omega) (by omega)]; simp)
      case rest =>
      obtain ⟨rfl, hb8⟩ := hcut
      have ska8 := hid (ska7.out.stay hb8)
      have skb8 := hid (skb7.out.stay hb8)
      have skc8 := hid (skc7.out.stay hb8)
      have HB8 := hid (HB7.out.trans (hb8.mono (by omega)))
      have hsz78 := hb8.size
      clear ska7 skb7 skc7 hbl7 hbl7' HNE HTG HGG hc2
      have GW := hid (HGR.out.stay (HB3.out.mono hB))
      go_wp2_with fail
      go_loopw [14] (fun v wr => ∃ (i : Nat) (rn rm : List Bool), i ≤ ng ∧ v = .int .i64 i ∧ TwRegs N rn rm ∧ SimOk w3.heap.size wr b0 a c a' c' N sa ra rn ∧ SimOk w4.heap.size wr bm ad cn ao co N.twice sb rb rm ∧ SimOk w3.heap.size wr b0 a c a' c' N sc rc rn ∧ Below w3.heap.size w3 wr) (fun v _ => ng - (intOf v).toNat)
      case atStart => exact ⟨0, _, _, Nat.zero_le _, rfl, TwRegs.first N, ska8.out, skb8.out, skc8.out, HB8.out⟩
      case round =>
        obtain ⟨i, rn, rm, hle, rfl, htr, ska, skb, skc, hbe⟩ := hrel
        have HTR := hid htr
        have SKA := hid ska
        have SKB := hid skb
        have SKC := hid skc
        have HBR := hid hbe
        have GWR := hid (GW.out.stay (hbe.mono (Nat.le_trans hB HB3.out.size)))
        clear htr ska skb skc hbe ska8 skb8 skc8 HB8
        by_cases hlt : i < ng
        · have hlti : (i : Int) < (ng : Int) := by omega
          have hrow3 := GW.out.rows i (by rw [HGL.out]; exact hlt)
          have hrow := GWR.out.rows i (by rw [HGL.out]; exact hlt)
          have hnil := GWR.out.nils i (by rw [HGL.out]; exact hlt)
          have hlen := GWR.out.lens i
          obtain ⟨bg, og, rfl, hbg, hcg⟩ := GW.out.heads.at (by rw [HGL.out]; omega)
          have hg3 := hcg i (by rw [HGL.out]; exact hlt)
          have hbg3 : bg < w3.heap.size := Nat.lt_of_lt_of_le hbg (Nat.le_trans hB HB3.out.size)
          have hg1 := (HBR.out.cell (p := ⟨bg, og + i, none⟩) hbg3).trans hg3
          generalize gs.getD i [] = g at hrow hrow3 hnil hlen hg1 hg3
          generalize A i = ai at hrow hrow3 hnil hg1 hg3
          generalize C i = ci at hnil hg1 hg3
          clear hcg
          by_cases h300 : (300 : Int) < (g.length : Int)
          · go_wp2_with fail
            go_ret
            exact ⟨rfl, HB3.out.trans (HBR.out.mono HB3.out.size)⟩
          · have h300' : decide ((300 : Int) < (g.length : Int)) = false := decide_eq_false h300
            have hAR := har.out
            have hAB := hab.out
            have hBC := hbc.out
            have hsz3r := HBR.out.size
            have hB3 := HB3.out.size
            have BA := hid (bits_of (r := ra) hrow hlen (by omega) (by omega))
            have BB := hid (bits_of (r := rb) hrow hlen (by omega) (by omega))
            have hg300 : g.length ≤ 300 := by omega
            have hnew : Hid (∀ ad', ai = some ad' → ∀ (w' : World), Below w3.heap.size w3 w' → ∀ j u, (g.map Value.bool)[j]? = some u → w'.cell? (ad'.add j) = some u) := by
              intro ad' had w' hb'
              have hc := hrow3.stay (hb'.mono (Nat.le_trans hB hB3))
              subst had
              exact hc.news (by simp) (fun j hj => by simp [List.getElem?_map, List.getElem?_eq_getElem hj, List.getD_eq_getElem?_getD])
            have HNG := hid (Net.right_sizes HR.out)
            have hgiven : ∃ G : Nat, N.given = (G : Int) := Int.eq_ofNat_of_zero_le HNG.out.1
            obtain ⟨G, hG⟩ := hgiven
            have hG2 : G ≤ 20000 := by have := HNG.out.2.1; omega
            have hlo20 := HNG.out.2.2.2
            have hrbr := SKB.out.rlt
            have hrcr := SKC.out.rlt
            have k3 := k0
            rw [hG] at k3
            have HK3 := hid k3
            have HG3 := hid hg3
            have HGV := hid hG
            have HO1 := hid (decide_eq_true (HTR.out.outs HR.out g).symm)
            clear k3 hG hg3 HNG h300
            go_upto_region 25 with (go_at_call 33; (with_reducible refine (sim_step _ _ _ _ _ _ _ _ _ _ _ _ _ _ SKA.out BA.out).mono ?_); rintro e wA ⟨v, rfl, hown, hrw, hg⟩; have SKA5 := hid (SKA.out.next hrw hg); have SKB5 := hid (SKB.out.keep hg (by omega) (by omega) (by omega)); have SKC5 := hid (SKC.out.keep hg (by omega) (by omega) (by omega)); have HBA := hid (HBR.out.trans (below_of_grown hg hsz3r (by omega))); have HOWN := hid hown; have HBB := hid (bits_of (r := rb) (hrow.stay (below_of_grown hg (by omega) (by omega))) hlen (by have := hg.size; omega) (by omega)); have hszA := hg.size; clear SKA SKB SKC BA BB hown hrw hg)
            have hbA := HBA.out
            go_region_held3 (fun w' => w'.cell? ⟨bg, og + i, none⟩ = some (.slice ai g.length ci) ∧ w'.cell? ⟨b0, 0, none⟩ = some (.int .i64 (G : Int)) ∧ Below w3.heap.size w3 w')
              ((refine keep_two hbg3 HG3.out NIlt HK3.out ?_; repeat (first | assumption | refine Below.drew ?_ | refine Below.alloc ?_ (by first | assumption | (simp; omega) | omega) _)))
              (first
                | (go_at_call 33; (with_reducible refine (sim_at SKB5.out HBB.out rfl (by first | exact (Below.refl _ _).drew | exact Below.refl _ _)).mono ?_); rintro e wB ⟨vb, rfl, hownb, hrwb, hgb⟩; have SKA6 := hid ((SKA5.out.stay (Below.refl _ _).drew).keep hgb (by omega) (by omega) (by omega)); have SKB6 := hid ((SKB5.out.stay (Below.refl _ _).drew).next hrwb hgb); have SKC6 := hid ((SKC5.out.stay (Below.refl _ _).drew).keep hgb (by omega) (by omega) (by omega)); have HOWN6 := hid (owns_grown (ownsRow_below HOWN.out (Below.refl _ _).drew) hgb (by omega)); have HBB6 := hid ((HBA.out.trans (Below.drew (Below.refl _ _))).trans (below_of_grown hgb (by simp; omega) (by omega))); have hbB := HBB6.out; have HOWNB := hid hownb; have hszB : wA.heap.size ≤ wB.heap.size := hgb.size; clear SKA5 SKB5 SKC5 HOWN hownb hrwb hgb)
                | (go_at_call 27; (with_reducible refine (equal_at HOWN6.out HOWNB.out (by unfold maxLen; omega) HO1.out (by first | exact Below.refl _ _ | exact (Below.refl _ _).drew)).mono ?_); rintro e wC ⟨rfl, hbC⟩; have SKA7 := hid (SKA6.out.stay hbC); have SKB7 := hid (SKB6.out.stay hbC); have SKC7 := hid (SKC6.out.stay hbC); have HOWN7 := hid (ownsRow_below HOWN6.out hbC); have HBC7 := hid (HBB6.out.trans (hbC.mono HBB6.out.size)); have hbS := HBC7.out; have hszC := hbC.size; clear SKA6 SKB6 SKC6 HOWN6 HOWNB hbC)
                | ((refine step_append_src_w (by rfl) _ _ 41 (by rfl) wC.heap.size 4 i2 _ 1 1 Try.underlying41 hi2 hx0 hx1 hx2 (by rfl) (by decide) _ 0 [] (by rfl) (empty_own wC 4 (Nat.le_refl _)) ai g.length ci (g.map .bool) (by rfl) hnil (by simp) (fun ad' had => hnew.out ad' had _ (HBC7.out.alloc HBC7.out.size _)) (bools_one g) (by unfold maxLen; omega) (by omega) (by simp) ?_); intro av cv wD hown hgd; have HROW := hid hown.out; have HD := hid (Below.grown ((Below.refl wC.heap.size wC).alloc (Nat.le_refl _) _) hgd.out (by simp) (fun k hk => ((empty_own wC 4 (Nat.le_refl _)).lt k hk).1)); have hbD := HBC7.out.trans (HD.out.mono HBC7.out.size); clear hown hgd)
                | ((refine step_zeros (by rfl) _ _ 41 3 (by rfl) wC.heap.size 4 i2 (.bool false) .i64 .i64 1 Try.underlying41 Try.underlying3 hi2 hx0 hx1 hx2 rfl rfl _ _ _ (by rfl) HROW.out G (by rfl) (by unfold maxLen; omega) (by omega) HD.out.size ?_); intro av2 cv2 wE hown hge; have HROW2 := hid (own_pad0 hown.out); have HE := hid (HD.out.grown hge.out HD.out.size (fun k hk => (HROW.out.lt k hk).1)); have hbE := HBC7.out.trans (HE.out.mono HBC7.out.size); clear hown hge)
                | (go_at_call 33; (with_reducible refine (sim_at (SKC7.out.stay HE.out) (bits_owns HROW2.out (r := rc) (by omega) (by unfold maxLen; rw [List.length_append, List.length_replicate]; omega)) (by rw [List.length_append, List.length_replicate]) (by first | exact Below.refl _ _ | exact (Below.refl _ _).drew)).mono ?_); rintro e wF ⟨vc, rfl, hownc, hrwc, hgc⟩; have hszE := HE.out.size; have SKA8 := hid ((SKA7.out.stay HE.out).keep hgc (by omega) (by omega) (by omega)); have SKB8 := hid ((SKB7.out.stay HE.out).keep hgc (by omega) (by omega) (by omega)); have SKC8 := hid ((SKC7.out.stay HE.out).next hrwc hgc); have HOWN8 := hid (owns_grown (ownsRow_below HOWN7.out HE.out) hgc (by omega)); have HBF := hid ((HBC7.out.trans (HE.out.mono HBC7.out.size)).trans (below_of_grown hgc (by omega) (by omega))); have hbF := HBF.out; rw [Net.outVals_pad] at hownc; have HOWNC := hid hownc; clear SKA7 SKB7 SKC7 HOWN7 hownc hrwc hgc)
                | (go_at_call 27; (with_reducible refine (equal_at HOWN8.out HOWNC.out (by unfold maxLen; omega) (decide_eq_true rfl) (by first | exact Below.refl _ _ | exact (Below.refl _ _).drew)).mono ?_); rintro e wG ⟨rfl, hbG⟩; have SKA9 := hid (SKA8.out.stay hbG); have SKB9 := hid (SKB8.out.stay hbG); have SKC9 := hid (SKC8.out.stay hbG); have HBG := hid (HBF.out.trans (hbG.mono HBF.out.size)); have hbH := HBG.out; clear SKA8 SKB8 SKC8 HOWN8 HOWNC hbG)
                | fail)
            all_goals
              go_wp2_with fail
              go_roundw
              case rel => exact ⟨i + 1, _, _, by omega, by go_num, HTR.out.next HR.out g, SKA9.out, SKB9.out, (by have h := SKC9.out; rw [Net.regs_pad] at h; exact h), HBG.out⟩
              case measure => simp [intOf]; omega
        · obtain rfl : i = ng := by omega
          go_wp2_with fail
          go_ret
          exact ⟨rfl, HB3.out.trans (HBR.out.mono HB3.out.size)⟩
end Go.Proofs.Ytlaeflpddehipaa
