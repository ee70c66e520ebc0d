/- GateJoins, walked. -/
import Derived.Test.YtlaeflpddehipaaJoinsMem
import Derived.Test.YtlaeflpddehipaaBeside
import Derived.Test.YtlaeflpddehipaaNetted
set_option linter.unusedVariables false
namespace Go.Proofs.Ytlaeflpddehipaa
open Go.RowKit
attribute [local go_sem ↓] Go.wp_at_zero Go.wp_at_succ

theorem NetRows.stay {B : Nat} {w w' : World} {a : Option Addr} {c : Nat} {a' : Option Addr} {c' : Nat} {N : Net} (h : NetRows B w a c a' c' N) (hb : Below B w w') : NetRows B w' a c a' c' N :=
  ⟨h.rn.stay hb, h.ro.stay hb, h.ln, h.lo⟩

theorem beside_at (B : Nat) {w w' : World} (a : Option Addr) (c : Nat) (a' : Option Addr) (c' : Nat) (N : Net) (b : Option Addr) (d : Nat) (b' : Option Addr) (d' : Nat) (M : Net) (same : Bool) (hN : NetRows B w a c a' c' N) (hM : NetRows B w b d b' d' M) (hB : B ≤ w.heap.size) (hb : Below w.heap.size w w')
    (hs : N.small = true) (hs' : M.small = true) (hr : N.right = true) (hr' : M.right = true) (ha : a = none → N.nodes.length = 0 ∧ c = 0) (ha' : a' = none → N.outs.length = 0 ∧ c' = 0) :
    Calls Try.prog 34 #[.agg #[.int .i64 N.given, .slice a N.nodes.length c, .slice a' N.outs.length c'], .agg #[.int .i64 M.given, .slice b M.nodes.length d, .slice b' M.outs.length d'], .bool same] w' fun e w'' =>
      ∃ ad cn ao co, e = .returned (.agg #[.int .i64 (N.beside M same).given, .slice ad (N.beside M same).nodes.length cn, .slice ao (N.beside M same).outs.length co]) ∧ NetRows w''.heap.size w'' ad cn ao co (N.beside M same) ∧ Below w'.heap.size w' w'' := by
  refine (beside_any B a c a' c' N b d b' d' M same w' (hN.stay (hb.mono hB)) (hM.stay (hb.mono hB)) (Nat.le_trans hB hb.size) hs hs' hr hr' ha ha').mono ?_
  rintro e w'' ⟨ad, cn, ao, co, he, h1, _, _, h4⟩
  exact ⟨ad, cn, ao, co, he, h1, h4⟩

set_option maxHeartbeats 800000 in
theorem joins_wrong (B : Nat) (a : Option Addr) (c : Nat) (a' : Option Addr) (c' : Nat) (N : Net) (b : Option Addr) (d : Nat) (b' : Option Addr) (d' : Nat) (M : Net) (ag : Option Addr) (ng cg : Nat) (ap : Option Addr) (no cp : Nat)
    (hs : N.small = true) (hs' : M.small = true) (hng : ng ≤ 20) (hno : no ≤ 20) (hr : N.right = false ∨ M.right = false) (w : World) (h : NetRows B w a c a' c' N) (h' : NetRows B w b d b' d' M) (hB : B ≤ w.heap.size) :
    Calls Try.prog 7 #[.agg #[.int .i64 N.given, .slice a N.nodes.length c, .slice a' N.outs.length c'], .agg #[.int .i64 M.given, .slice b M.nodes.length d, .slice b' M.outs.length d'], .slice ag ng cg, .slice ap no cp] w (Yes w) := by
  have HK0 := hid (Boxes.first w (netVal a c a' c' N) (netVal b d b' d' M))
  have HS := hid hs
  have HS' := hid hs'
  have H := hid h
  have H' := hid h'
  have h1' : decide ((20 : Int) < ng) = false := decide_eq_false (by omega)
  have h2' : decide ((20 : Int) < no) = false := decide_eq_false (by omega)
  cases hrr : N.right
  · have HR := hid hrr
    clear hs hs' h h' hr hrr
    go_enter Try.func7, Try.ntmps7
    go_wp2_with (first
      | (go_at_call 28; (with_reducible refine (small_at a c a' c' N _ HS _).mono ?_); rintro e w1 ⟨rfl, hbel⟩; have HK1 := hid (HK0.out.next hbel); have y0 := HK1.out.cy 0; have y1 := HK1.out.cy 1; have y2 := HK1.out.cy 2; simp only [netVal, List.getElem?_toArray, List.getElem?_cons_succ, List.getElem?_cons_zero] at y0 y1 y2; clear hbel HK0)
      | (go_at_call 28; (with_reducible refine (small_at b d b' d' M _ HS' _).mono ?_); rintro e w2 ⟨rfl, hbel⟩; have HK2 := hid (HK1.out.next hbel); clear hbel y0 y1 y2 HK1)
      | (go_at_call 29; (with_reducible refine (netted_any _).mono ?_); rintro e w3 ⟨rfl, hbel⟩; have HK3 := hid (HK2.out.next hbel); clear hbel HK2)
      | (go_at_call 30; (with_reducible refine (Right_any _ _ _ _ _ _ N _ (HK3.out.netN H.out hB) HK3.out.size).mono ?_); rintro e w4 ⟨rfl, hbel⟩; rw [HR.out]; have HK4 := hid (HK3.out.next hbel); clear hbel HK3))
    go_ret
    exact ⟨rfl, HK4.out.b⟩
  · have HR := hid hrr
    have HR' : Hid (M.right = false) := by rcases hr with h | h <;> simp_all [Hid]
    clear hs hs' h h' hr hrr
    go_enter Try.func7, Try.ntmps7
    go_wp2_with (first
      | (go_at_call 28; (with_reducible refine (small_at a c a' c' N _ HS _).mono ?_); rintro e w1 ⟨rfl, hbel⟩; have HK1 := hid (HK0.out.next hbel); have y0 := HK1.out.cy 0; have y1 := HK1.out.cy 1; have y2 := HK1.out.cy 2; simp only [netVal, List.getElem?_toArray, List.getElem?_cons_succ, List.getElem?_cons_zero] at y0 y1 y2; clear hbel HK0)
      | (go_at_call 28; (with_reducible refine (small_at b d b' d' M _ HS' _).mono ?_); rintro e w2 ⟨rfl, hbel⟩; have HK2 := hid (HK1.out.next hbel); clear hbel y0 y1 y2 HK1)
      | (go_at_call 29; (with_reducible refine (netted_any _).mono ?_); rintro e w3 ⟨rfl, hbel⟩; have HK3 := hid (HK2.out.next hbel); clear hbel HK2)
      | (go_at_call 30; (with_reducible refine (Right_any _ _ _ _ _ _ N _ (HK3.out.netN H.out hB) HK3.out.size).mono ?_); rintro e w4 ⟨rfl, hbel⟩; rw [HR.out]; have HK4 := hid (HK3.out.next hbel); clear hbel HK3)
      | (go_at_call 30; (with_reducible refine (Right_any _ _ _ _ _ _ M _ (HK4.out.netM H'.out hB) HK4.out.size).mono ?_); rintro e w5 ⟨rfl, hbel⟩; rw [HR'.out]; have HK5 := hid (HK4.out.next hbel); clear hbel HK4))
    go_ret
    exact ⟨rfl, HK5.out.b⟩

set_option maxRecDepth 100000 in
set_option maxHeartbeats 6400000 in
theorem joins_right (B : Nat) (a : Option Addr) (c : Nat) (a' : Option Addr) (c' : Nat) (N : Net) (b : Option Addr) (d : Nat) (b' : Option Addr) (d' : Nat) (M : Net) (ag : Option Addr) (ng cg : Nat) (gs : List (List Bool)) (A : Nat → Option Addr) (C : Nat → Nat) (ap : Option Addr) (no cp : Nat) (os : List (List Bool)) (A' : Nat → Option Addr) (C' : Nat → Nat)
    (hgl : gs.length = ng) (hol : os.length = no) (hs : N.small = true) (hs' : M.small = true) (hng : ng ≤ 20) (hno : no ≤ 20) (hr : N.right = true) (hr' : M.right = true) (w : World) (hgr : GivenRows B w ag gs A C) (hor : GivenRows B w ap os A' C') (h : NetRows B w a c a' c' N) (h' : NetRows B w b d b' d' M) (hB : B ≤ w.heap.size)
    (ha : a = none → N.nodes.length = 0 ∧ c = 0) (ha' : a' = none → N.outs.length = 0 ∧ c' = 0) :
    Calls Try.prog 7 #[.agg #[.int .i64 N.given, .slice a N.nodes.length c, .slice a' N.outs.length c'], .agg #[.int .i64 M.given, .slice b M.nodes.length d, .slice b' M.outs.length d'], .slice ag ng cg, .slice ap no cp] w (Yes w) := by
  have HK0 := hid (Boxes.first w (netVal a c a' c' N) (netVal b d b' d' M))
  obtain ⟨i2, hi2, hx0, hx1, hx2⟩ := info_parts Try.infoBool
  have HS := hid hs
  have HS' := hid hs'
  have H := hid h
  have H' := hid h'
  have HR := hid hr
  have HR' := hid hr'
  have HA := hid ha
  have HA' := hid ha'
  have HGL := hid hgl
  have HOL := hid hol
  have HGR := hid hgr
  have HOR := hid hor
  have h1' : decide ((20 : Int) < ng) = false := decide_eq_false (by omega)
  have h2' : decide ((20 : Int) < no) = false := decide_eq_false (by omega)
  have hN60 : N.nodes.length ≤ 60 ∧ N.outs.length ≤ 30 ∧ N.given ≤ 200 := by simpa [Net.small, and_assoc] using hs
  have hM60 : M.nodes.length ≤ 60 ∧ M.outs.length ≤ 30 ∧ M.given ≤ 200 := by simpa [Net.small, and_assoc] using hs'
  have HN60 := hid hN60
  have HM60 := hid hM60
  clear hgl hol hs hs' hr hr' hgr hor h h' ha ha' hN60 hM60
  go_enter Try.func7, Try.ntmps7
  go_upto_region 8 with (first
    | (go_at_call 28; (with_reducible refine (small_at a c a' c' N _ HS _).mono ?_); rintro e w1 ⟨rfl, hbel⟩; have HK1 := hid (HK0.out.next hbel); have y0 := HK1.out.cy 0; have y1 := HK1.out.cy 1; have y2 := HK1.out.cy 2; simp only [netVal, List.getElem?_toArray, List.getElem?_cons_succ, List.getElem?_cons_zero] at y0 y1 y2; clear hbel HK0)
    | (go_at_call 28; (with_reducible refine (small_at b d b' d' M _ HS' _).mono ?_); rintro e w2 ⟨rfl, hbel⟩; have HK2 := hid (HK1.out.next hbel); clear hbel y0 y1 y2 HK1)
    | (go_at_call 29; (with_reducible refine (netted_any _).mono ?_); rintro e w3 ⟨rfl, hbel⟩; have HK3 := hid (HK2.out.next hbel); clear hbel HK2)
    | (go_at_call 30; (with_reducible refine (Right_any _ _ _ _ _ _ N _ (HK3.out.netN H.out hB) HK3.out.size).mono ?_); rintro e w4 ⟨rfl, hbel⟩; rw [HR.out]; have HK4 := hid (HK3.out.next hbel); clear hbel HK3)
    | (go_at_call 30; (with_reducible refine (Right_any _ _ _ _ _ _ M _ (HK4.out.netM H'.out hB) HK4.out.size).mono ?_); rintro e w5 ⟨rfl, hbel⟩; rw [HR'.out]; have HK5 := hid (HK4.out.next hbel); have x0 := HK5.out.cx 0; have x1 := HK5.out.cx 1; have x2 := HK5.out.cx 2; have y0 := HK5.out.cy 0; have y1 := HK5.out.cy 1; have y2 := HK5.out.cy 2; simp only [netVal, List.getElem?_toArray, List.getElem?_cons_succ, List.getElem?_cons_zero] at x0 x1 x2 y0 y1 y2; clear hbel HK4)
    | (go_at_call 34; (with_reducible refine (beside_at B a c a' c' N b d b' d' M false H.out H'.out hB HK5.out.b HS.out HS'.out HR.out HR'.out HA.out HA'.out).mono ?_); rintro e w6 ⟨ad, cn, ao, co, rfl, hJ, hbel⟩; have HK6 := hid (HK5.out.next hbel); have HJ := hid hJ; clear hbel hJ x0 x1 x2 y0 y1 y2 HK5))
  obtain ⟨J, hJJ⟩ : ∃ J, N.beside M false = J := ⟨_, rfl⟩
  have HJJ := hid hJJ
  rw [hJJ] at HJ ⊢
  have hb7 : Below w6.heap.size w6 (w6.alloc (.cells #[.int .i64 J.given, .slice ad J.nodes.length cn, .slice ao J.outs.length co] 48)) := (Below.refl _ _).alloc (Nat.le_refl _) _
  have JI : NetIn (w6.heap.size + 1) (w6.alloc (.cells #[.int .i64 J.given, .slice ad J.nodes.length cn, .slice ao J.outs.length co] 48)) w6.heap.size ad cn ao co J := HJ.out.box (Nat.le_refl _) (box_top _ _ _) hb7 _ (by omega) (by omega)
  have HK7 := hid (HK6.out.next hb7)
  have hs67 : w6.heap.size + 1 ≤ (w6.alloc (.cells #[.int .i64 J.given, .slice ad J.nodes.length cn, .slice ao J.outs.length co] 48)).heap.size := by simp
  have hs26 := HK6.out.size
  have HJR : Hid (J.right = true) := by
    have h1 := HN60.out
    have h2 := HM60.out
    unfold Hid
    rw [← hJJ]
    exact Net.beside_right false HR.out HR'.out (by omega) (by omega) (by omega)
  generalize w6.alloc (.cells #[.int .i64 J.given, .slice ad J.nodes.length cn, .slice ao J.outs.length co] 48) = w7 at *
  have HJI := hid JI
  obtain ⟨bm, hbm⟩ : ∃ bm, w6.heap.size = bm := ⟨_, rfl⟩
  rw [hbm] at HJI hs67 hs26 ⊢
  clear hb7 JI HJ HK6 hJJ hbm
  go_upto_region 13 with (first
    | (go_at_call 31; (with_reducible refine (New_right _ _ _ _ _ _ N _ (HK7.out.netN H.out hB) HK7.out.size HR.out).mono ?_); rintro e w8 ⟨sa, ra, rfl, hs, hr, hsr, hsim, hbel⟩; have ska := hid (SimOk.mk' (HK7.out.netN H.out hB) HR.out hs hr hsr hsim hbel HK7.out.size); have har := hid (show w7.heap.size ≤ sa ∧ w7.heap.size ≤ ra from ⟨hs, hr⟩); have HK8 := hid (HK7.out.next hbel); have HJI8 := hid (HJI.out.stay (hbel.mono hs67)); have HB8 := hid hbel; have hsz8 := hbel.size; clear hbel hsim hs hr hsr HJI)
    | (go_at_call 31; (with_reducible refine (New_right _ _ _ _ _ _ M _ (HK8.out.netM H'.out hB) HK8.out.size HR'.out).mono ?_); rintro e w9 ⟨sb, rb, rfl, hs, hr, hsr, hsim, hbel⟩; have skb := hid (SimOk.mk' (HK8.out.netM H'.out hB) HR'.out hs hr hsr hsim hbel HK8.out.size); have ska9 := hid (ska.out.stay hbel); have hbr := hid (show sa < w8.heap.size ∧ ra < w8.heap.size ∧ w8.heap.size ≤ sb ∧ w8.heap.size ≤ rb from ⟨ska.out.slt, ska.out.rlt, hs, hr⟩); have HJI9 := hid (HJI8.out.stay (hbel.mono (Nat.le_trans hs67 hsz8))); have HB9 := hid (HB8.out.trans (hbel.mono hsz8)); have hsz9 := hbel.size; clear hbel hsim hs hr hsr HJI8 HK8 ska HB8)
    | (go_at_call 31; (with_reducible refine (New_right _ _ _ _ _ _ J _ HJI9.out (by omega) HJR.out).mono ?_); rintro e wA ⟨sc, rc, rfl, hs, hr, hsr, hsim, hbel⟩; have skcA := hid (SimOk.mk' HJI9.out HJR.out hs hr hsr hsim hbel (by omega)); have skaA := hid (ska9.out.stay hbel); have skbA := hid (skb.out.stay hbel); have hcr := hid (show sb < w9.heap.size ∧ rb < w9.heap.size ∧ w9.heap.size ≤ sc ∧ w9.heap.size ≤ rc from ⟨skb.out.slt, skb.out.rlt, hs, hr⟩); have HBA := hid (HB9.out.trans (hbel.mono (by omega))); have hszA := hbel.size; clear hbel hsim hs hr hsr HJI9 ska9 skb HB9))
  have GW := hid (HGR.out.stay (HK7.out.b.mono hB))
  have OW := hid (HOR.out.stay (HK7.out.b.mono hB))
  have hBw7 : B ≤ w7.heap.size := by omega
  have hK0 := HK7.out.cx 0
  simp only [netVal, List.getElem?_toArray, List.getElem?_cons_succ, List.getElem?_cons_zero] at hK0
  have hgiven : ∃ G : Nat, N.given = (G : Int) := Int.eq_ofNat_of_zero_le (Net.right_sizes HR.out).1
  obtain ⟨G, hG⟩ := hgiven
  rw [hG] at hK0
  have HK00 := hid hK0
  have hG200 : G ≤ 200 := by have := HN60.out.2.2; omega
  have HG := hid hG
  have hFJ : J.first = N.first ++ M.first := by rw [← HJJ.out]; exact Net.beside_first N M false
  have HFJ := hid hFJ
  clear hK0 hG hFJ
  go_wp2_with fail
  go_loopw [16] (fun v wr => ∃ (i : Nat) (rn rm : List Bool), i ≤ ng ∧ v = .int .i64 i ∧ rn.length = N.nodes.length ∧ rm.length = M.nodes.length ∧ SimOk (w.heap.size + 2) wr w.heap.size a c a' c' N sa ra rn ∧ SimOk (w.heap.size + 2) wr (w.heap.size + 1) b d b' d' M sb rb rm ∧ SimOk (bm + 1) wr bm ad cn ao co J sc rc (rn ++ rm) ∧ Below w7.heap.size w7 wr) (fun v _ => ng - (intOf v).toNat)
  case atStart => exact ⟨0, _, _, Nat.zero_le _, rfl, by simp [Net.first], by simp [Net.first], skaA.out, skbA.out, (by have h := skcA.out; rw [HFJ.out] at h; exact h), HBA.out⟩
  case round =>
    obtain ⟨i, rn, rm, hle, rfl, hrn, hrm, ska, skb, skc, hbe⟩ := hrel
    have HRN := hid hrn
    have HRM := hid hrm
    have SKA := hid ska
    have SKB := hid skb
    have SKC := hid skc
    have HBR := hid hbe
    clear hrn hrm ska skb skc hbe skaA skbA skcA HBA
    by_cases hlt : i < ng
    · have hlti : (i : Int) < (ng : Int) := by omega
      by_cases hlo : i < no
      · have hlto : (i : Int) < (no : Int) := by omega
        have hrow3 := GW.out.rows i (by rw [HGL.out]; exact hlt)
        have hnil := GW.out.nils i (by rw [HGL.out]; exact hlt)
        have hlen := GW.out.lens i
        obtain ⟨bg, og, rfl, hbg, hcg⟩ := GW.out.heads.at (by rw [HGL.out]; omega)
        have hg3 := hcg i (by rw [HGL.out]; exact hlt)
        have hbg3 : bg < w7.heap.size := Nat.lt_of_lt_of_le hbg hBw7
        have hg1 := (HBR.out.cell (p := ⟨bg, og + i, none⟩) hbg3).trans hg3
        have orow3 := OW.out.rows i (by rw [HOL.out]; exact hlo)
        have onil := OW.out.nils i (by rw [HOL.out]; exact hlo)
        have olen := OW.out.lens i
        obtain ⟨bo, oo, rfl, hbo, hco⟩ := OW.out.heads.at (by rw [HOL.out]; omega)
        have ho3 := hco i (by rw [HOL.out]; exact hlo)
        have hbo3 : bo < w7.heap.size := Nat.lt_of_lt_of_le hbo hBw7
        have ho1 := (HBR.out.cell (p := ⟨bo, oo + i, none⟩) hbo3).trans ho3
        generalize gs.getD i [] = g at hrow3 hnil hlen hg1 hg3
        generalize A i = ai at hrow3 hnil hg1 hg3
        generalize C i = ci at hnil hg1 hg3
        generalize os.getD i [] = o at orow3 onil olen ho1 ho3
        generalize A' i = oi at orow3 onil ho1 ho3
        generalize C' i = oci at onil ho1 ho3
        clear hcg hco
        have hYes : Yes w (.returned (.bool true)) wr := ⟨rfl, HK7.out.b.trans (HBR.out.mono HK7.out.b.size)⟩
        have HYES := hid hYes
        clear hYes
        by_cases h300 : (300 : Int) < (g.length : Int)
        · go_wp2_with fail
          go_ret
          exact HYES.out
        · have h300' : decide ((300 : Int) < (g.length : Int)) = false := decide_eq_false h300
          by_cases h300o : (300 : Int) < (o.length : Int)
          · clear h300
            go_wp2_with fail
            go_ret
            exact HYES.out
          · have h300o' : decide ((300 : Int) < (o.length : Int)) = false := decide_eq_false h300o
            have hg300 : g.length ≤ 300 := by omega
            have ho300 : o.length ≤ 300 := by omega
            clear h300 h300o
            have hAR := har.out
            have hBRR := hbr.out
            have hCR := hcr.out
            have hsz7r := HBR.out.size
            have hrar := SKA.out.rlt
            have hrbr := SKB.out.rlt
            have hrcr := SKC.out.rlt
            have hb07 : w.heap.size < w7.heap.size := by omega
            have HG3 := hid hg3
            have HO3 := hid ho3
            have hnewG : Hid (∀ ad', ai = some ad' → ∀ (w' : World), Below w7.heap.size w7 w' → ∀ j u, (g.map Value.bool)[j]? = some u → w'.cell? (ad'.add j) = some u) := by
              intro ad' had w' hb'
              have hc := hrow3.stay (hb'.mono hBw7)
              subst had
              exact hc.news (by simp) (fun j hj => by simp [List.getElem?_map, List.getElem?_eq_getElem hj, List.getD_eq_getElem?_getD])
            have hnewO : Hid (∀ ad', oi = some ad' → ∀ (w' : World), Below w7.heap.size w7 w' → ∀ j u, (o.map Value.bool)[j]? = some u → w'.cell? (ad'.add j) = some u) := by
              intro ad' had w' hb'
              have hc := orow3.stay (hb'.mono hBw7)
              subst had
              exact hc.news (by simp) (fun j hj => by simp [List.getElem?_map, List.getElem?_eq_getElem hj, List.getD_eq_getElem?_getD])
            clear hg3 ho3
            go_upto_region 18 with fail
            have hbT := HBR.out
            go_region_held3 (fun w' => w'.cell? ⟨bg, og + i, none⟩ = some (.slice ai g.length ci) ∧ w'.cell? ⟨w.heap.size, 0, none⟩ = some (.int .i64 (G : Int)) ∧ Below w7.heap.size w7 w')
              ((refine keep_two hbg3 HG3.out hb07 HK00.out ?_; (repeat (first | with_reducible exact HBR.out | with_reducible exact hbT | with_reducible refine Below.drew ?_ | with_reducible refine Below.alloc ?_ (by first | exact HBR.out.size | (simp; omega) | omega | fail) _))))
              (first
                | ((refine step_append_held (by rfl) _ _ 41 (by rfl) wr.heap.size 4 i2 _ 1 1 Try.underlying41 hi2 hx0 hx1 hx2 (by rfl) (by decide) (.slice (some ⟨_, 0, none⟩) 0 0) 0 [] (by rfl) ?_ ai g.length ci (g.map .bool) (by rfl) hnil (by simp) ?_ (bools_one g) (by unfold maxLen; omega) (by omega) ?_ ?_); (focus ((repeat (first | with_reducible exact empty_g _ _ _ _ (by first | rfl | (simp; done) | fail) (by first | (simp; done) | (simp; omega) | omega | fail) | with_reducible refine World.ownsRow.drew ?_ | with_reducible refine World.ownsRow.alloc ?_ _)); done)); (focus (intro ad' had; refine hnewG.out ad' had _ ?_; (repeat (first | with_reducible exact HBR.out | with_reducible exact hbT | with_reducible refine Below.drew ?_ | with_reducible refine Below.alloc ?_ (by first | exact HBR.out.size | (simp; omega) | omega | fail) _)); done)); (focus ((first | (simp; done) | (simp; omega) | omega | fail); done)); intro av cv wD HP hown hgd; (have hbD : Below wr.heap.size wr wD := by ((refine cross_below hgd.out HP.out ?_ ?_); (focus ((repeat (first | with_reducible exact Below.refl _ _ | with_reducible refine Below.drew ?_ | with_reducible refine Below.alloc ?_ (by first | (simp; done) | (simp; omega) | omega | fail) _)); done)); (focus ((first | (simp; done) | (simp; omega) | omega | fail); done)))); have HROW := hid hown.out; have HD := hid hbD; have hszD := hbD.size; have hbT := HBR.out.trans (hbD.mono hsz7r); clear hown hgd HP hbD)
                | ((refine step_zeros (by rfl) _ _ 41 3 (by rfl) wr.heap.size 4 i2 (.bool false) .i64 .i64 1 Try.underlying41 Try.underlying3 hi2 hx0 hx1 hx2 rfl rfl _ _ _ (by rfl) HROW.out G (by rfl) (by unfold maxLen; omega) (by omega) hszD ?_); intro av2 cv2 wE hown hge; have HROW2 := hid (own_pad0 hown.out); have HE := hid (HD.out.grown hge.out hszD (fun k hk => (HROW.out.lt k hk).1)); have hszE := HE.out.size; have hcap := owns_cap HROW2.out; have hcap1 : (0 : Int) ≤ (G : Int) := (by omega); have hcap2 : (G : Int) ≤ (cv2 : Int) := (by omega); have hcap3 : G ≤ cv2 := (by omega); have hbT := HBR.out.trans (HE.out.mono hsz7r); clear hown hge)
                | fail)
            have HF5 := hid (owns_take HROW2.out (by omega : G ≤ g.length + G))
            have HAV := hid (fun k (hk : (Value.slice av2 G cv2).ownBlock = some k) => HF5.out.lt k hk)
            have HSL := hid (show sa < wr.heap.size ∧ sb < wr.heap.size ∧ sc < wr.heap.size from ⟨SKA.out.slt, SKB.out.slt, SKC.out.slt⟩)
            have SKA5 := hid (SKA.out.stay HE.out)
            have SKB5 := hid (SKB.out.stay HE.out)
            have SKC5 := hid (SKC.out.stay HE.out)
            have HBE := hid hbT
            have hszE7 := hbT.size
            clear SKA SKB SKC HROW HROW2 HD hcap hcap1 hcap2 hcap3 hnewG
            go_upto_region 19 with fail
            go_region_held3 (fun w' => w'.cell? ⟨bg, og + i, none⟩ = some (.slice ai g.length ci) ∧ w'.cell? ⟨bo, oo + i, none⟩ = some (.slice oi o.length oci) ∧ Below w7.heap.size w7 w')
              ((refine keep_two hbg3 HG3.out hbo3 HO3.out ?_; (repeat (first | with_reducible exact hbT | with_reducible refine Below.drew ?_))))
              (first
                | (go_at_call 33; (with_reducible refine (sim_at SKA5.out (bits_of (r := ra) (hrow3.stay (HBE.out.mono hBw7)) hlen (by omega) (by omega)) rfl (by first | exact (Below.refl _ _).drew | exact Below.refl _ _)).mono ?_); rintro e wF ⟨v1, rfl, hown, hrw, hg⟩; have SKA6 := hid ((SKA5.out.stay (Below.refl _ _).drew).next hrw hg); have SKB6 := hid ((SKB5.out.stay (Below.refl _ _).drew).keep hg (by omega) (by omega) (by omega)); have SKC6 := hid ((SKC5.out.stay (Below.refl _ _).drew).keep hg (by omega) (by omega) (by omega)); have HF6 := hid (owns_grown (ownsRow_below HF5.out (Below.refl _ _).drew) hg (by omega)); (have hbF := (HBE.out.trans (Below.drew (Below.refl _ _))).trans (below_of_grown hg (by simp; omega) (by omega))); have HBF := hid hbF; have hbT := hbF; have hszF : wE.heap.size ≤ wF.heap.size := hg.size; have HO1 := hid hown; clear SKA5 SKB5 SKC5 HF5 hown hrw hg hbF)
                | (go_at_call 33; (with_reducible refine (sim_at SKB6.out (bits_of (r := rb) (orow3.stay (HBF.out.mono hBw7)) olen (by omega) (by omega)) rfl (by first | exact Below.refl _ _ | exact (Below.refl _ _).drew)).mono ?_); rintro e wG ⟨v2, rfl, hown, hrw, hg⟩; have SKA7 := hid (SKA6.out.keep hg (by omega) (by omega) (by omega)); have SKB7 := hid (SKB6.out.next hrw hg); have SKC7 := hid (SKC6.out.keep hg (by omega) (by omega) (by omega)); have HF7 := hid (owns_grown HF6.out hg (by omega)); have HO17 := hid (owns_grown HO1.out hg (by simp; omega)); (have hbG := HBF.out.trans (below_of_grown hg (by omega) (by omega))); have HBG := hid hbG; have hbT := hbG; have hszG : wF.heap.size ≤ wG.heap.size := hg.size; have HO2 := hid hown; clear SKA6 SKB6 SKC6 HF6 HO1 hown hrw hg hbG)
                | fail)
            obtain ⟨a1, c1, rfl⟩ := owns_slice HO17.out
            obtain ⟨a2, c2, rfl⟩ := owns_slice HO2.out
            have NIL1 := hid (owns_nil HO17.out)
            have NIL2 := hid (owns_nil HO2.out)
            have HL1 := hid (show ((N.outVals rn g).map Value.bool).length = N.outs.length * 1 by simp [Net.outVals])
            have HL2 := hid (show ((M.outVals rm o).map Value.bool).length = M.outs.length * 1 by simp [Net.outVals])
            have hj1 : ∀ x : Nat, (x : Int) < N.given → (joinGiven g G o).getD x false = g.getD x false := fun x hx => joinGiven_first g G o x (by have := HG.out; omega)
            have hj2 : ∀ x : Nat, (x : Int) < M.given → (joinGiven g G o).getD (x + (shiftOf N false).toNat) false = o.getD x false := by
              intro x hx
              have e : (shiftOf N false).toNat = G := by unfold shiftOf; have := HG.out; simp; omega
              rw [e]
              exact joinGiven_then g G o x
            have ho := beside_outVals (same := false) (rm := rm) HR.out HR'.out HRN.out hj1 hj2
            have hrg := beside_regs (same := false) HR.out HR'.out HRN.out HRM.out hj1 hj2
            rw [HJJ.out] at ho hrg
            have HOUT := hid (decide_eq_true ho)
            have HREG := hid hrg
            have hJo : J.outs.length = N.outs.length + M.outs.length := by rw [← HJJ.out]; exact Net.beside_outs N M false
            have HJO := hid hJo
            have hN30 := HN60.out.2.1
            have hM30 := HM60.out.2.1
            have hJ60 : J.outs.length ≤ 60 := by omega
            clear hj1 hj2 ho hrg hJo
            have ho5 := (HBG.out.cell (p := ⟨bo, oo + i, none⟩) hbo3).trans HO3.out
            have hszrG : wr.heap.size ≤ wG.heap.size := by omega
            clear hbT
            go_wp2_with (at_builtin; refine wpList_src _ rfl _ _ 41 rfl wr.heap.size 4 i2 _ 1 1 Try.underlying41 hi2 hx0 hx1 hx2 rfl (by decide) _ G _ rfl HF7.out oi o.length oci (o.map .bool) rfl onil (by simp) (fun ad' had => hnewO.out ad' had _ HBG.out) (bools_one o) ?_ ?_ ?_ ?_)
            focus (unfold maxLen; omega)
            focus omega
            focus omega
            intro av3 cv3 wH HP hown hgh
            have hbrH : Below wr.heap.size wG wH := (Below.refl _ _).grown hgh.out hszrG (fun k hk => (HAV.out k hk).1)
            have hszH : wG.heap.size ≤ wH.heap.size := hgh.out.size
            have hblo := (show bm + 1 ≤ wr.heap.size ∧ w.heap.size + 2 ≤ wr.heap.size from ⟨by omega, by omega⟩)
            have SKA8 := hid (SKA7.out.under (K := wr.heap.size) HSL.out.1 hrar hblo.2 hbrH)
            have SKB8 := hid (SKB7.out.under (K := wr.heap.size) HSL.out.2.1 hrbr hblo.2 hbrH)
            have SKC8 := hid (SKC7.out.under (K := wr.heap.size) HSL.out.2.2 hrcr hblo.1 hbrH)
            have HO18 := hid (owns_far HO17.out hgh.out (fun k hk => (HAV.out k hk).2) (Nat.le_refl _))
            have HO28 := hid (owns_far HO2.out hgh.out (fun k hk => (HAV.out k hk).2) hszF)
            have HGIV := hid (join_row hown.out)
            have HBH := hid (HBG.out.trans (hbrH.mono hsz7r))
            clear SKA7 SKB7 SKC7 HO17 HO2 hown hgh HP hbrH HF7 ho5
            go_wp2_with (first
              | (go_at_call 33; (with_reducible refine (sim_at SKC8.out (bits_owns HGIV.out (r := rc) hrcr (by rw [joinGiven_len]; unfold maxLen; omega)) (joinGiven_len g G o).symm (by first | exact Below.refl _ _ | exact (Below.refl _ _).drew)).mono ?_); rintro e wI ⟨v3, rfl, hown, hrw, hg⟩; have SKA9 := hid (SKA8.out.keep hg (by omega) (by omega) (by omega)); have SKB9 := hid (SKB8.out.keep hg (by omega) (by omega) (by omega)); have SKC9 := hid (SKC8.out.next hrw hg); have HO19 := hid (owns_grown HO18.out hg (by simp; omega)); have HO29 := hid (owns_grown HO28.out hg (by omega)); have HBI := hid (HBH.out.trans (below_of_grown hg (by omega) (by omega))); have hszI : wH.heap.size ≤ wI.heap.size := hg.size; have HO39 := hid hown; clear SKA8 SKB8 SKC8 HO18 HO28 HGIV hown hrw hg)
              | (at_builtin; refine wpList_src _ rfl _ _ 41 rfl wI.heap.size 4 i2 _ 1 1 Try.underlying41 hi2 hx0 hx1 hx2 rfl (by decide) (.slice (some ⟨wI.heap.size, 0, none⟩) 0 0) 0 [] rfl (empty_g _ _ _ _ rfl (Nat.le_refl _)) a1 N.outs.length c1 ((N.outVals rn g).map .bool) rfl NIL1.out HL1.out (owns_news (HO19.out.alloc _) (fun _ _ _ => rfl)) (bools_one _) ?_ ?_ ?_ ?_; (focus (unfold maxLen; omega)); (focus omega); (focus (simp; done)); intro av4 cv4 wJ HP hown hgj; (have hbJ : Below wI.heap.size wI wJ := by (refine cross_below hgj.out HP.out ((Below.refl _ _).alloc (Nat.le_refl _) _) (by simp))); have HRAW := hid hown.out; have HROW4 := hid (row_one hown.out); have HO2J := hid (ownsRow_below HO29.out hbJ); have HBJ := hid hbJ; have hszJ := hbJ.size; clear HP hown hgj)
              | (at_builtin; refine wpList_src _ rfl _ _ 41 rfl wI.heap.size 4 i2 _ 1 1 Try.underlying41 hi2 hx0 hx1 hx2 rfl (by decide) _ _ _ rfl HROW4.out a2 M.outs.length c2 ((M.outVals rm o).map .bool) rfl NIL2.out HL2.out (owns_news HO2J.out (fun _ _ _ => rfl)) (bools_one _) ?_ ?_ ?_ ?_; (focus (unfold maxLen; omega)); (focus omega); (focus omega); intro av5 cv5 wK HP hown hgk; (have hbK : Below wI.heap.size wI wK := hbJ.grown hgk.out hbJ.size (fun k hk => (HP.out.lt k hk).1)); have HR5 := hid (two_rows0 hown.out); have HBK := hid hbK; have HO3K := hid (ownsRow_below HO39.out hbK); clear hbK HP hown hgk HO2J HBJ)
              | (at_builtin; refine wpList_src _ rfl _ _ 41 rfl wI.heap.size 4 i2 _ 1 1 Try.underlying41 hi2 hx0 hx1 hx2 rfl (by decide) _ _ _ rfl HRAW.out a2 M.outs.length c2 ((M.outVals rm o).map .bool) rfl NIL2.out HL2.out (owns_news HO2J.out (fun _ _ _ => rfl)) (bools_one _) ?_ ?_ ?_ ?_; (focus (unfold maxLen; omega)); (focus omega); (focus omega); intro av5 cv5 wK HP hown hgk; (have hbK : Below wI.heap.size wI wK := hbJ.grown hgk.out hbJ.size (fun k hk => (HP.out.lt k hk).1)); have HR5 := hid (two_rows hown.out); have HBK := hid hbK; have HO3K := hid (ownsRow_below HO39.out hbK); clear hbK HP hown hgk HO2J HBJ)
              | (go_at_call 27; (with_reducible refine (equal_at HO3K.out HR5.out (by unfold maxLen; omega) HOUT.out (by first | exact Below.refl _ _ | exact (Below.refl _ _).drew)).mono ?_); rintro e wL ⟨rfl, hbL⟩; have HBL := hid (HBK.out.trans (hbL.mono HBK.out.size)); clear hbL))
            go_roundw
            case rel => exact ⟨i + 1, N.regs' rn g, M.regs' rm o, by omega, by go_num, (N.regsTo_len _ _ _).trans HRN.out, (M.regsTo_len _ _ _).trans HRM.out, SKA9.out.stay HBL.out, SKB9.out.stay HBL.out, (by have h := SKC9.out.stay HBL.out; rw [HREG.out] at h; exact h), HBI.out.trans (HBL.out.mono HBI.out.size)⟩
            case measure => simp [intOf]; omega
      · have hlto : decide ((i : Int) < (no : Int)) = false := decide_eq_false (by omega)
        go_wp2_with fail
        go_ret
        exact ⟨rfl, HK7.out.b.trans (HBR.out.mono HK7.out.b.size)⟩
    · obtain rfl : i = ng := by omega
      go_wp2_with fail
      go_ret
      exact ⟨rfl, HK7.out.b.trans (HBR.out.mono HK7.out.b.size)⟩

theorem gateJoins_any (B : Nat) (a : Option Addr) (c : Nat) (a' : Option Addr) (c' : Nat) (N : Net) (b : Option Addr) (d : Nat) (b' : Option Addr) (d' : Nat) (M : Net) (ag : Option Addr) (cg : Nat) (gs : List (List Bool)) (A : Nat → Option Addr) (C : Nat → Nat) (ap : Option Addr) (cp : Nat) (os : List (List Bool)) (A' : Nat → Option Addr) (C' : Nat → Nat)
    (w : World) (hgr : GivenRows B w ag gs A C) (hor : GivenRows B w ap os A' C') (h : NetRows B w a c a' c' N) (h' : NetRows B w b d b' d' M) (hB : B ≤ w.heap.size)
    (ha : a = none → N.nodes.length = 0 ∧ c = 0) (ha' : a' = none → N.outs.length = 0 ∧ c' = 0) :
    Calls Try.prog 7 #[.agg #[.int .i64 N.given, .slice a N.nodes.length c, .slice a' N.outs.length c'], .agg #[.int .i64 M.given, .slice b M.nodes.length d, .slice b' M.outs.length d'], .slice ag gs.length cg, .slice ap os.length cp] w (Yes w) := by
  by_cases hl : N.small = false ∨ M.small = false ∨ 20 < gs.length ∨ 20 < os.length
  · exact joins_long a c a' c' N b d b' d' M ag gs.length cg ap os.length cp hl w
  · have h1 : N.small = true := by cases h1 : N.small <;> simp_all
    have h2 : M.small = true := by cases h1 : M.small <;> simp_all
    have h3 : gs.length ≤ 20 := by omega
    have h4 : os.length ≤ 20 := by omega
    by_cases hw : N.right = false ∨ M.right = false
    · exact joins_wrong B a c a' c' N b d b' d' M ag gs.length cg ap os.length cp h1 h2 h3 h4 hw w h h' hB
    · have r1 : N.right = true := by cases h1 : N.right <;> simp_all
      have r2 : M.right = true := by cases h1 : M.right <;> simp_all
      exact joins_right B a c a' c' N b d b' d' M ag gs.length cg gs A C ap os.length cp os A' C' rfl rfl h1 h2 h3 h4 r1 r2 w hgr hor h h' hB ha ha'
end Go.Proofs.Ytlaeflpddehipaa
