/- CleanSame, walked. -/
import Derived.Test.YtlaeflpddehipabDoorCleanW
import Derived.Test.YtlaeflpddehipabDoorBox1
import Derived.Test.YtlaeflpddehipabDoorTell
set_option linter.unusedVariables false
namespace Go.Proofs.YtlaeflpddehipabDoor
open Go.RowKit
attribute [local go_sem ↓] Go.wp_at_zero Go.wp_at_succ

section
variable (B : Nat) (a : Option Addr) (c : Nat) (a' : Option Addr) (c' : Nat) (N : Net) (ag : Option Addr) (ng cg : Nat) (w : World)
set_option maxRecDepth 100000 in
theorem cleanSame_long (hs : N.small = false ∨ 20 < ng) : Calls Tryd.prog 4 #[.agg #[.int .i64 N.given, .slice a N.nodes.length c, .slice a' N.outs.length c'], .slice ag ng cg] w (Yes w) := by
  have HK0 := hid (Box1.first w (netVal a c a' c' N))
  cases h1 : N.small
  · have HS := hid h1
    clear hs h1
    go_enter Tryd.func4, Tryd.ntmps4
    go_wp2_with (go_at_call 14; (with_reducible refine (small_at2 a c a' c' N _ HS _).mono ?_); rintro e w1 ⟨rfl, hbel⟩; have HK1 := hid (HK0.out.next hbel); clear hbel HK0)
    go_ret
    exact ⟨rfl, HK1.out.b⟩
  · have HS := hid h1
    have h2 : (20 : Int) < ng := by
      rcases hs with h | h
      · rw [h1] at h; cases h
      · omega
    clear hs h1
    go_enter Tryd.func4, Tryd.ntmps4
    go_wp2_with (go_at_call 14; (with_reducible refine (small_at2 a c a' c' N _ HS _).mono ?_); rintro e w1 ⟨rfl, hbel⟩; have HK1 := hid (HK0.out.next hbel); clear hbel HK0)
    go_ret
    exact ⟨rfl, HK1.out.b⟩
set_option maxRecDepth 100000 in
set_option maxHeartbeats 800000 in
theorem cleanSame_wrong (h : NetRows B w a c a' c' N) (hB : B ≤ w.heap.size) (hs : N.small = true) (hng : ng ≤ 20) (hr : N.right = false) (hg : ErrType w) : Calls Tryd.prog 4 #[.agg #[.int .i64 N.given, .slice a N.nodes.length c, .slice a' N.outs.length c'], .slice ag ng cg] w (Yes w) := by
  have HK0 := hid (Box1.first w (netVal a c a' c' N))
  have HS := hid hs
  have HR := hid hr
  have HG := hid hg
  have H := hid h
  have h2 : decide ((20 : Int) < ng) = false := decide_eq_false (by omega)
  clear hs hr h hg
  go_enter Tryd.func4, Tryd.ntmps4
  go_wp2_with (first
    | (go_at_call 14; (with_reducible refine (small_at2 a c a' c' N _ HS _).mono ?_); rintro e w1 ⟨rfl, hbel⟩; have HK1 := hid (HK0.out.next hbel); clear hbel HK0)
    | (go_at_call 15; (with_reducible refine (cleaned_any _).mono ?_); rintro e w2 ⟨rfl, hbel⟩; have HK2 := hid (HK1.out.next hbel); clear hbel HK1)
    | (go_at_call 16; (with_reducible refine (Clean_wrong _ _ _ _ _ _ N _ (HK2.out.net H.out hB) HK2.out.size HR.out).mono ?_); rintro e w3 ⟨rfl, hbel⟩; have HK3 := hid (HK2.out.next hbel); clear hbel HK2)
    | (go_at_call 17; (with_reducible refine (Right_any _ _ _ _ _ _ N _ (HK3.out.net H.out hB) HK3.out.size).mono ?_); rintro e w4 ⟨rfl, hbel⟩; rw [HR.out]; have HK4 := hid (HK3.out.next hbel); clear hbel HK3)
    | (go_at_call 18; (with_reducible refine (Tell_errno 1 _ (HG.out.stay HK4.out.b)).mono ?_); rintro e w5 ⟨rfl, hbel⟩; have HK5 := hid (HK4.out.next hbel); clear hbel HK4))
  go_ret
  exact ⟨rfl, HK5.out.b⟩
theorem keep_six {w3 w' : World} {b d : Nat} {x0 x1 x2 y0 y1 y2 : Value} (hlt : b < w3.heap.size) (hlt2 : d < w3.heap.size) (c0 : w3.cell? ⟨b, 0, none⟩ = some x0) (c1 : w3.cell? ⟨b, 1, none⟩ = some x1) (c2 : w3.cell? ⟨b, 2, none⟩ = some x2) (d0 : w3.cell? ⟨d, 0, none⟩ = some y0) (d1 : w3.cell? ⟨d, 1, none⟩ = some y1) (d2 : w3.cell? ⟨d, 2, none⟩ = some y2) (h : Below w3.heap.size w3 w') :
    w'.cell? ⟨b, 0, none⟩ = some x0 ∧ w'.cell? ⟨b, 1, none⟩ = some x1 ∧ w'.cell? ⟨b, 2, none⟩ = some x2 ∧ w'.cell? ⟨d, 0, none⟩ = some y0 ∧ w'.cell? ⟨d, 1, none⟩ = some y1 ∧ w'.cell? ⟨d, 2, none⟩ = some y2 ∧ Below w3.heap.size w3 w' :=
  ⟨(h.cell (p := ⟨b, 0, none⟩) hlt).trans c0, (h.cell (p := ⟨b, 1, none⟩) hlt).trans c1, (h.cell (p := ⟨b, 2, none⟩) hlt).trans c2, (h.cell (p := ⟨d, 0, none⟩) hlt2).trans d0, (h.cell (p := ⟨d, 1, none⟩) hlt2).trans d1, (h.cell (p := ⟨d, 2, none⟩) hlt2).trans d2, h⟩
/-- The nets' registers, beside one another. -/
def SameRel (P Q : List Bool → List Bool → Prop) (B : Nat) (w3 : World) (b1 : Nat) (a1 : Option Addr) (c1 : Nat) (a1' : Option Addr) (c1' : Nat) (N1 : Net) (s1 r1 : Nat) (B2 b2 : Nat) (a2 : Option Addr) (c2 : Nat) (a2' : Option Addr) (c2' : Nat) (N2 : Net) (s2 r2 : Nat) (B3 b3 : Nat) (a3 : Option Addr) (c3 : Nat) (a3' : Option Addr) (c3' : Nat) (N3 : Net) (s3 r3 ng : Nat) (v : Value) (wr : World) : Prop :=
  ∃ (i : Nat) (q1 q2 q3 : List Bool), i ≤ ng ∧ v = .int .i64 i ∧ P q1 q2 ∧ Q q2 q3 ∧ SimOk B wr b1 a1 c1 a1' c1' N1 s1 r1 q1 ∧ SimOk B2 wr b2 a2 c2 a2' c2' N2 s2 r2 q2 ∧ SimOk B3 wr b3 a3 c3 a3' c3' N3 s3 r3 q3 ∧ Below w3.heap.size w3 wr
set_option maxRecDepth 100000 in
set_option maxHeartbeats 12800000 in
theorem cleanSame_right (gs : List (List Bool)) (A : Nat → Option Addr) (C : Nat → Nat) (hgl : gs.length = ng) (hgr : GivenRows B w ag gs A C) (h : NetRows B w a c a' c' N) (hB : B ≤ w.heap.size) (hs : N.small = true) (hng : ng ≤ 20) (hr : N.right = true) : Calls Tryd.prog 4 #[.agg #[.int .i64 N.given, .slice a N.nodes.length c, .slice a' N.outs.length c'], .slice ag ng cg] w (Yes w) := by
  have HK0 := hid (Box1.first w (netVal a c a' c' N))
  have HS := hid hs
  have HR := hid hr
  have H := hid h
  have HGL := hid hgl
  have HGR := hid hgr
  have h2 : decide ((20 : Int) < ng) = false := decide_eq_false (by omega)
  clear hs hr h hgl hgr
  go_enter Tryd.func4, Tryd.ntmps4
  go_upto_region 8 with (first
    | (go_at_call 14; (with_reducible refine (small_at2 a c a' c' N _ HS _).mono ?_); rintro e w1 ⟨rfl, hbel⟩; have HK1 := hid (HK0.out.next hbel); clear hbel HK0)
    | (go_at_call 15; (with_reducible refine (cleaned_any _).mono ?_); rintro e w2 ⟨rfl, hbel⟩; have HK2 := hid (HK1.out.next hbel); clear hbel HK1)
    | (go_at_call 16; (with_reducible refine (Clean_right _ _ _ _ _ _ N _ (HK2.out.net H.out hB) HK2.out.size HR.out).mono ?_); rintro e w3 ⟨bm, am, cm, am', cm', NM, rfl, hcl, hnet, hbel⟩; have HCM := hid hcl; have HNM := hid hnet; have HK3 := hid (HK2.out.next hbel); clear hcl hnet hbel HK2)
    | (go_at_call 17; (with_reducible refine (Right_any _ _ _ _ _ _ N _ (HK3.out.net H.out hB) HK3.out.size).mono ?_); rintro e w4 ⟨rfl, hbel⟩; rw [HR.out]; have HK4 := hid (HK3.out.next hbel); have HNM4 := hid ((HNM.out.stay hbel).mono hbel.size); clear hbel HK3 HNM))
  have hsm := HCM.out.same HR.out
  have HSM := hid hsm
  have HRM := hid hsm.right
  have gM := hsm.gates
  have lM := hsm.nodes
  have m0 := HNM4.out.g
  have m1 := HNM4.out.nodes
  have m2 := HNM4.out.outs
  rw [hsm.given] at m0
  rw [hsm.outs] at m2
  have x0 := HK4.out.cell0
  have x1 := HK4.out.cell1
  have x2 := HK4.out.cell2
  have hbl4 : Below w4.heap.size w4 w4 := Below.refl _ _
  have hlm := HNM4.out.hb
  have hlx : w.heap.size < w4.heap.size := HK4.out.size
  have HNI4 := hid (HK4.out.net H.out hB)
  have HLE4 := hid HK4.out.size
  have t1 : decide (N.gates < NM.gates) = false := decide_eq_false (by omega)
  have t2 : decide (N.nodes.length < NM.nodes.length) = false := decide_eq_false (by omega)
  clear hsm gM lM
  go_cut [86] (fun s86 wx => s86 = .bool false ∧ Below w4.heap.size w4 wx)
  case first =>
    go_region_held3 (fun w' => w'.cell? ⟨bm, 0, none⟩ = some (.int .i64 N.given) ∧ w'.cell? ⟨bm, 1, none⟩ = some (.slice am NM.nodes.length cm) ∧ w'.cell? ⟨bm, 2, none⟩ = some (.slice am' N.outs.length cm') ∧ w'.cell? ⟨w.heap.size, 0, none⟩ = some (.int .i64 N.given) ∧ w'.cell? ⟨w.heap.size, 1, none⟩ = some (.slice a N.nodes.length c) ∧ w'.cell? ⟨w.heap.size, 2, none⟩ = some (.slice a' N.outs.length c') ∧ Below w4.heap.size w4 w')
      ((refine keep_six hlm hlx m0 m1 m2 x0 x1 x2 ?_; first | assumption | exact Below.refl _ _ | exact (Below.refl _ _).drew))
      (first
        | (go_at_call 17; (with_reducible refine (right_from HNM4.out HRM.out (Nat.le_refl _) (by first | assumption | exact Below.refl _ _ | exact (Below.refl _ _).drew)).mono ?_); rintro e wx ⟨rfl, hbx⟩)
        | (go_at_call 19; (with_reducible refine (gates_from HNM4.out (Nat.le_refl _) (by first | assumption | exact Below.refl _ _ | exact (Below.refl _ _).drew)).mono ?_); rintro e wx ⟨rfl, hbx⟩)
        | (go_at_call 19; (with_reducible refine (gates_from HNI4.out HLE4.out (by first | assumption | exact Below.refl _ _ | exact (Below.refl _ _).drew)).mono ?_); rintro e wx ⟨rfl, hbx⟩)
        | fail)
    all_goals (go_wp2_with fail; go_meet; exact ⟨rfl, by assumption⟩)
  case rest =>
  obtain ⟨rfl, hb5⟩ := hcut
  have HK5 := hid (HK4.out.next hb5)
  have HNM5 := hid ((HNM4.out.stay hb5).mono hb5.size)
  clear hb5 m0 m1 m2 x0 x1 x2 hbl4 hlm hlx HNI4 HLE4 HNM4 HK4 t1 t2
  go_upto_region 11 with (go_at_call 16; (with_reducible refine (Clean_right _ _ _ _ _ _ NM wc HNM5.out (Nat.le_refl _) HRM.out).mono ?_); rintro e w6 ⟨bk, ak, ck, ak', ck', NK, rfl, hcl, hnet, hbel⟩; have HCK := hid hcl; have HNK := hid hnet; have HK6 := hid (HK5.out.next hbel); have HNM6 := hid ((HNM5.out.stay hbel).mono hbel.size); clear hcl hnet hbel HK5 HNM5)
  have hsk := HCK.out.same HRM.out
  have HSK := hid hsk
  have HRK := hid hsk.right
  have gK := hsk.gates
  have t1 : decide (NM.gates < NK.gates) = false := decide_eq_false (by omega)
  clear hsk gK
  go_upto_region 13 with (first
    | (go_at_call 19; (with_reducible refine (gates_from HNK.out (Nat.le_refl _) (Below.refl _ _)).mono ?_); rintro e w7 ⟨rfl, hb7⟩)
    | (go_at_call 19; (with_reducible refine (gates_from HNM6.out (Nat.le_refl _) hb7).mono ?_); rintro e w8 ⟨rfl, hb8⟩))
  have HK8 := hid (HK6.out.next hb8)
  have HNM8 := hid ((HNM6.out.stay hb8).mono hb8.size)
  have HNK8 := hid ((HNK.out.stay hb8).mono hb8.size)
  have HNI8 := hid (HK8.out.net H.out hB)
  have hle8 := HK8.out.size
  have hbl8 := Below.refl w8.heap.size w8
  have HB8 := hid hbl8
  clear hb7 hb8 HK6 HNM6 HNK hbl8 t1
  go_upto_region 16 with (first
    | (go_at_call 20; (with_reducible refine (New_right _ _ _ _ _ _ N w8 HNI8.out hle8 HR.out).mono ?_); rintro e w9 ⟨sa, ra, rfl, hs, hr, hsr, hsim, hbel⟩; have ska := hid (SimOk.mk' HNI8.out HR.out hs hr hsr hsim hbel hle8); have har := hid (show w8.heap.size ≤ sa ∧ w8.heap.size ≤ ra from ⟨hs, hr⟩); have HNM9 := hid (HNM8.out.stay hbel); have HNK9 := hid (HNK8.out.stay hbel); have HB9 := hid hbel; have hsz9 := hbel.size; clear HNI8 HNM8 HNK8 hbel hsim hs hr hsr HB8)
    | (go_at_call 20; (with_reducible refine (New_right _ _ _ _ _ _ NM w9 HNM9.out hsz9 HRM.out).mono ?_); rintro e w10 ⟨sb, rb, rfl, hs, hr, hsr, hsim, hbel⟩; have skb := hid (SimOk.mk' HNM9.out HRM.out hs hr hsr hsim hbel hsz9); have ska6 := hid (ska.out.stay hbel); have hab := hid (show sa < w9.heap.size ∧ ra < w9.heap.size ∧ w9.heap.size ≤ sb ∧ w9.heap.size ≤ rb from ⟨ska.out.slt, ska.out.rlt, hs, hr⟩); have HNK10 := hid (HNK9.out.stay (hbel.mono hsz9)); have HB10 := hid (HB9.out.trans (hbel.mono hsz9)); have hsz10 := hbel.size; clear HNM9 HNK9 ska hbel hsim hs hr hsr HB9)
    | (go_at_call 20; (with_reducible refine (New_right _ _ _ _ _ _ NK w10 HNK10.out (by omega) HRK.out).mono ?_); rintro e w11 ⟨sc, rc, rfl, hs, hr, hsr, hsim, hbel⟩; have skc7 := hid (SimOk.mk' HNK10.out HRK.out hs hr hsr hsim hbel (by omega)); have ska7 := hid (ska6.out.stay hbel); have skb7 := hid (skb.out.stay hbel); have hbc := hid (show sb < w10.heap.size ∧ rb < w10.heap.size ∧ w10.heap.size ≤ sc ∧ w10.heap.size ≤ rc from ⟨skb.out.slt, skb.out.rlt, hs, hr⟩); have HB11 := hid (HB10.out.trans (hbel.mono (by omega))); have hsz11 := hbel.size; clear HNK10 skb ska6 hbel hsim hs hr hsr HB10))
  obtain ⟨P, hP0, hP⟩ := HSM.out.sim
  obtain ⟨Q, hQ0, hQ⟩ := HSK.out.sim
  have HP0 := hid hP0
  have HQ0 := hid hQ0
  have HP := hid hP
  have HQ := hid hQ
  have GW := hid (HGR.out.stay (HK8.out.b.mono hB))
  clear hP0 hQ0 hP hQ
  go_wp2_with fail
  go_loopw [14] (fun v wr => SameRel P Q (w.heap.size + 1) w8 w.heap.size a c a' c' N sa ra w8.heap.size bm am cm am' cm' NM sb rb w8.heap.size bk ak ck ak' ck' NK sc rc ng v wr) (fun v _ => ng - (intOf v).toNat)
  case atStart => exact ⟨0, _, _, _, Nat.zero_le _, rfl, HP0.out, HQ0.out, ska7.out, skb7.out, skc7.out, HB11.out⟩
  case round =>
    obtain ⟨i, q1, q2, q3, hle, rfl, hp, hq, ska, skb, skc, hbe⟩ := hrel
    have HPI := hid hp
    have HQI := hid hq
    have SKA := hid ska
    have SKB := hid skb
    have SKC := hid skc
    have HBR := hid hbe
    have GWR := hid (GW.out.stay (hbe.mono (by omega)))
    clear hp hq ska skb skc hbe ska7 skb7 skc7 HB11
    by_cases hlt : i < ng
    · have hlti : (i : Int) < (ng : Int) := by omega
      have hrow := GWR.out.rows i (by rw [HGL.out]; exact hlt)
      have hlen := GWR.out.lens i
      obtain ⟨bg, og, rfl, hbg, hcg⟩ := GW.out.heads.at (by rw [HGL.out]; omega)
      have hg3 := hcg i (by rw [HGL.out]; exact hlt)
      have hbg3 : bg < w8.heap.size := by omega
      have hg1 := (HBR.out.cell (p := ⟨bg, og + i, none⟩) hbg3).trans hg3
      have hbgr : bg < wr.heap.size := Nat.lt_of_lt_of_le hbg3 HBR.out.size
      generalize gs.getD i [] = g at hrow hlen hg1 hg3
      generalize A i = ai at hrow hg1 hg3
      generalize C i = ci at hg1 hg3
      clear hcg
      by_cases h300 : (300 : Int) < (g.length : Int)
      · go_wp2_with fail
        go_ret
        exact ⟨rfl, HK8.out.b.trans (HBR.out.mono HK8.out.b.size)⟩
      · have h300' : decide ((300 : Int) < (g.length : Int)) = false := decide_eq_false h300
        have hAR := har.out
        have hAB := hab.out
        have hBC := hbc.out
        have hsz3r := HBR.out.size
        have hBw := HK8.out.b.size
        have BA := hid (bits_of (r := ra) hrow hlen (by omega) (by omega))
        have hg300 : g.length ≤ 300 := by omega
        have HNG := hid (Net.right_sizes HR.out)
        have hlo20 := HNG.out.2.2.2
        have hrbr := SKB.out.rlt
        have hrcr := SKC.out.rlt
        have HROW := hid hrow
        have HLEN := hid hlen
        have e12 := HP.out _ _ g HPI.out
        have e23 := HQ.out _ _ g HQI.out
        have HO1 := hid (decide_eq_true e12.1)
        have HO2 := hid (decide_eq_true (e12.1.trans e23.1))
        have HN1 := hid e12.2
        have HN2 := hid e23.2
        have HG3 := hid hg3
        clear hg3 HNG h300 hrow hlen e12 e23
        go_upto_region 24 with (go_at_call 21; (with_reducible refine (sim_step _ _ _ _ _ _ _ _ _ _ _ _ _ _ SKA.out BA.out).mono ?_); rintro e wA ⟨v, rfl, hown, hrw, hg⟩; have SKA5 := hid (SKA.out.next hrw hg); have SKB5 := hid (SKB.out.keep hg (by omega) (by omega) (by omega)); have SKC5 := hid (SKC.out.keep hg (by omega) (by omega) (by omega)); have HBA := hid (HBR.out.trans (below_of_grown hg hsz3r (by omega))); have HOWN := hid hown; have hszA := hg.size; have HROWA := hid (HROW.out.stay (below_of_grown hg (by omega) (by omega))); have BB := hid (bits_of (r := rb) HROWA.out HLEN.out (by omega) (by omega)); clear SKA SKB SKC BA hown hrw hg hg1)
        have hgA := (HBA.out.cell (p := ⟨bg, og + i, none⟩) hbg3).trans HG3.out
        have hbgA : bg < wA.heap.size := by omega
        have hNM20 := (Net.right_sizes HRM.out).2.2.2
        have hNK20 := (Net.right_sizes HRK.out).2.2.2
        go_wp2_with (first
          | (go_at_call 21; (with_reducible refine (sim_step _ _ _ _ _ _ NM wA sb rb _ _ _ _ SKB5.out BB.out).mono ?_); rintro e wB ⟨vb, rfl, hownb, hrwb, hgb⟩; have SKA6 := hid (SKA5.out.keep hgb (by omega) (by omega) (by omega)); have SKB6 := hid (SKB5.out.next hrwb hgb); have SKC6 := hid (SKC5.out.keep hgb (by omega) (by omega) (by omega)); have HOWN6 := hid (owns_grown HOWN.out hgb (by omega)); have HBB6 := hid (HBA.out.trans (below_of_grown hgb (by omega) (by omega))); have HROWB := hid (HROWA.out.stay (below_of_grown hgb (by omega) (by omega))); have HOWNB := hid hownb; have hszB := hgb.size; clear SKA5 SKB5 SKC5 HOWN BB HROWA hownb hrwb hgb hgA)
          | (go_at_call 22; (with_reducible refine (equal_at HOWN6.out HOWNB.out (by unfold maxLen; omega) HO1.out (Below.refl _ _)).mono ?_); rintro e wC ⟨rfl, hbC⟩; have SKA7 := hid (SKA6.out.stay hbC); have SKB7 := hid (SKB6.out.stay hbC); have SKC7 := hid (SKC6.out.stay hbC); have HOWN7 := hid (ownsRow_below HOWN6.out hbC); have HBC7 := hid (HBB6.out.trans (hbC.mono HBB6.out.size)); have HROWC := hid (HROWB.out.stay (hbC.mono (by omega))); have hszC := hbC.size; have BC := hid (bits_of (r := rc) HROWC.out HLEN.out (by omega) (by omega)); (have hgC := (HBC7.out.cell (p := ⟨bg, og + i, none⟩) hbg3).trans HG3.out); have hbgC : bg < wC.heap.size := (by omega); clear SKA6 SKB6 SKC6 HOWN6 HOWNB HROWB hbC)
          | (go_at_call 21; (with_reducible refine (sim_step _ _ _ _ _ _ NK wC sc rc _ _ _ _ SKC7.out BC.out).mono ?_); rintro e wF ⟨vc, rfl, hownc, hrwc, hgc⟩; have SKA8 := hid (SKA7.out.keep hgc (by omega) (by omega) (by omega)); have SKB8 := hid (SKB7.out.keep hgc (by omega) (by omega) (by omega)); have SKC8 := hid (SKC7.out.next hrwc hgc); have HOWN8 := hid (owns_grown HOWN7.out hgc (by omega)); have HBF := hid (HBC7.out.trans (below_of_grown hgc (by omega) (by omega))); have HOWNC := hid hownc; clear SKA7 SKB7 SKC7 HOWN7 BC HROWC hownc hrwc hgc hgC)
          | (go_at_call 22; (with_reducible refine (equal_at HOWN8.out HOWNC.out (by unfold maxLen; omega) HO2.out (Below.refl _ _)).mono ?_); rintro e wG ⟨rfl, hbG⟩; have SKA9 := hid (SKA8.out.stay hbG); have SKB9 := hid (SKB8.out.stay hbG); have SKC9 := hid (SKC8.out.stay hbG); have HBG := hid (HBF.out.trans (hbG.mono HBF.out.size)); clear SKA8 SKB8 SKC8 HOWN8 HOWNC hbG)
          | fail)
        go_roundw
        case rel => exact ⟨i + 1, _, _, _, by omega, by go_num, HN1.out, HN2.out, SKA9.out, SKB9.out, SKC9.out, HBG.out⟩
        case measure => simp [intOf]; omega
    · obtain rfl : i = ng := by omega
      go_wp2_with fail
      go_ret
      exact ⟨rfl, HK8.out.b.trans (HBR.out.mono HK8.out.b.size)⟩
/-- All its cases. -/
theorem cleanSame_any (gs : List (List Bool)) (A : Nat → Option Addr) (C : Nat → Nat) (hgr : GivenRows B w ag gs A C) (h : NetRows B w a c a' c' N) (hB : B ≤ w.heap.size) (hg : ErrType w) : Calls Tryd.prog 4 #[.agg #[.int .i64 N.given, .slice a N.nodes.length c, .slice a' N.outs.length c'], .slice ag gs.length cg] w (Yes w) := by
  by_cases hs : N.small = false ∨ 20 < gs.length
  · exact cleanSame_long a c a' c' N ag gs.length cg w hs
  · have hs1 : N.small = true := by cases h1 : N.small <;> simp_all
    have hs2 : gs.length ≤ 20 := by omega
    cases hr : N.right
    · exact cleanSame_wrong B a c a' c' N ag gs.length cg w h hB hs1 hs2 hr hg
    · exact cleanSame_right B a c a' c' N ag gs.length cg w gs A C rfl hgr h hB hs1 hs2 hr
end
end Go.Proofs.YtlaeflpddehipabDoor
