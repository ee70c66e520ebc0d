/- keep.beside, walked: two nets beside one another. -/
import Derived.Test.YtlaeflpddehipaaBesideMem
set_option linter.unusedVariables false
namespace Go.Proofs.Ytlaeflpddehipaa
open Go.RowKit
attribute [local go_sem ↓] Go.wp_at_zero Go.wp_at_succ

theorem keep_three {w3 w' : World} {b k1 k2 k3 : Nat} {x y z : Value} (hlt : b < w3.heap.size) (c1 : w3.cell? ⟨b, k1, none⟩ = some x) (c2 : w3.cell? ⟨b, k2, none⟩ = some y) (c3 : w3.cell? ⟨b, k3, none⟩ = some z) (h : Below w3.heap.size w3 w') :
    w'.cell? ⟨b, k1, none⟩ = some x ∧ w'.cell? ⟨b, k2, none⟩ = some y ∧ w'.cell? ⟨b, k3, none⟩ = some z ∧ Below w3.heap.size w3 w' :=
  ⟨(h.cell (p := ⟨b, k1, none⟩) hlt).trans c1, (h.cell (p := ⟨b, k2, none⟩) hlt).trans c2, (h.cell (p := ⟨b, k3, none⟩) hlt).trans c3, h⟩

/-- What beside hands back. -/
def Besides (J : Net) (w : World) (e : Ending) (w' : World) : Prop :=
  ∃ ad cn ao co, e = .returned (.agg (netVal ad cn ao co J)) ∧ NetRows w'.heap.size w' ad cn ao co J ∧ (ad = none → J.nodes.length = 0 ∧ cn = 0) ∧ (ao = none → J.outs.length = 0 ∧ co = 0) ∧ Below w.heap.size w w'

set_option maxRecDepth 100000 in
set_option maxHeartbeats 12800000 in
theorem beside_any (B : Nat) (a : Option Addr) (c : Nat) (a' : Option Addr) (c' : Nat) (N : Net) (b : Option Addr) (d : Nat) (b' : Option Addr) (d' : Nat) (M : Net) (same : Bool) (w : World) (hN : NetRows B w a c a' c' N) (hM : NetRows B w b d b' d' M) (hB : B ≤ w.heap.size)
    (hs : N.small = true) (hs' : M.small = true) (hr : N.right = true) (hr' : M.right = true) (ha : a = none → N.nodes.length = 0 ∧ c = 0) (ha' : a' = none → N.outs.length = 0 ∧ c' = 0) :
    Calls Try.prog 34 #[.agg #[.int .i64 N.given, .slice a N.nodes.length c, .slice a' N.outs.length c'], .agg #[.int .i64 M.given, .slice b M.nodes.length d, .slice b' M.outs.length d'], .bool same] w (Besides (N.beside M same) w) := by
  obtain ⟨i0, hi, hz0, hz1, hz2⟩ := info_parts Try.infoNode
  obtain ⟨i1, hi1, hy0, hy1, hy2⟩ := info_parts Try.infoInt
  have hn : N.nodes.length ≤ 60 ∧ N.outs.length ≤ 30 ∧ N.given ≤ 200 := by simpa [Net.small, and_assoc] using hs
  have hm : M.nodes.length ≤ 60 ∧ M.outs.length ≤ 30 ∧ M.given ≤ 200 := by simpa [Net.small, and_assoc] using hs'
  have hg := (Net.right_sizes hr).1
  have hg' := (Net.right_sizes hr').1
  obtain ⟨hn1, hn2, hn3⟩ := hn
  obtain ⟨hm1, hm2, hm3⟩ := hm
  have HN := hid hN
  have HM := hid hM
  have HR := hid hr
  have HR' := hid hr'
  have HA := hid ha
  have HA' := hid ha'
  clear hN hM hs hs' hr hr' ha ha'
  go_enter Try.func34, Try.ntmps34
  go_upto_region 2 with fail
  obtain ⟨⟨x0, x1, x2⟩, xs, xb⟩ := boxes3 w #[.int .i64 N.given, .slice a N.nodes.length c, .slice a' N.outs.length c'] #[.int .i64 M.given, .slice b M.nodes.length d, .slice b' M.outs.length d'] #[.int .i64 0, .slice none 0 0, .slice none 0 0] 48
  generalize ((w.alloc (.cells #[.int .i64 N.given, .slice a N.nodes.length c, .slice a' N.outs.length c'] 48)).alloc (.cells #[.int .i64 M.given, .slice b M.nodes.length d, .slice b' M.outs.length d'] 48)).alloc (.cells #[.int .i64 0, .slice none 0 0, .slice none 0 0] 48) = w3 at *
  obtain ⟨b0, hb0⟩ : ∃ b, w.heap.size = b := ⟨_, rfl⟩
  have XB := hid xb
  have HB0 := hid hb0
  rw [hb0] at x0 x1 x2 xs ⊢
  have hNI : NetIn w3.heap.size w3 b0 a c a' c' N := HN.out.box hB x0 XB.out w3.heap.size (by omega) (by omega)
  have hMI : NetIn w3.heap.size w3 (b0 + 1) b d b' d' M := HM.out.box hB x1 XB.out w3.heap.size (by omega) (by omega)
  have HX2 := hid x2
  have c0 := hNI.g
  have c1 := hNI.nodes
  have c2 := hNI.outs
  have C0 := hid c0
  have C1 := hid c1
  have C2 := hid c2
  have hb03 : b0 < w3.heap.size := by omega
  have hb13 : b0 + 1 < w3.heap.size := by omega
  have hb23 : b0 + 2 < w3.heap.size := by omega
  have NI := hid hNI
  have MI := hid hMI
  have hnewN : Hid (∀ ad', a = some ad' → ∀ (w' : World), Below w3.heap.size w3 w' → ∀ j u, (nodeVals N.nodes)[j]? = some u → w'.cell? (ad'.add j) = some u) := by
    intro ad' had w' hb'
    have hc := NI.out.rn.stay hb'
    subst had
    exact hc.news (nodeVals_len _) (fun j hj => nodeVals_get _ j hj)
  have hnewO : Hid (∀ ad', a' = some ad' → ∀ (w' : World), Below w3.heap.size w3 w' → ∀ j u, (N.outs.map (Value.int .i64))[j]? = some u → w'.cell? (ad'.add j) = some u) := by
    intro ad' had w' hb'
    have hc := NI.out.ro.stay hb'
    subst had
    exact hc.news (by simp) (fun j hj => by simp [List.getElem?_map, List.getElem?_eq_getElem hj, List.getD_eq_getElem?_getD])
  clear hb0 xb xs x0 x1 x2 hNI hMI c0 c1 c2
  have S3 : w3.cell? ⟨b0, 0, none⟩ = some (.int .i64 N.given) ∧ w3.cell? ⟨b0, 1, none⟩ = some (.slice a N.nodes.length c) ∧ w3.cell? ⟨b0, 2, none⟩ = some (.slice a' N.outs.length c') ∧ Below w3.heap.size w3 w3 := ⟨C0.out, C1.out, C2.out, Below.refl _ _⟩
  have hbS := hid (Below.refl w3.heap.size w3)
  go_cut [8] (fun s8 wx => ∃ bm, s8 = .pointer (some ⟨bm, 0, none⟩) ∧ TwAt w3 N bm N.nodes N.outs wx)
  case first =>
    --[stub
    go_region_held3 (fun w' => w'.cell? ⟨b0, 0, none⟩ = some (.int .i64 N.given) ∧ w'.cell? ⟨b0, 1, none⟩ = some (.slice a N.nodes.length c) ∧ w'.cell? ⟨b0, 2, none⟩ = some (.slice a' N.outs.length c') ∧ Below w3.heap.size w3 w')
      ((refine keep_three hb03 C0.out C1.out C2.out ?_; repeat (first | with_reducible exact Below.refl _ _ | with_reducible exact hbS.out | with_reducible refine Below.drew ?_ | with_reducible refine Below.alloc ?_ (by first | (simp; done) | (simp; omega) | exact Below.size hbS.out | (have := Below.size hbS.out; simp; omega) | fail) _ | with_reducible refine Below.setCell ?_ (by first | (simp; done) | omega | (simp; omega) | exact Below.size hbS.out | fail) _)))
      (first
        | ((refine step_append_held (by rfl) _ _ 46 (by rfl) w3.heap.size 52 i0 _ 4 32 Try.underlying46 hi hz0 hz1 hz2 (by rfl) (by decide) (.slice (some ⟨_, 0, none⟩) 0 0) 0 [] (by rfl) ?_ a N.nodes.length c (nodeVals N.nodes) (by rfl) HA.out (nodeVals_len _) ?_ (nodeVals_one _) (by unfold maxLen; omega) (by omega) ?_ ?_); (focus ((repeat (first | with_reducible exact empty_g _ _ _ _ (by first | rfl | (simp; done) | fail) (by first | (simp; done) | (simp; omega) | exact Below.size hbS.out | (have := Below.size hbS.out; simp; omega) | fail) | with_reducible refine World.ownsRow.drew ?_ | with_reducible refine World.ownsRow.alloc ?_ _ | with_reducible refine cross_row HGO.out HPO.out ?_ (by decide))); done)); (focus (intro ad' had; refine hnewN.out ad' had _ ?_; (repeat (first | with_reducible exact Below.refl _ _ | with_reducible exact hbS.out | with_reducible refine Below.drew ?_ | with_reducible refine Below.alloc ?_ (by first | (simp; done) | (simp; omega) | exact Below.size hbS.out | (have := Below.size hbS.out; simp; omega) | fail) _)); done)); (focus ((first | (simp; done) | (simp; omega) | exact Below.size hbS.out | (have := Below.size hbS.out; simp; omega) | fail); done)); intro aN cN wb HP HRN hgb; (try (first | (with_reducible have hx := cross_box (T := 48) hgb.out HP.out (box_top _ _ _) (by decide)) | (with_reducible have hx := cross_box (T := 48) hgb.out HP.out (box_drew (box_top _ _ _)) (by decide)) | (with_reducible have hx := cross_box (T := 48) hgb.out HP.out (box_under _ (box_top _ _ _)) (by decide)) | (with_reducible have hx := cross_box (T := 48) hgb.out HP.out (box_drew (box_under _ (box_top _ _ _))) (by decide)) | (with_reducible have hx := cross_box (T := 48) hgb.out HP.out (box_under _ (box_under _ (box_top _ _ _))) (by decide)) | (with_reducible have hx := cross_box (T := 48) hgb.out HP.out (box_drew (box_under _ (box_under _ (box_top _ _ _)))) (by decide)) | (with_reducible have hx := cross_box (T := 48) hgb.out HP.out HMB.out (by decide)) | (with_reducible have hx := cross_box (T := 48) hgb.out HP.out (box_drew HMB.out) (by decide)) | (with_reducible have hx := cross_box (T := 48) hgb.out HP.out (box_under _ HMB.out) (by decide)) | (with_reducible have hx := cross_box (T := 48) hgb.out HP.out (box_drew (box_under _ HMB.out)) (by decide)) | (with_reducible have hx := cross_box (T := 48) hgb.out HP.out (box_under _ (box_under _ HMB.out)) (by decide)) | (with_reducible have hx := cross_box (T := 48) hgb.out HP.out (box_drew (box_under _ (box_under _ HMB.out))) (by decide))); (try simp only [World.size_alloc, World.size_drew] at hx); have hm0 := cell_block hx 0; have hm1 := cell_block hx 1; have hm2 := cell_block hx 2; simp only [List.getElem?_toArray, List.getElem?_cons_succ, List.getElem?_cons_zero] at hm0 hm1 hm2; have hmf := free_block hx; have hmz := lt_of_block hx; have HMB := hid hx; clear hx); (have hbW : Below w3.heap.size w3 wb := by ((refine cross_below hgb.out HP.out ?_ ?_); (focus ((repeat (first | with_reducible exact Below.refl _ _ | with_reducible exact hbS.out | with_reducible refine Below.drew ?_ | with_reducible refine Below.alloc ?_ (by first | (simp; done) | (simp; omega) | exact Below.size hbS.out | (have := Below.size hbS.out; simp; omega) | fail) _)); done)); (focus ((first | (simp; done) | (simp; omega) | exact Below.size hbS.out | (have := Below.size hbS.out; simp; omega) | fail); done)))); have hbS := hid hbW; have hzW := Below.size hbW; have HGN := hgb; have HPN := HP)
        | ((refine step_append_held (by rfl) _ _ 24 (by rfl) w3.heap.size 3 i1 _ 1 8 Try.underlying24 hi1 hy0 hy1 hy2 (by rfl) (by decide) (.slice (some ⟨_, 0, none⟩) 0 0) 0 [] (by rfl) ?_ a' N.outs.length c' (N.outs.map (.int .i64)) (by rfl) HA'.out (by simp) ?_ (ints_one _) (by unfold maxLen; omega) (by omega) ?_ ?_); (focus ((repeat (first | with_reducible exact empty_g _ _ _ _ (by first | rfl | (simp; done) | fail) (by first | (simp; done) | (simp; omega) | exact Below.size hbS.out | (have := Below.size hbS.out; simp; omega) | fail) | with_reducible refine World.ownsRow.drew ?_ | with_reducible refine World.ownsRow.alloc ?_ _ | with_reducible refine cross_row HGN.out HPN.out ?_ (by decide))); done)); (focus (intro ad' had; refine hnewO.out ad' had _ ?_; (repeat (first | with_reducible exact Below.refl _ _ | with_reducible exact hbS.out | with_reducible refine Below.drew ?_ | with_reducible refine Below.alloc ?_ (by first | (simp; done) | (simp; omega) | exact Below.size hbS.out | (have := Below.size hbS.out; simp; omega) | fail) _)); done)); (focus ((first | (simp; done) | (simp; omega) | exact Below.size hbS.out | (have := Below.size hbS.out; simp; omega) | fail); done)); intro aO cO wb HP HRO hgb; (try (first | (with_reducible have hx := cross_box (T := 48) hgb.out HP.out (box_top _ _ _) (by decide)) | (with_reducible have hx := cross_box (T := 48) hgb.out HP.out (box_drew (box_top _ _ _)) (by decide)) | (with_reducible have hx := cross_box (T := 48) hgb.out HP.out (box_under _ (box_top _ _ _)) (by decide)) | (with_reducible have hx := cross_box (T := 48) hgb.out HP.out (box_drew (box_under _ (box_top _ _ _))) (by decide)) | (with_reducible have hx := cross_box (T := 48) hgb.out HP.out (box_under _ (box_under _ (box_top _ _ _))) (by decide)) | (with_reducible have hx := cross_box (T := 48) hgb.out HP.out (box_drew (box_under _ (box_under _ (box_top _ _ _)))) (by decide)) | (with_reducible have hx := cross_box (T := 48) hgb.out HP.out HMB.out (by decide)) | (with_reducible have hx := cross_box (T := 48) hgb.out HP.out (box_drew HMB.out) (by decide)) | (with_reducible have hx := cross_box (T := 48) hgb.out HP.out (box_under _ HMB.out) (by decide)) | (with_reducible have hx := cross_box (T := 48) hgb.out HP.out (box_drew (box_under _ HMB.out)) (by decide)) | (with_reducible have hx := cross_box (T := 48) hgb.out HP.out (box_under _ (box_under _ HMB.out)) (by decide)) | (with_reducible have hx := cross_box (T := 48) hgb.out HP.out (box_drew (box_under _ (box_under _ HMB.out))) (by decide))); (try simp only [World.size_alloc, World.size_drew] at hx); have hm0 := cell_block hx 0; have hm1 := cell_block hx 1; have hm2 := cell_block hx 2; simp only [List.getElem?_toArray, List.getElem?_cons_succ, List.getElem?_cons_zero] at hm0 hm1 hm2; have hmf := free_block hx; have hmz := lt_of_block hx; have HMB := hid hx; clear hx); (have hbW : Below w3.heap.size w3 wb := by ((refine cross_below hgb.out HP.out ?_ ?_); (focus ((repeat (first | with_reducible exact Below.refl _ _ | with_reducible exact hbS.out | with_reducible refine Below.drew ?_ | with_reducible refine Below.alloc ?_ (by first | (simp; done) | (simp; omega) | exact Below.size hbS.out | (have := Below.size hbS.out; simp; omega) | fail) _)); done)); (focus ((first | (simp; done) | (simp; omega) | exact Below.size hbS.out | (have := Below.size hbS.out; simp; omega) | fail); done)))); have hbS := hid hbW; have hzW := Below.size hbW; have HGO := hgb; have HPO := HP)
        | fail)
    all_goals (go_wp2_with fail; go_meet; refine ⟨_, rfl, ?_⟩; first | (refine TwAt.bway1 ?_ ?_ hbS.out; (focus ((repeat (first | with_reducible exact HRN.out | with_reducible refine World.ownsRow.drew ?_ | with_reducible refine World.ownsRow.alloc ?_ _ | with_reducible refine cross_row HGO.out HPO.out ?_ (by decide))); done)); (focus ((repeat (first | with_reducible exact HRO.out | with_reducible refine World.ownsRow.drew ?_ | with_reducible refine World.ownsRow.alloc ?_ _ | with_reducible refine cross_row HGN.out HPN.out ?_ (by decide))); done))) | (refine TwAt.bway2 ?_ ?_ hbS.out ?_ HMB.out; (focus ((repeat (first | with_reducible exact HRN.out | with_reducible refine World.ownsRow.drew ?_ | with_reducible refine World.ownsRow.alloc ?_ _ | with_reducible refine cross_row HGO.out HPO.out ?_ (by decide))); done)); (focus ((repeat (first | with_reducible exact HRO.out | with_reducible refine World.ownsRow.drew ?_ | with_reducible refine World.ownsRow.alloc ?_ _ | with_reducible refine cross_row HGN.out HPN.out ?_ (by decide))); done)); (first | (simp; done) | omega | (simp; omega))))
    --stub]
  case rest =>
  obtain ⟨bm, rfl, hT⟩ := hcut
  have HT := hid hT
  have hsz3 := hT.below.size
  have p0 := (hT.below.cell (p := ⟨b0, 0, none⟩) hb03).trans C0.out
  have p1 := (hT.below.cell (p := ⟨b0 + 1, 0, none⟩) hb13).trans MI.out.g
  clear hT S3 hnewN hnewO hbS
  go_upto_if 29 with fail
  go_cut [9] (fun s9 wx => s9 = .int .i64 (shiftOf N same) ∧ TwAt w3 (N.beside M same) bm N.nodes N.outs wx)
  case first =>
    obtain ⟨ad, cn, ao, co, hbm, hm0, _⟩ := HT.out
    have m0 := cell_block hm0 0
    simp only [List.getElem?_toArray, List.getElem?_cons_succ, List.getElem?_cons_zero] at m0
    have hmf := free_block hm0
    have hmz := lt_of_block hm0
    have hne1 : b0 + 1 ≠ bm := by omega
    clear hm0
    cases same
    · go_wp2_with fail
      go_meet
      exact ⟨rfl, HT.out.setGiven (N' := N.beside M false)⟩
    · have hmax : (max N.given M.given : Int) = if N.given < M.given then M.given else N.given := by omega
      have HMAX := hid hmax
      clear hmax
      by_cases hlt : N.given < M.given
      all_goals
        go_wp2_with fail
        go_meet
        refine ⟨rfl, ?_⟩
        have h := HT.out.setGiven (N' := N.beside M true)
        have e : (N.beside M true).given = max N.given M.given := rfl
        rw [e, HMAX.out] at h
        first | (rw [if_pos (by omega)] at h; exact h) | (rw [if_neg (by omega)] at h; exact h)
  case rest =>
  obtain ⟨rfl, hT2⟩ := hcut
  have HT2 := hid hT2
  have hsh : 0 ≤ shiftOf N same ∧ shiftOf N same ≤ 200 := by unfold shiftOf; split <;> omega
  obtain ⟨sh, hsh'⟩ : ∃ sh, shiftOf N same = sh := ⟨_, rfl⟩
  rw [hsh'] at hsh ⊢
  have HSH := hid hsh'
  obtain ⟨hsh0, hsh1⟩ := hsh
  clear hT2 hsh' HT hsz3 p0 p1
  go_wp2_with fail
  go_loopw [10] (fun v wr => ∃ i : Nat, i ≤ M.nodes.length ∧ v = .int .i64 i ∧ TwAt w3 (N.beside M same) bm (N.nodes ++ (M.nodes.take i).map (GN.move N.nodes.length sh)) N.outs wr) (fun v _ => M.nodes.length - (intOf v).toNat)
  case atStart => exact ⟨0, Nat.zero_le _, rfl, by simpa using HT2.out⟩
  case round =>
    obtain ⟨i, hle, rfl, ht⟩ := hrel
    have hmw := MI.out.stay ht.below
    have c1 := hmw.nodes
    by_cases hlt : i < M.nodes.length
    · have hlti : (i : Int) < (M.nodes.length : Int) := by omega
      obtain ⟨bo, off, rfl, hbo, n0, n1, n2, n3⟩ := hmw.node i hlt
      obtain ⟨L, hL⟩ : ∃ L, L = N.nodes ++ (M.nodes.take i).map (GN.move N.nodes.length sh) := ⟨_, rfl⟩
      rw [← hL] at ht
      have hL120 : L.length ≤ 120 := by rw [hL, List.length_append, List.length_map, List.length_take]; omega
      have HLL := hid hL
      have hnode := node_all (Net.right_at HR'.out hlt)
      obtain ⟨x, hx⟩ : ∃ x, M.nodes.getD i GN.zero = x := ⟨_, rfl⟩
      rw [hx] at n0 n1 n2 n3 hnode
      have HX := hid hx
      obtain ⟨op, xa, xb, xn⟩ := x
      simp only at n0 n1 n2 n3 hnode
      obtain ⟨ad, cn, ao, co, hbm, hm, hrN, hrO, hd1, hd2, hd3, hbe⟩ := ht
      have m1 := cell_block hm 1
      simp only [List.getElem?_toArray, List.getElem?_cons_succ, List.getElem?_cons_zero] at m1
      have hbmlt := lt_of_block hm
      have HM2 := hid hm
      have HRN2 := hid hrN
      have HRO2 := hid hrO
      have HBE := hid hbe
      have hszle := hbe.size
      clear hL hx hm hrN hrO hd1 hd2 hd3 hbe hmw HT2
      rcases hnode with (rfl | rfl) | ⟨rfl, hk0, hk1⟩ | ⟨rfl, -, hk0, hk1⟩ | ⟨rfl, hk0, hk1⟩ | ⟨rfl | rfl | rfl, hk0, hk1, hk2, hk3⟩
      --[stub
      · have HE := hid (show GN.move N.nodes.length sh ⟨1, xa, xb, xn⟩ = ⟨1, xa, xb, xn⟩ by simp [GN.move])
        go_upto_region 23 with fail
        go_wp2_with (at_builtin; refine wpList_push_g _ w3 (wr.alloc _) _ (World.size_alloc _ _) rfl _ _ 46 rfl 52 i0 _ 4 32 Try.underlying46 hi hz0 hz1 hz2 rfl (by decide) w3.heap.size _ _ _ rfl (HRN2.out.alloc _) 1 1 _ rfl rfl rfl rfl ?_ ?_ (HBE.out.alloc hszle _) (Nat.le_refl _) (le_alloc hszle _) ?_)
        focus (unfold maxLen; omega)
        focus omega
        intro v' wb hown hbS hgb _
        obtain ⟨av, cv, rfl⟩ := owns_slice hown
        have hM := cross_box hgb (HRN2.out.alloc _) (box_under _ HM2.out) (by decide)
        have q0 := cell_block hM 0
        have q1 := cell_block hM 1
        have q2 := cell_block hM 2
        simp only [List.getElem?_toArray, List.getElem?_cons_succ, List.getElem?_cons_zero] at q0 q1 q2
        have qf := free_block hM
        have qz := lt_of_block hM
        have HMb := hid hM
        have HOb := hid (cross_row hgb (HRN2.out.alloc _) (HRO2.out.alloc _) (by decide))
        have HCUT := hid (TwAt.addN1 (x := ⟨1, xa, xb, xn⟩) hbm hM hown HOb.out hbS)
        clear hM hown hbS hgb
        go_wp2_with fail
        go_roundw
        case rel =>
          refine ⟨i + 1, by omega, by go_num, ?_⟩
          have h := HCUT.out
          rw [HLL.out, List.append_assoc] at h
          rw [map_take_succ _ _ GN.zero hlt, HX.out, HE.out]
          rw [HLL.out]
          exact h
        case measure => simp [intOf]; omega
      · have HE := hid (show GN.move N.nodes.length sh ⟨2, xa, xb, xn⟩ = ⟨2, xa, xb, xn⟩ by simp [GN.move])
        go_upto_region 23 with fail
        go_wp2_with (at_builtin; refine wpList_push_g _ w3 (wr.alloc _) _ (World.size_alloc _ _) rfl _ _ 46 rfl 52 i0 _ 4 32 Try.underlying46 hi hz0 hz1 hz2 rfl (by decide) w3.heap.size _ _ _ rfl (HRN2.out.alloc _) 1 1 _ rfl rfl rfl rfl ?_ ?_ (HBE.out.alloc hszle _) (Nat.le_refl _) (le_alloc hszle _) ?_)
        focus (unfold maxLen; omega)
        focus omega
        intro v' wb hown hbS hgb _
        obtain ⟨av, cv, rfl⟩ := owns_slice hown
        have hM := cross_box hgb (HRN2.out.alloc _) (box_under _ HM2.out) (by decide)
        have q0 := cell_block hM 0
        have q1 := cell_block hM 1
        have q2 := cell_block hM 2
        simp only [List.getElem?_toArray, List.getElem?_cons_succ, List.getElem?_cons_zero] at q0 q1 q2
        have qf := free_block hM
        have qz := lt_of_block hM
        have HMb := hid hM
        have HOb := hid (cross_row hgb (HRN2.out.alloc _) (HRO2.out.alloc _) (by decide))
        have HCUT := hid (TwAt.addN1 (x := ⟨2, xa, xb, xn⟩) hbm hM hown HOb.out hbS)
        clear hM hown hbS hgb
        go_wp2_with fail
        go_roundw
        case rel =>
          refine ⟨i + 1, by omega, by go_num, ?_⟩
          have h := HCUT.out
          rw [HLL.out, List.append_assoc] at h
          rw [map_take_succ _ _ GN.zero hlt, HX.out, HE.out]
          rw [HLL.out]
          exact h
        case measure => simp [intOf]; omega
      · have HE := hid (show GN.move N.nodes.length sh ⟨3, xa, xb, xn⟩ = ⟨3, xa + sh, xb, xn⟩ by simp [GN.move])
        go_upto_region 23 with fail
        go_wp2_with (at_builtin; refine wpList_push_g _ w3 (wr.alloc _) _ (World.size_alloc _ _) rfl _ _ 46 rfl 52 i0 _ 4 32 Try.underlying46 hi hz0 hz1 hz2 rfl (by decide) w3.heap.size _ _ _ rfl (HRN2.out.alloc _) 1 1 _ rfl rfl rfl rfl ?_ ?_ (HBE.out.alloc hszle _) (Nat.le_refl _) (le_alloc hszle _) ?_)
        focus (unfold maxLen; omega)
        focus omega
        intro v' wb hown hbS hgb _
        obtain ⟨av, cv, rfl⟩ := owns_slice hown
        have hM := cross_box hgb (HRN2.out.alloc _) (box_under _ HM2.out) (by decide)
        have q0 := cell_block hM 0
        have q1 := cell_block hM 1
        have q2 := cell_block hM 2
        simp only [List.getElem?_toArray, List.getElem?_cons_succ, List.getElem?_cons_zero] at q0 q1 q2
        have qf := free_block hM
        have qz := lt_of_block hM
        have HMb := hid hM
        have HOb := hid (cross_row hgb (HRN2.out.alloc _) (HRO2.out.alloc _) (by decide))
        have HCUT := hid (TwAt.addN1 (x := ⟨3, xa + sh, xb, xn⟩) hbm hM hown HOb.out hbS)
        clear hM hown hbS hgb
        go_wp2_with fail
        go_roundw
        case rel =>
          refine ⟨i + 1, by omega, by go_num, ?_⟩
          have h := HCUT.out
          rw [HLL.out, List.append_assoc] at h
          rw [map_take_succ _ _ GN.zero hlt, HX.out, HE.out]
          rw [HLL.out]
          exact h
        case measure => simp [intOf]; omega
      · have HE := hid (show GN.move N.nodes.length sh ⟨4, xa, xb, xn⟩ = ⟨4, xa, xb, xn + (N.nodes.length : Int)⟩ by simp [GN.move])
        go_upto_region 23 with fail
        go_wp2_with (at_builtin; refine wpList_push_g _ w3 (wr.alloc _) _ (World.size_alloc _ _) rfl _ _ 46 rfl 52 i0 _ 4 32 Try.underlying46 hi hz0 hz1 hz2 rfl (by decide) w3.heap.size _ _ _ rfl (HRN2.out.alloc _) 1 1 _ rfl rfl rfl rfl ?_ ?_ (HBE.out.alloc hszle _) (Nat.le_refl _) (le_alloc hszle _) ?_)
        focus (unfold maxLen; omega)
        focus omega
        intro v' wb hown hbS hgb _
        obtain ⟨av, cv, rfl⟩ := owns_slice hown
        have hM := cross_box hgb (HRN2.out.alloc _) (box_under _ HM2.out) (by decide)
        have q0 := cell_block hM 0
        have q1 := cell_block hM 1
        have q2 := cell_block hM 2
        simp only [List.getElem?_toArray, List.getElem?_cons_succ, List.getElem?_cons_zero] at q0 q1 q2
        have qf := free_block hM
        have qz := lt_of_block hM
        have HMb := hid hM
        have HOb := hid (cross_row hgb (HRN2.out.alloc _) (HRO2.out.alloc _) (by decide))
        have HCUT := hid (TwAt.addN1 (x := ⟨4, xa, xb, xn + (N.nodes.length : Int)⟩) hbm hM hown HOb.out hbS)
        clear hM hown hbS hgb
        go_wp2_with fail
        go_roundw
        case rel =>
          refine ⟨i + 1, by omega, by go_num, ?_⟩
          have h := HCUT.out
          rw [HLL.out, List.append_assoc] at h
          rw [map_take_succ _ _ GN.zero hlt, HX.out, HE.out]
          rw [HLL.out]
          exact h
        case measure => simp [intOf]; omega
      · have HE := hid (show GN.move N.nodes.length sh ⟨8, xa, xb, xn⟩ = ⟨8, xa + (N.nodes.length : Int), xb, xn⟩ by simp [GN.move])
        go_upto_region 23 with fail
        go_wp2_with (at_builtin; refine wpList_push_g _ w3 (wr.alloc _) _ (World.size_alloc _ _) rfl _ _ 46 rfl 52 i0 _ 4 32 Try.underlying46 hi hz0 hz1 hz2 rfl (by decide) w3.heap.size _ _ _ rfl (HRN2.out.alloc _) 1 1 _ rfl rfl rfl rfl ?_ ?_ (HBE.out.alloc hszle _) (Nat.le_refl _) (le_alloc hszle _) ?_)
        focus (unfold maxLen; omega)
        focus omega
        intro v' wb hown hbS hgb _
        obtain ⟨av, cv, rfl⟩ := owns_slice hown
        have hM := cross_box hgb (HRN2.out.alloc _) (box_under _ HM2.out) (by decide)
        have q0 := cell_block hM 0
        have q1 := cell_block hM 1
        have q2 := cell_block hM 2
        simp only [List.getElem?_toArray, List.getElem?_cons_succ, List.getElem?_cons_zero] at q0 q1 q2
        have qf := free_block hM
        have qz := lt_of_block hM
        have HMb := hid hM
        have HOb := hid (cross_row hgb (HRN2.out.alloc _) (HRO2.out.alloc _) (by decide))
        have HCUT := hid (TwAt.addN1 (x := ⟨8, xa + (N.nodes.length : Int), xb, xn⟩) hbm hM hown HOb.out hbS)
        clear hM hown hbS hgb
        go_wp2_with fail
        go_roundw
        case rel =>
          refine ⟨i + 1, by omega, by go_num, ?_⟩
          have h := HCUT.out
          rw [HLL.out, List.append_assoc] at h
          rw [map_take_succ _ _ GN.zero hlt, HX.out, HE.out]
          rw [HLL.out]
          exact h
        case measure => simp [intOf]; omega
      · have HE := hid (show GN.move N.nodes.length sh ⟨5, xa, xb, xn⟩ = ⟨5, xa + (N.nodes.length : Int), xb + (N.nodes.length : Int), xn⟩ by simp [GN.move])
        go_upto_region 23 with fail
        go_wp2_with (at_builtin; refine wpList_push_g _ w3 (wr.alloc _) _ (World.size_alloc _ _) rfl _ _ 46 rfl 52 i0 _ 4 32 Try.underlying46 hi hz0 hz1 hz2 rfl (by decide) w3.heap.size _ _ _ rfl (HRN2.out.alloc _) 1 1 _ rfl rfl rfl rfl ?_ ?_ (HBE.out.alloc hszle _) (Nat.le_refl _) (le_alloc hszle _) ?_)
        focus (unfold maxLen; omega)
        focus omega
        intro v' wb hown hbS hgb _
        obtain ⟨av, cv, rfl⟩ := owns_slice hown
        have hM := cross_box hgb (HRN2.out.alloc _) (box_under _ HM2.out) (by decide)
        have q0 := cell_block hM 0
        have q1 := cell_block hM 1
        have q2 := cell_block hM 2
        simp only [List.getElem?_toArray, List.getElem?_cons_succ, List.getElem?_cons_zero] at q0 q1 q2
        have qf := free_block hM
        have qz := lt_of_block hM
        have HMb := hid hM
        have HOb := hid (cross_row hgb (HRN2.out.alloc _) (HRO2.out.alloc _) (by decide))
        have HCUT := hid (TwAt.addN1 (x := ⟨5, xa + (N.nodes.length : Int), xb + (N.nodes.length : Int), xn⟩) hbm hM hown HOb.out hbS)
        clear hM hown hbS hgb
        go_wp2_with fail
        go_roundw
        case rel =>
          refine ⟨i + 1, by omega, by go_num, ?_⟩
          have h := HCUT.out
          rw [HLL.out, List.append_assoc] at h
          rw [map_take_succ _ _ GN.zero hlt, HX.out, HE.out]
          rw [HLL.out]
          exact h
        case measure => simp [intOf]; omega
      · have HE := hid (show GN.move N.nodes.length sh ⟨6, xa, xb, xn⟩ = ⟨6, xa + (N.nodes.length : Int), xb + (N.nodes.length : Int), xn⟩ by simp [GN.move])
        go_upto_region 23 with fail
        go_wp2_with (at_builtin; refine wpList_push_g _ w3 (wr.alloc _) _ (World.size_alloc _ _) rfl _ _ 46 rfl 52 i0 _ 4 32 Try.underlying46 hi hz0 hz1 hz2 rfl (by decide) w3.heap.size _ _ _ rfl (HRN2.out.alloc _) 1 1 _ rfl rfl rfl rfl ?_ ?_ (HBE.out.alloc hszle _) (Nat.le_refl _) (le_alloc hszle _) ?_)
        focus (unfold maxLen; omega)
        focus omega
        intro v' wb hown hbS hgb _
        obtain ⟨av, cv, rfl⟩ := owns_slice hown
        have hM := cross_box hgb (HRN2.out.alloc _) (box_under _ HM2.out) (by decide)
        have q0 := cell_block hM 0
        have q1 := cell_block hM 1
        have q2 := cell_block hM 2
        simp only [List.getElem?_toArray, List.getElem?_cons_succ, List.getElem?_cons_zero] at q0 q1 q2
        have qf := free_block hM
        have qz := lt_of_block hM
        have HMb := hid hM
        have HOb := hid (cross_row hgb (HRN2.out.alloc _) (HRO2.out.alloc _) (by decide))
        have HCUT := hid (TwAt.addN1 (x := ⟨6, xa + (N.nodes.length : Int), xb + (N.nodes.length : Int), xn⟩) hbm hM hown HOb.out hbS)
        clear hM hown hbS hgb
        go_wp2_with fail
        go_roundw
        case rel =>
          refine ⟨i + 1, by omega, by go_num, ?_⟩
          have h := HCUT.out
          rw [HLL.out, List.append_assoc] at h
          rw [map_take_succ _ _ GN.zero hlt, HX.out, HE.out]
          rw [HLL.out]
          exact h
        case measure => simp [intOf]; omega
      · have HE := hid (show GN.move N.nodes.length sh ⟨7, xa, xb, xn⟩ = ⟨7, xa + (N.nodes.length : Int), xb + (N.nodes.length : Int), xn⟩ by simp [GN.move])
        go_upto_region 23 with fail
        go_wp2_with (at_builtin; refine wpList_push_g _ w3 (wr.alloc _) _ (World.size_alloc _ _) rfl _ _ 46 rfl 52 i0 _ 4 32 Try.underlying46 hi hz0 hz1 hz2 rfl (by decide) w3.heap.size _ _ _ rfl (HRN2.out.alloc _) 1 1 _ rfl rfl rfl rfl ?_ ?_ (HBE.out.alloc hszle _) (Nat.le_refl _) (le_alloc hszle _) ?_)
        focus (unfold maxLen; omega)
        focus omega
        intro v' wb hown hbS hgb _
        obtain ⟨av, cv, rfl⟩ := owns_slice hown
        have hM := cross_box hgb (HRN2.out.alloc _) (box_under _ HM2.out) (by decide)
        have q0 := cell_block hM 0
        have q1 := cell_block hM 1
        have q2 := cell_block hM 2
        simp only [List.getElem?_toArray, List.getElem?_cons_succ, List.getElem?_cons_zero] at q0 q1 q2
        have qf := free_block hM
        have qz := lt_of_block hM
        have HMb := hid hM
        have HOb := hid (cross_row hgb (HRN2.out.alloc _) (HRO2.out.alloc _) (by decide))
        have HCUT := hid (TwAt.addN1 (x := ⟨7, xa + (N.nodes.length : Int), xb + (N.nodes.length : Int), xn⟩) hbm hM hown HOb.out hbS)
        clear hM hown hbS hgb
        go_wp2_with fail
        go_roundw
        case rel =>
          refine ⟨i + 1, by omega, by go_num, ?_⟩
          have h := HCUT.out
          rw [HLL.out, List.append_assoc] at h
          rw [map_take_succ _ _ GN.zero hlt, HX.out, HE.out]
          rw [HLL.out]
          exact h
        case measure => simp [intOf]; omega
      --stub]
    · obtain rfl : i = M.nodes.length := by omega
      rw [List.take_length, ← HSH.out] at ht
      obtain ⟨wo, rfl⟩ : ∃ wo : World, wo = wr := ⟨_, rfl⟩
      have HT3 := hid (show TwAt w3 (N.beside M same) bm (N.beside M same).nodes N.outs wo from ht)
      have hK : ((N.nodes.length : Nat) : Int) ≤ 60 := by omega
      clear ht HT2
      go_wp2_with fail
      go_loopw [12] (fun v wr => ∃ j : Nat, j ≤ M.outs.length ∧ v = .int .i64 j ∧ TwAt w3 (N.beside M same) bm (N.beside M same).nodes (N.outs ++ (M.outs.take j).map (· + (N.nodes.length : Int))) wr) (fun v _ => M.outs.length - (intOf v).toNat)
      case atStart => exact ⟨0, Nat.zero_le _, rfl, by simpa using HT3.out⟩
      case round =>
        obtain ⟨j, hlej, rfl, ht⟩ := hrel
        have hmw := MI.out.stay ht.below
        have c2 := hmw.outs
        clear hle hlt hmw
        by_cases hlt : j < M.outs.length
        · have hlti : (j : Int) < (M.outs.length : Int) := by omega
          have hmw := MI.out.stay ht.below
          obtain ⟨bo, off, rfl, hbo, hco⟩ := hmw.ro.at (by omega)
          have hci := hco j hlt
          have hob := Net.out_at HR'.out hlt
          obtain ⟨o, ho⟩ : ∃ o, M.outs.getD j 0 = o := ⟨_, rfl⟩
          rw [ho] at hci hob
          have HOO := hid ho
          obtain ⟨ho0, ho1⟩ := hob
          obtain ⟨O, hO⟩ : ∃ O, O = N.outs ++ (M.outs.take j).map (· + (N.nodes.length : Int)) := ⟨_, rfl⟩
          rw [← hO] at ht
          have hO60 : O.length ≤ 60 := by rw [hO, List.length_append, List.length_map, List.length_take]; omega
          have HO := hid hO
          obtain ⟨ad, cn, ao, co, hbm, hm, hrN, hrO, hd1, hd2, hd3, hbe⟩ := ht
          obtain ⟨LN, hLN⟩ : ∃ n, (N.beside M same).nodes.length = n := ⟨_, rfl⟩
          rw [hLN] at hm hrN
          have HLN := hid hLN
          have m2 := cell_block hm 2
          simp only [List.getElem?_toArray, List.getElem?_cons_succ, List.getElem?_cons_zero] at m2
          have hbmlt := lt_of_block hm
          have HM2 := hid hm
          have HRN2 := hid hrN
          have HRO2 := hid hrO
          have HBE := hid hbe
          have hszle := hbe.size
          clear hO ho hm hrN hrO hd1 hd2 hd3 hbe hmw HT3 hco hLN
          go_upto_region 27 with fail
          go_region_law ((refine step_append_held (by rfl) _ _ 24 (by rfl) w3.heap.size 3 i1 _ 1 8 Try.underlying24 hi1 hy0 hy1 hy2 (by rfl) (by decide) (.slice ao O.length co) O.length (O.map (.int .i64)) (by rfl) ?_ (some ⟨wr.heap.size, 0, none⟩) 1 1 [.int .i64 (IntKind.i64.wrap (o + (N.nodes.length : Int)))] (by rfl) (by intro h; cases h) (by rfl) ?_ (by intro u hu; simp at hu; subst hu; rfl) (by unfold maxLen; omega) (by omega) ?_ ?_); (focus ((first | with_reducible exact HRO2.out.alloc _ | with_reducible exact (HRO2.out.alloc _).drew); done)); (focus (rintro ad' h j u hj; cases h; rw [Addr.add_at]; exact (cell_new wr _ _ _).trans (by simpa using hj))); (focus (first | exact le_alloc hszle _ | exact le_drew (le_alloc hszle _) | fail)); intro av cv wb HP hown hgb; (first | (with_reducible have hx := cross_box (T := 48) hgb.out HP.out (box_under _ HM2.out) (by decide)) | (with_reducible have hx := cross_box (T := 48) hgb.out HP.out (box_drew (box_under _ HM2.out)) (by decide))); have hm0 := cell_block hx 0; have hm1 := cell_block hx 1; have hm2 := cell_block hx 2; simp only [List.getElem?_toArray, List.getElem?_cons_succ, List.getElem?_cons_zero] at hm0 hm1 hm2; have hmf := free_block hx; have hmz := lt_of_block hx; have HMb := hid hx; clear hx; (first | (with_reducible have hx := cross_row hgb.out HP.out (HRN2.out.alloc _) (by decide)) | (with_reducible have hx := cross_row hgb.out HP.out (HRN2.out.alloc _).drew (by decide))); have HOb := hid hx; clear hx; (first | (with_reducible have hx := cross_below hgb.out HP.out (HBE.out.alloc hszle _) (le_alloc hszle _)) | (with_reducible have hx := cross_below hgb.out HP.out (HBE.out.alloc hszle _).drew (le_drew (le_alloc hszle _)))); have HBS := hid hx; clear hx)
          all_goals
            have HCUT := hid (TwAt.addO (x := o + (N.nodes.length : Int)) hbm (by rw [HLN.out]; exact HMb.out) (by rw [HLN.out]; exact HOb.out) (own_wrapped hown.out (by omega) (by omega)) HBS.out)
            go_wp2_with fail
            go_roundw
            case rel =>
              refine ⟨j + 1, by omega, by go_num, ?_⟩
              rw [map_take_succ _ _ 0 hlt, HOO.out, ← List.append_assoc, ← HO.out]
              exact HCUT.out
            case measure => simp [intOf]; omega
        · obtain rfl : j = M.outs.length := by omega
          rw [List.take_length] at ht
          have HT4 := hid (show TwAt w3 (N.beside M same) bm (N.beside M same).nodes (N.beside M same).outs wr from ht)
          have hlN : (N.beside M same).nodes.length ≤ maxLen := by rw [Net.beside_nodes]; unfold maxLen; omega
          have hlO : (N.beside M same).outs.length ≤ maxLen := by rw [Net.beside_outs]; unfold maxLen; omega
          obtain ⟨ad, cn, ao, co, hm, hr0, hbmlt, hback⟩ := HT4.out.back rfl hlN hlO XB.out (by rw [HB0.out]; omega : w.heap.size ≤ b0 + 1 + 1) (by omega) HX2.out rfl
          have hbm3 : w3.heap.size ≤ bm := HT4.out.choose_spec.choose_spec.choose_spec.choose_spec.1
          have HBK := hid hback
          have m0 := cell_block hm 0
          have m1 := cell_block hm 1
          have m2 := cell_block hm 2
          simp only [List.getElem?_toArray, List.getElem?_cons_succ, List.getElem?_cons_zero] at m0 m1 m2
          have r0 := cell_block hr0 0
          have r1 := cell_block hr0 1
          have r2 := cell_block hr0 2
          simp only [List.getElem?_toArray, List.getElem?_cons_succ, List.getElem?_cons_zero] at r0 r1 r2
          have rf := free_block hr0
          have rz := lt_of_block hr0
          have hfin := set_box (set_box (set_box hr0 0 (.int .i64 (N.beside M same).given)) 1 (.slice ad (N.beside M same).nodes.length cn)) 2 (.slice ao (N.beside M same).outs.length co)
          have HFIN := hid hfin
          clear ht HT3 hm hr0 hback hfin
          go_wp2_with fail
          have e0 := cell_block HFIN.out 0
          have e1 := cell_block HFIN.out 1
          have e2 := cell_block HFIN.out 2
          obtain ⟨s1, s2, s3, s4, s5⟩ := set3_same wr (b0 + 1 + 1) (.int .i64 (N.beside M same).given) (.slice ad (N.beside M same).nodes.length cn) (.slice ao (N.beside M same).outs.length co)
          have hend := HBK.out _ s1 s2 s3 s4 s5
          generalize ((wr.setCell ⟨b0 + 1 + 1, 0, none⟩ (.int .i64 (N.beside M same).given)).setCell ⟨b0 + 1 + 1, 1, none⟩ (.slice ad (N.beside M same).nodes.length cn)).setCell ⟨b0 + 1 + 1, 2, none⟩ (.slice ao (N.beside M same).outs.length co) = w' at *
          simp at e0 e1 e2
          exact bodyPost_ret (v := .agg (netVal ad cn ao co (N.beside M same))) (by simp [results, Try.results34, go_sem, e0, e1, e2, netVal]) rfl ⟨ad, cn, ao, co, rfl, hend⟩
end Go.Proofs.Ytlaeflpddehipaa
