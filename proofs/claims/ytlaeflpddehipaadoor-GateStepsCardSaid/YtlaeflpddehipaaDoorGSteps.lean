/- GateSteps, walked (written by gen_gsteps.py). -/
import Derived.Test.YtlaeflpddehipaaDoorGsMem
set_option linter.unusedVariables false
set_option linter.unusedSimpArgs false
set_option linter.unusedSectionVars false
namespace Go.Proofs.YtlaeflpddehipaaDoor
open Go.RowKit Go.Maps
attribute [local go_sem ↓] Go.wp_at_zero Go.wp_at_succ

section
variable (B : Nat) (a : Option Addr) (c : Nat) (a' : Option Addr) (c' : Nat) (N : Net) (ag : Option Addr) (cg : Nat) (gs : List (List Bool)) (A : Nat → Option Addr) (C : Nat → Nat) (w : World)
set_option maxRecDepth 100000 in
set_option maxHeartbeats 1600000 in
theorem gs_long (h : 60 < N.nodes.length ∨ 30 < N.outs.length ∨ 30 < gs.length ∨ (1000 < N.given ∧ N.given ≤ 20000)) : Calls Tryd.prog 3 #[.agg #[.int .i64 N.given, .slice a N.nodes.length c, .slice a' N.outs.length c'], .slice ag gs.length cg] w (Yes w) := by
  generalize N.nodes.length = n at *
  generalize N.outs.length = no at *
  generalize gs.length = ng at *
  generalize N.given = g at *
  have hbe : ∀ o, Below w.heap.size w (w.alloc o) := fun o => (Below.refl _ _).alloc (Nat.le_refl _) o
  by_cases h1 : (60 : Int) < (n : Int)
  · clear h
    go_enter Tryd.func3, Tryd.ntmps3
    go_wp2
    go_ret
    exact ⟨rfl, hbe _⟩
  have d1 : decide ((60 : Int) < (n : Int)) = false := decide_eq_false h1
  by_cases h2 : (30 : Int) < (no : Int)
  · clear h
    go_enter Tryd.func3, Tryd.ntmps3
    go_wp2
    go_ret
    exact ⟨rfl, hbe _⟩
  have d2 : decide ((30 : Int) < (no : Int)) = false := decide_eq_false h2
  by_cases h3 : (30 : Int) < (ng : Int)
  · clear h
    go_enter Tryd.func3, Tryd.ntmps3
    go_wp2
    go_ret
    exact ⟨rfl, hbe _⟩
  have d3 : decide ((30 : Int) < (ng : Int)) = false := decide_eq_false h3
  have h4 : 1000 < g := by omega
  have h5 : g ≤ 20000 := by omega
  clear h
  go_enter Tryd.func3, Tryd.ntmps3
  go_wp2
  go_ret
  exact ⟨rfl, hbe _⟩
set_option maxRecDepth 100000 in
set_option maxHeartbeats 6400000 in
theorem gs_wrong1 (h : NetRows B w a c a' c' N) (hB : B ≤ w.heap.size) (h1 : N.nodes.length ≤ 60) (h2 : N.outs.length ≤ 30) (h3 : gs.length ≤ 30) (hG : N.given ≤ 1000) (hr : N.right = false) (he : ErrType w) : Calls Tryd.prog 3 #[.agg #[.int .i64 N.given, .slice a N.nodes.length c, .slice a' N.outs.length c'], .slice ag gs.length cg] w (Yes w) := by
  have HE := hid he
  clear he
  obtain ⟨i0, hi, hz0, hz1, hz2⟩ := info_parts Tryd.infoRefNode
  have hbe0 : Below w.heap.size w (w.alloc (.cells #[.int .i64 N.given, .slice a N.nodes.length c, .slice a' N.outs.length c'] 25)) := (Below.refl _ _).alloc (Nat.le_refl _) _
  have hI0 : NetIn (w.heap.size + 1) (w.alloc (.cells #[.int .i64 N.given, .slice a N.nodes.length c, .slice a' N.outs.length c'] 25)) w.heap.size a c a' c' N := h.box hB (alloc_at _ _) hbe0 _ (Nat.lt_succ_self _) (by omega)
  have HBE0 := hid hbe0
  have HI := hid hI0
  clear hbe0 hI0
  have hsz2 : (w.alloc (.cells #[.int .i64 N.given, .slice a N.nodes.length c, .slice a' N.outs.length c'] 25)).heap.size = w.heap.size + 1 := by simp
  have d1 : decide ((60 : Int) < (N.nodes.length : Int)) = false := decide_eq_false (by omega)
  have d2 : decide ((30 : Int) < (N.outs.length : Int)) = false := decide_eq_false (by omega)
  have d3 : decide ((30 : Int) < (gs.length : Int)) = false := decide_eq_false (by omega)
  have HR := hid hr
  have H := hid h
  obtain ⟨n, hN⟩ : ∃ n, N.nodes.length = n := ⟨_, rfl⟩
  obtain ⟨no, hNo⟩ : ∃ no, N.outs.length = no := ⟨_, rfl⟩
  obtain ⟨ng, hNg⟩ : ∃ ng, gs.length = ng := ⟨_, rfl⟩
  obtain ⟨g, hg⟩ : ∃ g, N.given = g := ⟨_, rfl⟩
  rw [hN] at d1 h1 HI HBE0 hsz2 ⊢
  rw [hNo] at d2 h2 HI HBE0 hsz2 ⊢
  rw [hNg] at d3 h3 ⊢
  rw [hg] at HI HBE0 hsz2 hG ⊢
  have HN := hid hN
  have HNo := hid hNo
  have HNg := hid hNg
  have HGV := hid hg
  clear h hN hNo hNg hg hr
  go_enter Tryd.func3, Tryd.ntmps3
  go_upto_region 1 with fail
  generalize w.alloc (.cells #[.int .i64 g, .slice a n c, .slice a' no c'] 25) = w2 at *
  have hlt2 : w.heap.size < w2.heap.size := by omega
  have x0 := HI.out.g
  have x1 := HI.out.nodes
  have x2 := HI.out.outs
  rw [HGV.out] at x0
  rw [HN.out] at x1
  rw [HNo.out] at x2
  have e1 : decide ((1000 : Int) < g) = false := decide_eq_false (by omega)
  clear hG
  go_upto_region 4 with fail
  have HT : Hid (GAt g a' no c' w2 w2.heap.size (N.nodes.take 0) (w2.alloc (.cells #[.int .i64 g, .slice none 0 0, .slice a' no c'] 29))) := ⟨none, 0, Nat.le_refl _, alloc_at _ _, World.ownsRow_nil _ _ _ _, (Below.refl _ _).alloc (Nat.le_refl _) _⟩
  obtain ⟨bR, hbR⟩ : ∃ z, w.heap.size + 1 = z := ⟨_, rfl⟩
  rw [hbR] at ⊢
  generalize w2.alloc (.cells #[.int .i64 g, .slice none 0 0, .slice a' no c'] 29) = w3 at *
  have hbR2 : w2.heap.size ≤ bR := by omega
  have HT' : Hid (GAt g a' no c' w2 bR (N.nodes.take 0) w3) := by rw [show bR = w2.heap.size by omega]; exact HT
  clear HT x0 x1 x2 d1 d2 d3
  go_wp2_with fail
  go_loopw [6] (fun v wr => ∃ k : Nat, k ≤ n ∧ v = .int .i64 k ∧ GAt g a' no c' w2 bR (N.nodes.take k) wr) (fun v _ => n - (intOf v).toNat)
  case atStart => exact ⟨0, Nat.zero_le _, rfl, HT'.out⟩
  case round =>
    obtain ⟨k, hle, rfl, hat⟩ := hrel
    obtain ⟨ad, cn, _, hm, hrow, hbe⟩ := hat
    have h' := HI.out.stay (hbe.mono (by omega))
    have x1 := h'.nodes
    rw [HN.out] at x1
    have hltr : w.heap.size < wr.heap.size := by have := hbe.size; omega
    by_cases hlt : k < n
    · obtain ⟨b1, off, rfl, hb1, d0, d1, d2, d3⟩ := h'.node k (by rw [HN.out]; exact hlt)
      have hb12 : b1 < w2.heap.size := by omega
      have hblr : b1 < wr.heap.size := by have := hbe.size; omega
      have hlen : (N.nodes.take k).length = k := by have := HN.out; simp; omega
      have htk : N.nodes.take (k + 1) = N.nodes.take k ++ [N.nodes.getD k GN.zero] := by
        have hl : k < N.nodes.length := by rw [HN.out]; exact hlt
        rw [List.take_succ_eq_append_getElem hl]
        simp [List.getD_eq_getElem?_getD, hl]
      obtain ⟨x, hx⟩ : ∃ x, N.nodes.getD k GN.zero = x := ⟨_, rfl⟩
      rw [hx] at d0 d1 d2 d3 htk
      obtain ⟨op, xa, xb, xn⟩ := x
      simp only at d0 d1 d2 d3
      have hmc : wr.heap[bR]? = some (.cells #[.int .i64 g, .slice ad k cn, .slice a' no c'] 29 (0, 0)) := by rw [hlen] at hm; exact hm
      have c1 : wr.cell? ⟨bR, 1, none⟩ = some (.slice ad k cn) := (cell_block hmc 1).trans rfl
      have hbmlt := boxLt hmc
      have hrow' : wr.ownsRow w2.heap.size 31 4 (.slice ad k cn) k (nodeVals (N.nodes.take k)) := by rw [hlen] at hrow; exact hrow
      have HM := hid hm
      have HROW := hid hrow
      have HROW' := hid hrow'
      have HBE := hid hbe
      have HLEN := hid hlen
      have HTK := hid htk
      have hkI : ((k : Nat) : Int) < (n : Int) := by omega
      clear h' hx hm hrow hrow' hbe hlen htk hmc
      go_upto_region 7 with fail
      refine wpEnds.begin (fun w' => w'.cell? ⟨bR, 1, none⟩ = some (.slice ad k cn) ∧ w'.cell? ⟨w.heap.size, 1, none⟩ = some (.slice (some ⟨b1, off, none⟩) n c) ∧ w'.cell? ⟨b1, off + k * 4, none⟩ = some (.int .i64 op) ∧ w'.cell? ⟨b1, off + k * 4 + 1, none⟩ = some (.int .i64 xa) ∧ w'.cell? ⟨b1, off + k * 4 + 2, none⟩ = some (.int .i64 xb) ∧ w'.cell? ⟨b1, off + k * 4 + 3, none⟩ = some (.int .i64 xn)) 10 (by kernel_rfl) ⟨c1, x1, d0, d1, d2, d3⟩ (fun hHeld => ?_)
      refine wpEnds.take 0 11 (v := ?va0) rfl (by kernel_rfl) (by kernel_rfl) (by kernel_rfl) (by kernel_rfl) (by kernel_rfl) (fun _ _ _ h => h) (by rfl) hHeld (fun w' hSw => ?hya0) ?resta0
      case hya0 => ((try dsimp only at hSw); go_simp; try with_reducible rfl)
      case resta0 =>
      (try simp only [Act.put, List.setIfInBounds_toArray, List.set_cons_zero, List.set_cons_succ])
      refine wpEnds.take 1 11 (v := ?va1) rfl (by kernel_rfl) (by kernel_rfl) (by kernel_rfl) (by kernel_rfl) (by kernel_rfl) (fun _ _ _ h => h) (by rfl) hHeld (fun w' hSw => ?hya1) ?resta1
      case hya1 => ((try dsimp only at hSw); go_simp; try with_reducible rfl)
      case resta1 =>
      (try simp only [Act.put, List.setIfInBounds_toArray, List.set_cons_zero, List.set_cons_succ])
      refine wpEnds.take 2 11 (v := ?va2) rfl (by kernel_rfl) (by kernel_rfl) (by kernel_rfl) (by kernel_rfl) (by kernel_rfl) (fun _ _ _ h => h) (by rfl) hHeld (fun w' hSw => ?hya2) ?resta2
      case hya2 => ((try dsimp only at hSw); go_simp; try with_reducible rfl)
      case resta2 =>
      (try simp only [Act.put, List.setIfInBounds_toArray, List.set_cons_zero, List.set_cons_succ])
      refine wpEnds.take 3 11 (v := ?va3) rfl (by kernel_rfl) (by kernel_rfl) (by kernel_rfl) (by kernel_rfl) (by kernel_rfl) (fun _ _ _ h => h) (by rfl) hHeld (fun w' hSw => ?hya3) ?resta3
      case hya3 => ((try dsimp only at hSw); go_simp; try with_reducible rfl)
      case resta3 =>
      (try simp only [Act.put, List.setIfInBounds_toArray, List.set_cons_zero, List.set_cons_succ])
      refine wpEnds.take 4 11 (v := ?va4) rfl (by kernel_rfl) (by kernel_rfl) (by kernel_rfl) (by kernel_rfl) (by kernel_rfl) (fun _ _ _ h => h) (by rfl) hHeld (fun w' hSw => ?hya4) ?resta4
      case hya4 => ((try dsimp only at hSw); go_simp; try with_reducible rfl)
      case resta4 =>
      (try simp only [Act.put, List.setIfInBounds_toArray, List.set_cons_zero, List.set_cons_succ])
      refine wpEnds.take 5 11 (v := ?va5) rfl (by kernel_rfl) (by kernel_rfl) (by kernel_rfl) (by kernel_rfl) (by kernel_rfl) (fun _ _ _ h => h) (by rfl) hHeld (fun w' hSw => ?hya5) ?resta5
      case hya5 => ((try dsimp only at hSw); go_simp; try with_reducible rfl)
      case resta5 =>
      (try simp only [Act.put, List.setIfInBounds_toArray, List.set_cons_zero, List.set_cons_succ])
      refine wpEnds.take 6 11 (v := ?va6) rfl (by kernel_rfl) (by kernel_rfl) (by kernel_rfl) (by kernel_rfl) (by kernel_rfl) (fun _ _ _ h => h) (by rfl) hHeld (fun w' hSw => ?hya6) ?resta6
      case hya6 => ((try dsimp only at hSw); go_simp; try with_reducible rfl)
      case resta6 =>
      (try simp only [Act.put, List.setIfInBounds_toArray, List.set_cons_zero, List.set_cons_succ])
      refine wpEnds.one 7 (by kernel_rfl) rfl (fun K hK => ?_)
      go_simp
      refine hK.out _ _ ⟨((g_alloc_drew _ _).cell hbmlt).trans c1, ((g_alloc_drew _ _).cell hltr).trans x1, ((g_alloc_drew _ _).cell hblr).trans d0, ((g_alloc_drew _ _).cell hblr).trans d1, ((g_alloc_drew _ _).cell hblr).trans d2, ((g_alloc_drew _ _).cell hblr).trans d3⟩ ?_
      clear hK K
      (try simp only [Act.put, List.setIfInBounds_toArray, List.set_cons_zero, List.set_cons_succ])
      refine wpEnds.one 8 (by kernel_rfl) rfl (fun K hK => ?_)
      refine append_held (by rfl) _ _ 27 (by rfl) w2.heap.size 31 i0 _ 4 32 Tryd.underlying27 hi hz0 hz1 hz2 (by rfl) (by decide) (.slice ad k cn) k (nodeVals (N.nodes.take k)) (by rfl) ((HROW'.out.alloc _).drew) (some ⟨wr.heap.size, 0, none⟩) 1 1 [.int .i64 op, .int .i64 xa, .int .i64 xb, .int .i64 xn] (by rfl) (by intro h; cases h) (by rfl) (by rintro ad' h j' u hj'; cases h; rw [Addr.add_at]; exact (cell_new _ _ _ _).trans (by simpa using hj')) (by simp [Value.oneCell']) (by unfold maxLen; omega) (by omega) (by have := HBE.out.size; simp; omega) ?_
      intro av1 cv1 wb HPO HRN hgb
      have P := g_push (x := ⟨op, xa, xb, xn⟩) hbR2 HM.out HROW.out HBE.out (g_alloc_drew wr _) (by have h := hgb.out; rw [HLEN.out]; exact h) (by have h := HRN.out; rw [HLEN.out]; exact h)
      rw [HLEN.out] at P
      have cb : wb.cell? ⟨bR, 1, none⟩ = some (.slice ad k cn) := (cell_block P.1 1).trans rfl
      have hbfr := free_block P.1
      have hblt := boxLt P.1
      have HEND := hid P.2
      have hbwx : Below w2.heap.size w2 wb := ((HBE.out.trans ((g_alloc_drew wr _).mono HBE.out.size)).grown hgb.out (Nat.le_trans HBE.out.size (g_alloc_drew wr (.cells #[.int .i64 op, .int .i64 xa, .int .i64 xb, .int .i64 xn] 31)).size) (fun k hk => (HROW'.out.lt k hk).1))
      have y1 := (hbwx.cell (p := ⟨w.heap.size, 1, none⟩) hlt2).trans (((HBE.out.cell (p := ⟨w.heap.size, 1, none⟩) hlt2).symm).trans x1)
      have g0 := (hbwx.cell (p := ⟨b1, off + k * 4, none⟩) hb12).trans (((HBE.out.cell (p := ⟨b1, off + k * 4, none⟩) hb12).symm).trans d0)
      have g1 := (hbwx.cell (p := ⟨b1, off + k * 4 + 1, none⟩) hb12).trans (((HBE.out.cell (p := ⟨b1, off + k * 4 + 1, none⟩) hb12).symm).trans d1)
      have g2 := (hbwx.cell (p := ⟨b1, off + k * 4 + 2, none⟩) hb12).trans (((HBE.out.cell (p := ⟨b1, off + k * 4 + 2, none⟩) hb12).symm).trans d2)
      have g3 := (hbwx.cell (p := ⟨b1, off + k * 4 + 3, none⟩) hb12).trans (((HBE.out.cell (p := ⟨b1, off + k * 4 + 3, none⟩) hb12).symm).trans d3)
      clear P HPO HRN hgb hbwx
      refine hK.out _ _ ⟨cb, y1, g0, g1, g2, g3⟩ ?_
      clear hK K
      (try simp only [Act.put, List.setIfInBounds_toArray, List.set_cons_zero, List.set_cons_succ])
      refine wpEnds.take 9 11 (v := ?va9) rfl (by kernel_rfl) (by kernel_rfl) (by kernel_rfl) (by kernel_rfl) (by kernel_rfl) (fun _ _ _ h => h) (by rfl) ⟨cb, y1, g0, g1, g2, g3⟩ (fun w' hSw => ?hya9) ?resta9
      case hya9 => ((try dsimp only at hSw); go_simp; try with_reducible rfl)
      case resta9 =>
      (try simp only [Act.put, List.setIfInBounds_toArray, List.set_cons_zero, List.set_cons_succ])
      refine wpEnds.last 10 (by kernel_rfl) (by kernel_rfl) rfl (fun K hK => ?_)
      go_simp
      refine hK.out _ _ ?_
      clear hK K
      (try simp only [Act.put, List.setIfInBounds_toArray, List.set_cons_zero, List.set_cons_succ])
      go_wp2_with fail
      go_roundw
      case rel => exact ⟨k + 1, hlt, by go_num, by rw [HTK.out]; exact HEND.out⟩
      case measure => simp [intOf]; omega
    · obtain rfl : n = k := by omega
      have hall : N.nodes.take n = N.nodes := List.take_of_length_le (by rw [HN.out]; exact Nat.le_refl _)
      rw [hall] at hm hrow
      obtain ⟨ad, cn, hm, hrows⟩ := g_rows (B := B) (w := w) (w2 := w2) ⟨ad, cn, hbR2, hm, hrow, hbe⟩ H.out (by omega) (HBE0.out.mono hB |>.trans (hbe.mono (by omega))) HNo.out
      rw [HN.out] at hm
      have hbRlt := boxLt hm
      have HROWS := hid hrows
      have HNI := hid (h'.mono (show w.heap.size + 1 ≤ wr.heap.size by have := hbe.size; omega))
      have HBW := hid (HBE0.out.trans (hbe.mono (by omega)) : Below w.heap.size w wr)
      have HBOX := hid hm
      have hbR4 := hid hbRlt
      clear h' hbe hall hrows hrow hm HT' hlt hle
      obtain ⟨w4, rfl⟩ : ∃ wo : World, wo = wr := ⟨_, rfl⟩
      go_upto_region 9 with (go_at_call 5; (with_reducible refine (New_wrong _ _ _ _ _ _ N w4 HNI.out (Nat.le_refl _) HR.out).mono ?_); rintro e w5 ⟨rfl, hbel⟩; have HNI5 := hid (HNI.out.stay hbel); have HROWS5 := hid (HROWS.out.stay hbel); have HB5 := hid (HBW.out.trans (hbel.mono HBW.out.size)); have HL5 := hid hbel; have HM5 := hid ((hbel.block bR hbRlt).trans HBOX.out); clear hbel x1)
      have x0 : w5.cell? ⟨bR, 0, none⟩ = some (.int .i64 g) := (cell_block HM5.out 0).trans rfl
      have x1 : w5.cell? ⟨bR, 1, none⟩ = some (.slice ad n cn) := (cell_block HM5.out 1).trans rfl
      have x2 : w5.cell? ⟨bR, 2, none⟩ = some (.slice a' no c') := (cell_block HM5.out 2).trans rfl
      have hbR5 := boxLt HM5.out
      have hle5 := HL5.out.size
      clear hbRlt e1
      go_cut [79] (fun s79 wx => s79 = .bool false ∧ Below w5.heap.size w5 wx)
      case first =>
        go_region_held3 (fun w' => w'.cell? ⟨bR, 0, none⟩ = some (.int .i64 g) ∧ w'.cell? ⟨bR, 1, none⟩ = some (.slice ad n cn) ∧ w'.cell? ⟨bR, 2, none⟩ = some (.slice a' no c') ∧ Below w5.heap.size w5 w')
          ((refine keep_box hbR5 x0 x1 x2 ?_; first | assumption | exact Below.refl _ _ | exact (Below.refl _ _).drew))
          (first
            | (go_at_call 6; (with_reducible refine (gRight HNI5.out HR.out hle5 (by first | assumption | exact Below.refl _ _ | exact (Below.refl _ _).drew)).mono ?_); rintro e wx ⟨rfl, hbx⟩)
            | (go_at_call 7; (with_reducible refine (rRight HROWS5.out HR.out HGV.out HN.out HNo.out hle5 (by first | assumption | exact Below.refl _ _ | exact (Below.refl _ _).drew)).mono ?_); rintro e wx ⟨rfl, hbx⟩)
            | (go_at_call 8; (with_reducible refine (gGates HNI5.out hle5 (by first | assumption | exact Below.refl _ _ | exact (Below.refl _ _).drew)).mono ?_); rintro e wx ⟨rfl, hbx⟩)
            | (go_at_call 9; (with_reducible refine (rGates HROWS5.out HGV.out HN.out HNo.out hle5 (by first | assumption | exact Below.refl _ _ | exact (Below.refl _ _).drew)).mono ?_); rintro e wx ⟨rfl, hbx⟩)
            | fail)
        all_goals (go_wp2_with fail; go_meet; exact ⟨rfl, by assumption⟩)
      case rest =>
      obtain ⟨rfl, hb6⟩ := hcut
      have HB6 := hid (HB5.out.trans (hb6.mono HB5.out.size))
      clear hb6 x0 x1 x2
      go_wp2_with (go_at_call 10; (with_reducible refine (bare_same 1 _ (HE.out.stay HB6.out)).mono ?_); rintro e w7 ⟨rfl, hb7⟩; have HB7 := hid (HB6.out.trans (hb7.mono HB6.out.size)))
      go_ret
      exact ⟨rfl, HB7.out⟩
set_option maxRecDepth 100000 in
set_option maxHeartbeats 6400000 in
theorem gs_wrong2 (h : NetRows B w a c a' c' N) (hB : B ≤ w.heap.size) (h1 : N.nodes.length ≤ 60) (h2 : N.outs.length ≤ 30) (h3 : gs.length ≤ 30) (hG : 20000 < N.given) (hr : N.right = false) (he : ErrType w) : Calls Tryd.prog 3 #[.agg #[.int .i64 N.given, .slice a N.nodes.length c, .slice a' N.outs.length c'], .slice ag gs.length cg] w (Yes w) := by
  have HE := hid he
  clear he
  obtain ⟨i0, hi, hz0, hz1, hz2⟩ := info_parts Tryd.infoRefNode
  have hbe0 : Below w.heap.size w (w.alloc (.cells #[.int .i64 N.given, .slice a N.nodes.length c, .slice a' N.outs.length c'] 25)) := (Below.refl _ _).alloc (Nat.le_refl _) _
  have hI0 : NetIn (w.heap.size + 1) (w.alloc (.cells #[.int .i64 N.given, .slice a N.nodes.length c, .slice a' N.outs.length c'] 25)) w.heap.size a c a' c' N := h.box hB (alloc_at _ _) hbe0 _ (Nat.lt_succ_self _) (by omega)
  have HBE0 := hid hbe0
  have HI := hid hI0
  clear hbe0 hI0
  have hsz2 : (w.alloc (.cells #[.int .i64 N.given, .slice a N.nodes.length c, .slice a' N.outs.length c'] 25)).heap.size = w.heap.size + 1 := by simp
  have d1 : decide ((60 : Int) < (N.nodes.length : Int)) = false := decide_eq_false (by omega)
  have d2 : decide ((30 : Int) < (N.outs.length : Int)) = false := decide_eq_false (by omega)
  have d3 : decide ((30 : Int) < (gs.length : Int)) = false := decide_eq_false (by omega)
  have HR := hid hr
  have H := hid h
  obtain ⟨n, hN⟩ : ∃ n, N.nodes.length = n := ⟨_, rfl⟩
  obtain ⟨no, hNo⟩ : ∃ no, N.outs.length = no := ⟨_, rfl⟩
  obtain ⟨ng, hNg⟩ : ∃ ng, gs.length = ng := ⟨_, rfl⟩
  obtain ⟨g, hg⟩ : ∃ g, N.given = g := ⟨_, rfl⟩
  rw [hN] at d1 h1 HI HBE0 hsz2 ⊢
  rw [hNo] at d2 h2 HI HBE0 hsz2 ⊢
  rw [hNg] at d3 h3 ⊢
  rw [hg] at HI HBE0 hsz2 hG ⊢
  have HN := hid hN
  have HNo := hid hNo
  have HNg := hid hNg
  have HGV := hid hg
  clear h hN hNo hNg hg hr
  go_enter Tryd.func3, Tryd.ntmps3
  go_upto_region 1 with fail
  generalize w.alloc (.cells #[.int .i64 g, .slice a n c, .slice a' no c'] 25) = w2 at *
  have hlt2 : w.heap.size < w2.heap.size := by omega
  have x0 := HI.out.g
  have x1 := HI.out.nodes
  have x2 := HI.out.outs
  rw [HGV.out] at x0
  rw [HN.out] at x1
  rw [HNo.out] at x2
  have e1 : decide ((1000 : Int) < g) = true ∧ decide (g ≤ (20000 : Int)) = false := ⟨decide_eq_true (by omega), decide_eq_false (by omega)⟩
  obtain ⟨e1, e2⟩ := e1
  clear hG
  go_upto_region 4 with fail
  have HT : Hid (GAt g a' no c' w2 w2.heap.size (N.nodes.take 0) (w2.alloc (.cells #[.int .i64 g, .slice none 0 0, .slice a' no c'] 29))) := ⟨none, 0, Nat.le_refl _, alloc_at _ _, World.ownsRow_nil _ _ _ _, (Below.refl _ _).alloc (Nat.le_refl _) _⟩
  obtain ⟨bR, hbR⟩ : ∃ z, w.heap.size + 1 = z := ⟨_, rfl⟩
  rw [hbR] at ⊢
  generalize w2.alloc (.cells #[.int .i64 g, .slice none 0 0, .slice a' no c'] 29) = w3 at *
  have hbR2 : w2.heap.size ≤ bR := by omega
  have HT' : Hid (GAt g a' no c' w2 bR (N.nodes.take 0) w3) := by rw [show bR = w2.heap.size by omega]; exact HT
  clear HT x0 x1 x2 d1 d2 d3
  go_wp2_with fail
  go_loopw [6] (fun v wr => ∃ k : Nat, k ≤ n ∧ v = .int .i64 k ∧ GAt g a' no c' w2 bR (N.nodes.take k) wr) (fun v _ => n - (intOf v).toNat)
  case atStart => exact ⟨0, Nat.zero_le _, rfl, HT'.out⟩
  case round =>
    obtain ⟨k, hle, rfl, hat⟩ := hrel
    obtain ⟨ad, cn, _, hm, hrow, hbe⟩ := hat
    have h' := HI.out.stay (hbe.mono (by omega))
    have x1 := h'.nodes
    rw [HN.out] at x1
    have hltr : w.heap.size < wr.heap.size := by have := hbe.size; omega
    by_cases hlt : k < n
    · obtain ⟨b1, off, rfl, hb1, d0, d1, d2, d3⟩ := h'.node k (by rw [HN.out]; exact hlt)
      have hb12 : b1 < w2.heap.size := by omega
      have hblr : b1 < wr.heap.size := by have := hbe.size; omega
      have hlen : (N.nodes.take k).length = k := by have := HN.out; simp; omega
      have htk : N.nodes.take (k + 1) = N.nodes.take k ++ [N.nodes.getD k GN.zero] := by
        have hl : k < N.nodes.length := by rw [HN.out]; exact hlt
        rw [List.take_succ_eq_append_getElem hl]
        simp [List.getD_eq_getElem?_getD, hl]
      obtain ⟨x, hx⟩ : ∃ x, N.nodes.getD k GN.zero = x := ⟨_, rfl⟩
      rw [hx] at d0 d1 d2 d3 htk
      obtain ⟨op, xa, xb, xn⟩ := x
      simp only at d0 d1 d2 d3
      have hmc : wr.heap[bR]? = some (.cells #[.int .i64 g, .slice ad k cn, .slice a' no c'] 29 (0, 0)) := by rw [hlen] at hm; exact hm
      have c1 : wr.cell? ⟨bR, 1, none⟩ = some (.slice ad k cn) := (cell_block hmc 1).trans rfl
      have hbmlt := boxLt hmc
      have hrow' : wr.ownsRow w2.heap.size 31 4 (.slice ad k cn) k (nodeVals (N.nodes.take k)) := by rw [hlen] at hrow; exact hrow
      have HM := hid hm
      have HROW := hid hrow
      have HROW' := hid hrow'
      have HBE := hid hbe
      have HLEN := hid hlen
      have HTK := hid htk
      have hkI : ((k : Nat) : Int) < (n : Int) := by omega
      clear h' hx hm hrow hrow' hbe hlen htk hmc
      go_upto_region 7 with fail
      refine wpEnds.begin (fun w' => w'.cell? ⟨bR, 1, none⟩ = some (.slice ad k cn) ∧ w'.cell? ⟨w.heap.size, 1, none⟩ = some (.slice (some ⟨b1, off, none⟩) n c) ∧ w'.cell? ⟨b1, off + k * 4, none⟩ = some (.int .i64 op) ∧ w'.cell? ⟨b1, off + k * 4 + 1, none⟩ = some (.int .i64 xa) ∧ w'.cell? ⟨b1, off + k * 4 + 2, none⟩ = some (.int .i64 xb) ∧ w'.cell? ⟨b1, off + k * 4 + 3, none⟩ = some (.int .i64 xn)) 10 (by kernel_rfl) ⟨c1, x1, d0, d1, d2, d3⟩ (fun hHeld => ?_)
      refine wpEnds.take 0 11 (v := ?va0) rfl (by kernel_rfl) (by kernel_rfl) (by kernel_rfl) (by kernel_rfl) (by kernel_rfl) (fun _ _ _ h => h) (by rfl) hHeld (fun w' hSw => ?hya0) ?resta0
      case hya0 => ((try dsimp only at hSw); go_simp; try with_reducible rfl)
      case resta0 =>
      (try simp only [Act.put, List.setIfInBounds_toArray, List.set_cons_zero, List.set_cons_succ])
      refine wpEnds.take 1 11 (v := ?va1) rfl (by kernel_rfl) (by kernel_rfl) (by kernel_rfl) (by kernel_rfl) (by kernel_rfl) (fun _ _ _ h => h) (by rfl) hHeld (fun w' hSw => ?hya1) ?resta1
      case hya1 => ((try dsimp only at hSw); go_simp; try with_reducible rfl)
      case resta1 =>
      (try simp only [Act.put, List.setIfInBounds_toArray, List.set_cons_zero, List.set_cons_succ])
      refine wpEnds.take 2 11 (v := ?va2) rfl (by kernel_rfl) (by kernel_rfl) (by kernel_rfl) (by kernel_rfl) (by kernel_rfl) (fun _ _ _ h => h) (by rfl) hHeld (fun w' hSw => ?hya2) ?resta2
      case hya2 => ((try dsimp only at hSw); go_simp; try with_reducible rfl)
      case resta2 =>
      (try simp only [Act.put, List.setIfInBounds_toArray, List.set_cons_zero, List.set_cons_succ])
      refine wpEnds.take 3 11 (v := ?va3) rfl (by kernel_rfl) (by kernel_rfl) (by kernel_rfl) (by kernel_rfl) (by kernel_rfl) (fun _ _ _ h => h) (by rfl) hHeld (fun w' hSw => ?hya3) ?resta3
      case hya3 => ((try dsimp only at hSw); go_simp; try with_reducible rfl)
      case resta3 =>
      (try simp only [Act.put, List.setIfInBounds_toArray, List.set_cons_zero, List.set_cons_succ])
      refine wpEnds.take 4 11 (v := ?va4) rfl (by kernel_rfl) (by kernel_rfl) (by kernel_rfl) (by kernel_rfl) (by kernel_rfl) (fun _ _ _ h => h) (by rfl) hHeld (fun w' hSw => ?hya4) ?resta4
      case hya4 => ((try dsimp only at hSw); go_simp; try with_reducible rfl)
      case resta4 =>
      (try simp only [Act.put, List.setIfInBounds_toArray, List.set_cons_zero, List.set_cons_succ])
      refine wpEnds.take 5 11 (v := ?va5) rfl (by kernel_rfl) (by kernel_rfl) (by kernel_rfl) (by kernel_rfl) (by kernel_rfl) (fun _ _ _ h => h) (by rfl) hHeld (fun w' hSw => ?hya5) ?resta5
      case hya5 => ((try dsimp only at hSw); go_simp; try with_reducible rfl)
      case resta5 =>
      (try simp only [Act.put, List.setIfInBounds_toArray, List.set_cons_zero, List.set_cons_succ])
      refine wpEnds.take 6 11 (v := ?va6) rfl (by kernel_rfl) (by kernel_rfl) (by kernel_rfl) (by kernel_rfl) (by kernel_rfl) (fun _ _ _ h => h) (by rfl) hHeld (fun w' hSw => ?hya6) ?resta6
      case hya6 => ((try dsimp only at hSw); go_simp; try with_reducible rfl)
      case resta6 =>
      (try simp only [Act.put, List.setIfInBounds_toArray, List.set_cons_zero, List.set_cons_succ])
      refine wpEnds.one 7 (by kernel_rfl) rfl (fun K hK => ?_)
      go_simp
      refine hK.out _ _ ⟨((g_alloc_drew _ _).cell hbmlt).trans c1, ((g_alloc_drew _ _).cell hltr).trans x1, ((g_alloc_drew _ _).cell hblr).trans d0, ((g_alloc_drew _ _).cell hblr).trans d1, ((g_alloc_drew _ _).cell hblr).trans d2, ((g_alloc_drew _ _).cell hblr).trans d3⟩ ?_
      clear hK K
      (try simp only [Act.put, List.setIfInBounds_toArray, List.set_cons_zero, List.set_cons_succ])
      refine wpEnds.one 8 (by kernel_rfl) rfl (fun K hK => ?_)
      refine append_held (by rfl) _ _ 27 (by rfl) w2.heap.size 31 i0 _ 4 32 Tryd.underlying27 hi hz0 hz1 hz2 (by rfl) (by decide) (.slice ad k cn) k (nodeVals (N.nodes.take k)) (by rfl) ((HROW'.out.alloc _).drew) (some ⟨wr.heap.size, 0, none⟩) 1 1 [.int .i64 op, .int .i64 xa, .int .i64 xb, .int .i64 xn] (by rfl) (by intro h; cases h) (by rfl) (by rintro ad' h j' u hj'; cases h; rw [Addr.add_at]; exact (cell_new _ _ _ _).trans (by simpa using hj')) (by simp [Value.oneCell']) (by unfold maxLen; omega) (by omega) (by have := HBE.out.size; simp; omega) ?_
      intro av1 cv1 wb HPO HRN hgb
      have P := g_push (x := ⟨op, xa, xb, xn⟩) hbR2 HM.out HROW.out HBE.out (g_alloc_drew wr _) (by have h := hgb.out; rw [HLEN.out]; exact h) (by have h := HRN.out; rw [HLEN.out]; exact h)
      rw [HLEN.out] at P
      have cb : wb.cell? ⟨bR, 1, none⟩ = some (.slice ad k cn) := (cell_block P.1 1).trans rfl
      have hbfr := free_block P.1
      have hblt := boxLt P.1
      have HEND := hid P.2
      have hbwx : Below w2.heap.size w2 wb := ((HBE.out.trans ((g_alloc_drew wr _).mono HBE.out.size)).grown hgb.out (Nat.le_trans HBE.out.size (g_alloc_drew wr (.cells #[.int .i64 op, .int .i64 xa, .int .i64 xb, .int .i64 xn] 31)).size) (fun k hk => (HROW'.out.lt k hk).1))
      have y1 := (hbwx.cell (p := ⟨w.heap.size, 1, none⟩) hlt2).trans (((HBE.out.cell (p := ⟨w.heap.size, 1, none⟩) hlt2).symm).trans x1)
      have g0 := (hbwx.cell (p := ⟨b1, off + k * 4, none⟩) hb12).trans (((HBE.out.cell (p := ⟨b1, off + k * 4, none⟩) hb12).symm).trans d0)
      have g1 := (hbwx.cell (p := ⟨b1, off + k * 4 + 1, none⟩) hb12).trans (((HBE.out.cell (p := ⟨b1, off + k * 4 + 1, none⟩) hb12).symm).trans d1)
      have g2 := (hbwx.cell (p := ⟨b1, off + k * 4 + 2, none⟩) hb12).trans (((HBE.out.cell (p := ⟨b1, off + k * 4 + 2, none⟩) hb12).symm).trans d2)
      have g3 := (hbwx.cell (p := ⟨b1, off + k * 4 + 3, none⟩) hb12).trans (((HBE.out.cell (p := ⟨b1, off + k * 4 + 3, none⟩) hb12).symm).trans d3)
      clear P HPO HRN hgb hbwx
      refine hK.out _ _ ⟨cb, y1, g0, g1, g2, g3⟩ ?_
      clear hK K
      (try simp only [Act.put, List.setIfInBounds_toArray, List.set_cons_zero, List.set_cons_succ])
      refine wpEnds.take 9 11 (v := ?va9) rfl (by kernel_rfl) (by kernel_rfl) (by kernel_rfl) (by kernel_rfl) (by kernel_rfl) (fun _ _ _ h => h) (by rfl) ⟨cb, y1, g0, g1, g2, g3⟩ (fun w' hSw => ?hya9) ?resta9
      case hya9 => ((try dsimp only at hSw); go_simp; try with_reducible rfl)
      case resta9 =>
      (try simp only [Act.put, List.setIfInBounds_toArray, List.set_cons_zero, List.set_cons_succ])
      refine wpEnds.last 10 (by kernel_rfl) (by kernel_rfl) rfl (fun K hK => ?_)
      go_simp
      refine hK.out _ _ ?_
      clear hK K
      (try simp only [Act.put, List.setIfInBounds_toArray, List.set_cons_zero, List.set_cons_succ])
      go_wp2_with fail
      go_roundw
      case rel => exact ⟨k + 1, hlt, by go_num, by rw [HTK.out]; exact HEND.out⟩
      case measure => simp [intOf]; omega
    · obtain rfl : n = k := by omega
      have hall : N.nodes.take n = N.nodes := List.take_of_length_le (by rw [HN.out]; exact Nat.le_refl _)
      rw [hall] at hm hrow
      obtain ⟨ad, cn, hm, hrows⟩ := g_rows (B := B) (w := w) (w2 := w2) ⟨ad, cn, hbR2, hm, hrow, hbe⟩ H.out (by omega) (HBE0.out.mono hB |>.trans (hbe.mono (by omega))) HNo.out
      rw [HN.out] at hm
      have hbRlt := boxLt hm
      have HROWS := hid hrows
      have HNI := hid (h'.mono (show w.heap.size + 1 ≤ wr.heap.size by have := hbe.size; omega))
      have HBW := hid (HBE0.out.trans (hbe.mono (by omega)) : Below w.heap.size w wr)
      have HBOX := hid hm
      have hbR4 := hid hbRlt
      clear h' hbe hall hrows hrow hm HT' hlt hle
      obtain ⟨w4, rfl⟩ : ∃ wo : World, wo = wr := ⟨_, rfl⟩
      go_upto_region 9 with (go_at_call 5; (with_reducible refine (New_wrong _ _ _ _ _ _ N w4 HNI.out (Nat.le_refl _) HR.out).mono ?_); rintro e w5 ⟨rfl, hbel⟩; have HNI5 := hid (HNI.out.stay hbel); have HROWS5 := hid (HROWS.out.stay hbel); have HB5 := hid (HBW.out.trans (hbel.mono HBW.out.size)); have HL5 := hid hbel; have HM5 := hid ((hbel.block bR hbRlt).trans HBOX.out); clear hbel x1)
      have x0 : w5.cell? ⟨bR, 0, none⟩ = some (.int .i64 g) := (cell_block HM5.out 0).trans rfl
      have x1 : w5.cell? ⟨bR, 1, none⟩ = some (.slice ad n cn) := (cell_block HM5.out 1).trans rfl
      have x2 : w5.cell? ⟨bR, 2, none⟩ = some (.slice a' no c') := (cell_block HM5.out 2).trans rfl
      have hbR5 := boxLt HM5.out
      have hle5 := HL5.out.size
      clear hbRlt e1 e2
      go_cut [79] (fun s79 wx => s79 = .bool false ∧ Below w5.heap.size w5 wx)
      case first =>
        go_region_held3 (fun w' => w'.cell? ⟨bR, 0, none⟩ = some (.int .i64 g) ∧ w'.cell? ⟨bR, 1, none⟩ = some (.slice ad n cn) ∧ w'.cell? ⟨bR, 2, none⟩ = some (.slice a' no c') ∧ Below w5.heap.size w5 w')
          ((refine keep_box hbR5 x0 x1 x2 ?_; first | assumption | exact Below.refl _ _ | exact (Below.refl _ _).drew))
          (first
            | (go_at_call 6; (with_reducible refine (gRight HNI5.out HR.out hle5 (by first | assumption | exact Below.refl _ _ | exact (Below.refl _ _).drew)).mono ?_); rintro e wx ⟨rfl, hbx⟩)
            | (go_at_call 7; (with_reducible refine (rRight HROWS5.out HR.out HGV.out HN.out HNo.out hle5 (by first | assumption | exact Below.refl _ _ | exact (Below.refl _ _).drew)).mono ?_); rintro e wx ⟨rfl, hbx⟩)
            | (go_at_call 8; (with_reducible refine (gGates HNI5.out hle5 (by first | assumption | exact Below.refl _ _ | exact (Below.refl _ _).drew)).mono ?_); rintro e wx ⟨rfl, hbx⟩)
            | (go_at_call 9; (with_reducible refine (rGates HROWS5.out HGV.out HN.out HNo.out hle5 (by first | assumption | exact Below.refl _ _ | exact (Below.refl _ _).drew)).mono ?_); rintro e wx ⟨rfl, hbx⟩)
            | fail)
        all_goals (go_wp2_with fail; go_meet; exact ⟨rfl, by assumption⟩)
      case rest =>
      obtain ⟨rfl, hb6⟩ := hcut
      have HB6 := hid (HB5.out.trans (hb6.mono HB5.out.size))
      clear hb6 x0 x1 x2
      go_wp2_with (go_at_call 10; (with_reducible refine (bare_same 1 _ (HE.out.stay HB6.out)).mono ?_); rintro e w7 ⟨rfl, hb7⟩; have HB7 := hid (HB6.out.trans (hb7.mono HB6.out.size)))
      go_ret
      exact ⟨rfl, HB7.out⟩
set_option maxRecDepth 100000 in
set_option maxHeartbeats 12800000 in
theorem gs_right (hgr : GivenRows B w ag gs A C) (h : NetRows B w a c a' c' N) (hB : B ≤ w.heap.size) (h1 : N.nodes.length ≤ 60) (h2 : N.outs.length ≤ 30) (h3 : gs.length ≤ 30) (hG : N.given ≤ 1000) (hr : N.right = true) : Calls Tryd.prog 3 #[.agg #[.int .i64 N.given, .slice a N.nodes.length c, .slice a' N.outs.length c'], .slice ag gs.length cg] w (Yes w) := by
  have HGR := hid hgr
  clear hgr
  obtain ⟨i0, hi, hz0, hz1, hz2⟩ := info_parts Tryd.infoRefNode
  have hbe0 : Below w.heap.size w (w.alloc (.cells #[.int .i64 N.given, .slice a N.nodes.length c, .slice a' N.outs.length c'] 25)) := (Below.refl _ _).alloc (Nat.le_refl _) _
  have hI0 : NetIn (w.heap.size + 1) (w.alloc (.cells #[.int .i64 N.given, .slice a N.nodes.length c, .slice a' N.outs.length c'] 25)) w.heap.size a c a' c' N := h.box hB (alloc_at _ _) hbe0 _ (Nat.lt_succ_self _) (by omega)
  have HBE0 := hid hbe0
  have HI := hid hI0
  clear hbe0 hI0
  have hsz2 : (w.alloc (.cells #[.int .i64 N.given, .slice a N.nodes.length c, .slice a' N.outs.length c'] 25)).heap.size = w.heap.size + 1 := by simp
  have d1 : decide ((60 : Int) < (N.nodes.length : Int)) = false := decide_eq_false (by omega)
  have d2 : decide ((30 : Int) < (N.outs.length : Int)) = false := decide_eq_false (by omega)
  have d3 : decide ((30 : Int) < (gs.length : Int)) = false := decide_eq_false (by omega)
  have HR := hid hr
  have H := hid h
  obtain ⟨n, hN⟩ : ∃ n, N.nodes.length = n := ⟨_, rfl⟩
  obtain ⟨no, hNo⟩ : ∃ no, N.outs.length = no := ⟨_, rfl⟩
  obtain ⟨ng, hNg⟩ : ∃ ng, gs.length = ng := ⟨_, rfl⟩
  obtain ⟨g, hg⟩ : ∃ g, N.given = g := ⟨_, rfl⟩
  rw [hN] at d1 h1 HI HBE0 hsz2 ⊢
  rw [hNo] at d2 h2 HI HBE0 hsz2 ⊢
  rw [hNg] at d3 h3 ⊢
  rw [hg] at HI HBE0 hsz2 hG ⊢
  have HN := hid hN
  have HNo := hid hNo
  have HNg := hid hNg
  have HGV := hid hg
  clear h hN hNo hNg hg hr
  go_enter Tryd.func3, Tryd.ntmps3
  go_upto_region 1 with fail
  generalize w.alloc (.cells #[.int .i64 g, .slice a n c, .slice a' no c'] 25) = w2 at *
  have hlt2 : w.heap.size < w2.heap.size := by omega
  have x0 := HI.out.g
  have x1 := HI.out.nodes
  have x2 := HI.out.outs
  rw [HGV.out] at x0
  rw [HN.out] at x1
  rw [HNo.out] at x2
  have e1 : decide ((1000 : Int) < g) = false := decide_eq_false (by omega)
  clear hG
  go_upto_region 4 with fail
  have HT : Hid (GAt g a' no c' w2 w2.heap.size (N.nodes.take 0) (w2.alloc (.cells #[.int .i64 g, .slice none 0 0, .slice a' no c'] 29))) := ⟨none, 0, Nat.le_refl _, alloc_at _ _, World.ownsRow_nil _ _ _ _, (Below.refl _ _).alloc (Nat.le_refl _) _⟩
  obtain ⟨bR, hbR⟩ : ∃ z, w.heap.size + 1 = z := ⟨_, rfl⟩
  rw [hbR] at ⊢
  generalize w2.alloc (.cells #[.int .i64 g, .slice none 0 0, .slice a' no c'] 29) = w3 at *
  have hbR2 : w2.heap.size ≤ bR := by omega
  have HT' : Hid (GAt g a' no c' w2 bR (N.nodes.take 0) w3) := by rw [show bR = w2.heap.size by omega]; exact HT
  clear HT x0 x1 x2 d1 d2 d3
  go_wp2_with fail
  go_loopw [6] (fun v wr => ∃ k : Nat, k ≤ n ∧ v = .int .i64 k ∧ GAt g a' no c' w2 bR (N.nodes.take k) wr) (fun v _ => n - (intOf v).toNat)
  case atStart => exact ⟨0, Nat.zero_le _, rfl, HT'.out⟩
  case round =>
    obtain ⟨k, hle, rfl, hat⟩ := hrel
    obtain ⟨ad, cn, _, hm, hrow, hbe⟩ := hat
    have h' := HI.out.stay (hbe.mono (by omega))
    have x1 := h'.nodes
    rw [HN.out] at x1
    have hltr : w.heap.size < wr.heap.size := by have := hbe.size; omega
    by_cases hlt : k < n
    · obtain ⟨b1, off, rfl, hb1, d0, d1, d2, d3⟩ := h'.node k (by rw [HN.out]; exact hlt)
      have hb12 : b1 < w2.heap.size := by omega
      have hblr : b1 < wr.heap.size := by have := hbe.size; omega
      have hlen : (N.nodes.take k).length = k := by have := HN.out; simp; omega
      have htk : N.nodes.take (k + 1) = N.nodes.take k ++ [N.nodes.getD k GN.zero] := by
        have hl : k < N.nodes.length := by rw [HN.out]; exact hlt
        rw [List.take_succ_eq_append_getElem hl]
        simp [List.getD_eq_getElem?_getD, hl]
      obtain ⟨x, hx⟩ : ∃ x, N.nodes.getD k GN.zero = x := ⟨_, rfl⟩
      rw [hx] at d0 d1 d2 d3 htk
      obtain ⟨op, xa, xb, xn⟩ := x
      simp only at d0 d1 d2 d3
      have hmc : wr.heap[bR]? = some (.cells #[.int .i64 g, .slice ad k cn, .slice a' no c'] 29 (0, 0)) := by rw [hlen] at hm; exact hm
      have c1 : wr.cell? ⟨bR, 1, none⟩ = some (.slice ad k cn) := (cell_block hmc 1).trans rfl
      have hbmlt := boxLt hmc
      have hrow' : wr.ownsRow w2.heap.size 31 4 (.slice ad k cn) k (nodeVals (N.nodes.take k)) := by rw [hlen] at hrow; exact hrow
      have HM := hid hm
      have HROW := hid hrow
      have HROW' := hid hrow'
      have HBE := hid hbe
      have HLEN := hid hlen
      have HTK := hid htk
      have hkI : ((k : Nat) : Int) < (n : Int) := by omega
      clear h' hx hm hrow hrow' hbe hlen htk hmc
      go_upto_region 7 with fail
      refine wpEnds.begin (fun w' => w'.cell? ⟨bR, 1, none⟩ = some (.slice ad k cn) ∧ w'.cell? ⟨w.heap.size, 1, none⟩ = some (.slice (some ⟨b1, off, none⟩) n c) ∧ w'.cell? ⟨b1, off + k * 4, none⟩ = some (.int .i64 op) ∧ w'.cell? ⟨b1, off + k * 4 + 1, none⟩ = some (.int .i64 xa) ∧ w'.cell? ⟨b1, off + k * 4 + 2, none⟩ = some (.int .i64 xb) ∧ w'.cell? ⟨b1, off + k * 4 + 3, none⟩ = some (.int .i64 xn)) 10 (by kernel_rfl) ⟨c1, x1, d0, d1, d2, d3⟩ (fun hHeld => ?_)
      refine wpEnds.take 0 11 (v := ?va0) rfl (by kernel_rfl) (by kernel_rfl) (by kernel_rfl) (by kernel_rfl) (by kernel_rfl) (fun _ _ _ h => h) (by rfl) hHeld (fun w' hSw => ?hya0) ?resta0
      case hya0 => ((try dsimp only at hSw); go_simp; try with_reducible rfl)
      case resta0 =>
      (try simp only [Act.put, List.setIfInBounds_toArray, List.set_cons_zero, List.set_cons_succ])
      refine wpEnds.take 1 11 (v := ?va1) rfl (by kernel_rfl) (by kernel_rfl) (by kernel_rfl) (by kernel_rfl) (by kernel_rfl) (fun _ _ _ h => h) (by rfl) hHeld (fun w' hSw => ?hya1) ?resta1
      case hya1 => ((try dsimp only at hSw); go_simp; try with_reducible rfl)
      case resta1 =>
      (try simp only [Act.put, List.setIfInBounds_toArray, List.set_cons_zero, List.set_cons_succ])
      refine wpEnds.take 2 11 (v := ?va2) rfl (by kernel_rfl) (by kernel_rfl) (by kernel_rfl) (by kernel_rfl) (by kernel_rfl) (fun _ _ _ h => h) (by rfl) hHeld (fun w' hSw => ?hya2) ?resta2
      case hya2 => ((try dsimp only at hSw); go_simp; try with_reducible rfl)
      case resta2 =>
      (try simp only [Act.put, List.setIfInBounds_toArray, List.set_cons_zero, List.set_cons_succ])
      refine wpEnds.take 3 11 (v := ?va3) rfl (by kernel_rfl) (by kernel_rfl) (by kernel_rfl) (by kernel_rfl) (by kernel_rfl) (fun _ _ _ h => h) (by rfl) hHeld (fun w' hSw => ?hya3) ?resta3
      case hya3 => ((try dsimp only at hSw); go_simp; try with_reducible rfl)
      case resta3 =>
      (try simp only [Act.put, List.setIfInBounds_toArray, List.set_cons_zero, List.set_cons_succ])
      refine wpEnds.take 4 11 (v := ?va4) rfl (by kernel_rfl) (by kernel_rfl) (by kernel_rfl) (by kernel_rfl) (by kernel_rfl) (fun _ _ _ h => h) (by rfl) hHeld (fun w' hSw => ?hya4) ?resta4
      case hya4 => ((try dsimp only at hSw); go_simp; try with_reducible rfl)
      case resta4 =>
      (try simp only [Act.put, List.setIfInBounds_toArray, List.set_cons_zero, List.set_cons_succ])
      refine wpEnds.take 5 11 (v := ?va5) rfl (by kernel_rfl) (by kernel_rfl) (by kernel_rfl) (by kernel_rfl) (by kernel_rfl) (fun _ _ _ h => h) (by rfl) hHeld (fun w' hSw => ?hya5) ?resta5
      case hya5 => ((try dsimp only at hSw); go_simp; try with_reducible rfl)
      case resta5 =>
      (try simp only [Act.put, List.setIfInBounds_toArray, List.set_cons_zero, List.set_cons_succ])
      refine wpEnds.take 6 11 (v := ?va6) rfl (by kernel_rfl) (by kernel_rfl) (by kernel_rfl) (by kernel_rfl) (by kernel_rfl) (fun _ _ _ h => h) (by rfl) hHeld (fun w' hSw => ?hya6) ?resta6
      case hya6 => ((try dsimp only at hSw); go_simp; try with_reducible rfl)
      case resta6 =>
      (try simp only [Act.put, List.setIfInBounds_toArray, List.set_cons_zero, List.set_cons_succ])
      refine wpEnds.one 7 (by kernel_rfl) rfl (fun K hK => ?_)
      go_simp
      refine hK.out _ _ ⟨((g_alloc_drew _ _).cell hbmlt).trans c1, ((g_alloc_drew _ _).cell hltr).trans x1, ((g_alloc_drew _ _).cell hblr).trans d0, ((g_alloc_drew _ _).cell hblr).trans d1, ((g_alloc_drew _ _).cell hblr).trans d2, ((g_alloc_drew _ _).cell hblr).trans d3⟩ ?_
      clear hK K
      (try simp only [Act.put, List.setIfInBounds_toArray, List.set_cons_zero, List.set_cons_succ])
      refine wpEnds.one 8 (by kernel_rfl) rfl (fun K hK => ?_)
      refine append_held (by rfl) _ _ 27 (by rfl) w2.heap.size 31 i0 _ 4 32 Tryd.underlying27 hi hz0 hz1 hz2 (by rfl) (by decide) (.slice ad k cn) k (nodeVals (N.nodes.take k)) (by rfl) ((HROW'.out.alloc _).drew) (some ⟨wr.heap.size, 0, none⟩) 1 1 [.int .i64 op, .int .i64 xa, .int .i64 xb, .int .i64 xn] (by rfl) (by intro h; cases h) (by rfl) (by rintro ad' h j' u hj'; cases h; rw [Addr.add_at]; exact (cell_new _ _ _ _).trans (by simpa using hj')) (by simp [Value.oneCell']) (by unfold maxLen; omega) (by omega) (by have := HBE.out.size; simp; omega) ?_
      intro av1 cv1 wb HPO HRN hgb
      have P := g_push (x := ⟨op, xa, xb, xn⟩) hbR2 HM.out HROW.out HBE.out (g_alloc_drew wr _) (by have h := hgb.out; rw [HLEN.out]; exact h) (by have h := HRN.out; rw [HLEN.out]; exact h)
      rw [HLEN.out] at P
      have cb : wb.cell? ⟨bR, 1, none⟩ = some (.slice ad k cn) := (cell_block P.1 1).trans rfl
      have hbfr := free_block P.1
      have hblt := boxLt P.1
      have HEND := hid P.2
      have hbwx : Below w2.heap.size w2 wb := ((HBE.out.trans ((g_alloc_drew wr _).mono HBE.out.size)).grown hgb.out (Nat.le_trans HBE.out.size (g_alloc_drew wr (.cells #[.int .i64 op, .int .i64 xa, .int .i64 xb, .int .i64 xn] 31)).size) (fun k hk => (HROW'.out.lt k hk).1))
      have y1 := (hbwx.cell (p := ⟨w.heap.size, 1, none⟩) hlt2).trans (((HBE.out.cell (p := ⟨w.heap.size, 1, none⟩) hlt2).symm).trans x1)
      have g0 := (hbwx.cell (p := ⟨b1, off + k * 4, none⟩) hb12).trans (((HBE.out.cell (p := ⟨b1, off + k * 4, none⟩) hb12).symm).trans d0)
      have g1 := (hbwx.cell (p := ⟨b1, off + k * 4 + 1, none⟩) hb12).trans (((HBE.out.cell (p := ⟨b1, off + k * 4 + 1, none⟩) hb12).symm).trans d1)
      have g2 := (hbwx.cell (p := ⟨b1, off + k * 4 + 2, none⟩) hb12).trans (((HBE.out.cell (p := ⟨b1, off + k * 4 + 2, none⟩) hb12).symm).trans d2)
      have g3 := (hbwx.cell (p := ⟨b1, off + k * 4 + 3, none⟩) hb12).trans (((HBE.out.cell (p := ⟨b1, off + k * 4 + 3, none⟩) hb12).symm).trans d3)
      clear P HPO HRN hgb hbwx
      refine hK.out _ _ ⟨cb, y1, g0, g1, g2, g3⟩ ?_
      clear hK K
      (try simp only [Act.put, List.setIfInBounds_toArray, List.set_cons_zero, List.set_cons_succ])
      refine wpEnds.take 9 11 (v := ?va9) rfl (by kernel_rfl) (by kernel_rfl) (by kernel_rfl) (by kernel_rfl) (by kernel_rfl) (fun _ _ _ h => h) (by rfl) ⟨cb, y1, g0, g1, g2, g3⟩ (fun w' hSw => ?hya9) ?resta9
      case hya9 => ((try dsimp only at hSw); go_simp; try with_reducible rfl)
      case resta9 =>
      (try simp only [Act.put, List.setIfInBounds_toArray, List.set_cons_zero, List.set_cons_succ])
      refine wpEnds.last 10 (by kernel_rfl) (by kernel_rfl) rfl (fun K hK => ?_)
      go_simp
      refine hK.out _ _ ?_
      clear hK K
      (try simp only [Act.put, List.setIfInBounds_toArray, List.set_cons_zero, List.set_cons_succ])
      go_wp2_with fail
      go_roundw
      case rel => exact ⟨k + 1, hlt, by go_num, by rw [HTK.out]; exact HEND.out⟩
      case measure => simp [intOf]; omega
    · obtain rfl : n = k := by omega
      have hall : N.nodes.take n = N.nodes := List.take_of_length_le (by rw [HN.out]; exact Nat.le_refl _)
      rw [hall] at hm hrow
      obtain ⟨ad, cn, hm, hrows⟩ := g_rows (B := B) (w := w) (w2 := w2) ⟨ad, cn, hbR2, hm, hrow, hbe⟩ H.out (by omega) (HBE0.out.mono hB |>.trans (hbe.mono (by omega))) HNo.out
      rw [HN.out] at hm
      have hbRlt := boxLt hm
      have HROWS := hid hrows
      have HNI := hid (h'.mono (show w.heap.size + 1 ≤ wr.heap.size by have := hbe.size; omega))
      have HBW := hid (HBE0.out.trans (hbe.mono (by omega)) : Below w.heap.size w wr)
      have HBOX := hid hm
      have hbR4 := hid hbRlt
      clear h' hbe hall hrows hrow hm HT' hlt hle
      obtain ⟨w4, rfl⟩ : ∃ wo : World, wo = wr := ⟨_, rfl⟩
      go_upto_region 9 with (go_at_call 5; (with_reducible refine (New_right _ _ _ _ _ _ N w4 HNI.out (Nat.le_refl _) HR.out).mono ?_); rintro e w5 ⟨sa, ra, rfl, hsa, hra, hsr, hsim, hbel⟩; have SK5 := hid (SimOk.mk' HNI.out HR.out hsa hra hsr hsim hbel (Nat.le_refl _)); have har := hid hra; clear hsim hsr hsa hra; have HNI5 := hid (HNI.out.stay hbel); have HROWS5 := hid (HROWS.out.stay hbel); have HB5 := hid (HBW.out.trans (hbel.mono HBW.out.size)); have HL5 := hid hbel; have HM5 := hid ((hbel.block bR hbRlt).trans HBOX.out); clear hbel x1)
      have x0 : w5.cell? ⟨bR, 0, none⟩ = some (.int .i64 g) := (cell_block HM5.out 0).trans rfl
      have x1 : w5.cell? ⟨bR, 1, none⟩ = some (.slice ad n cn) := (cell_block HM5.out 1).trans rfl
      have x2 : w5.cell? ⟨bR, 2, none⟩ = some (.slice a' no c') := (cell_block HM5.out 2).trans rfl
      have hbR5 := boxLt HM5.out
      have hle5 := HL5.out.size
      clear hbRlt e1
      go_cut [79] (fun s79 wx => s79 = .bool false ∧ Below w5.heap.size w5 wx)
      case first =>
        go_region_held3 (fun w' => w'.cell? ⟨bR, 0, none⟩ = some (.int .i64 g) ∧ w'.cell? ⟨bR, 1, none⟩ = some (.slice ad n cn) ∧ w'.cell? ⟨bR, 2, none⟩ = some (.slice a' no c') ∧ Below w5.heap.size w5 w')
          ((refine keep_box hbR5 x0 x1 x2 ?_; first | assumption | exact Below.refl _ _ | exact (Below.refl _ _).drew))
          (first
            | (go_at_call 6; (with_reducible refine (gRight HNI5.out HR.out hle5 (by first | assumption | exact Below.refl _ _ | exact (Below.refl _ _).drew)).mono ?_); rintro e wx ⟨rfl, hbx⟩)
            | (go_at_call 7; (with_reducible refine (rRight HROWS5.out HR.out HGV.out HN.out HNo.out hle5 (by first | assumption | exact Below.refl _ _ | exact (Below.refl _ _).drew)).mono ?_); rintro e wx ⟨rfl, hbx⟩)
            | (go_at_call 8; (with_reducible refine (gGates HNI5.out hle5 (by first | assumption | exact Below.refl _ _ | exact (Below.refl _ _).drew)).mono ?_); rintro e wx ⟨rfl, hbx⟩)
            | (go_at_call 9; (with_reducible refine (rGates HROWS5.out HGV.out HN.out HNo.out hle5 (by first | assumption | exact Below.refl _ _ | exact (Below.refl _ _).drew)).mono ?_); rintro e wx ⟨rfl, hbx⟩)
            | fail)
        all_goals (go_wp2_with fail; go_meet; exact ⟨rfl, by assumption⟩)
      case rest =>
      obtain ⟨rfl, hb6⟩ := hcut
      have SK6 := hid (SK5.out.stay hb6)
      have HL6 := hid (HL5.out.trans (hb6.mono hle5))
      have HM6 := hid ((hb6.block bR hbR5).trans HM5.out)
      have HROWS6 := hid (HROWS5.out.stay (hb6.mono hle5))
      clear hb6 x0 x1 x2 SK5 HROWS5 hle5 hbR5
      have x0 : wc.cell? ⟨bR, 0, none⟩ = some (.int .i64 g) := (cell_block HM6.out 0).trans rfl
      have x1 : wc.cell? ⟨bR, 1, none⟩ = some (.slice ad n cn) := (cell_block HM6.out 1).trans rfl
      have x2 : wc.cell? ⟨bR, 2, none⟩ = some (.slice a' no c') := (cell_block HM6.out 2).trans rfl
      go_wp2_with (go_at_call 11; (with_reducible refine (rFirst HROWS6.out HGV.out HN.out HNo.out HL6.out.size (by rw [HN.out]; omega)).mono ?_); rintro e w7 ⟨bs, rfl, hbs, hreg, hbel⟩; have SK7 := hid (SK6.out.stay hbel); have HL7 := hid (HL6.out.trans (hbel.mono HL6.out.size)); have hne := hid (show bs ≠ ra from fun h => by have := SK6.out.rlt; omega); have HREG := hid hreg; have hbs7 := hid (show bs < w7.heap.size by obtain ⟨D, h1, _⟩ := hreg; exact h1.lt); clear hbel hreg hbs SK6 HROWS6)
      have HM7 := hid ((HL7.out.block bR hbR4.out).trans HBOX.out)
      clear x0 x1 x2 HM6 HM5 HL6 HB5
      have GW := hid (HGR.out.stay (HBW.out.mono hB))
      have HB4 := hid (Nat.le_trans hB HBW.out.size)
      go_loopw [9, 10] (fun v9 v10 wr => GRel w4.heap.size w4 w.heap.size a c a' c' N sa ra ng v9 v10 wr) (fun _ v _ => ng - (intOf v).toNat)
      case atStart => exact ⟨0, _, _, Nat.zero_le _, rfl, rfl, SK7.out, HREG.out, hne.out, hbs7.out, HL7.out⟩
      case round =>
        obtain ⟨i, regs, bs, hle, rfl, rfl, hsk, hreg, hne, hbs, hbe⟩ := hrel
        have SKR := hid hsk
        have HREG := hid hreg
        have HNE := hid hne
        have HBS := hid hbs
        have HBE := hid hbe
        have GWR := hid (GW.out.stay (hbe.mono HB4.out))
        have HMR := hid ((hbe.block bR hbR4.out).trans HBOX.out)
        have HROWSR := hid (HROWS.out.stay hbe)
        clear hsk hreg hne hbs hbe
        by_cases hlt : i < ng
        · have hlti : (i : Int) < (ng : Int) := by omega
          have hrow := GWR.out.rows i (by rw [HNg.out]; exact hlt)
          have hlen := GWR.out.lens i
          obtain ⟨bg, og, rfl, hbg, hcg⟩ := GW.out.heads.at (by rw [HNg.out]; omega)
          have hg3 := hcg i (by rw [HNg.out]; exact hlt)
          have hbg4 : bg < w4.heap.size := by have := HB4.out; omega
          have hg1 := (HBE.out.cell (p := ⟨bg, og + i, none⟩) hbg4).trans hg3
          generalize gs.getD i [] = gv at hrow hlen hg1 hg3
          generalize A i = ai at hrow hg1 hg3
          generalize C i = ci at hg1 hg3
          have HG3 := hid hg3
          clear hcg hg3
          by_cases h11 : (1100 : Int) < (gv.length : Int)
          · go_wp2_with fail
            go_ret
            exact ⟨rfl, HBW.out.trans (HBE.out.mono HBW.out.size)⟩
          · have h11' : decide ((1100 : Int) < (gv.length : Int)) = false := decide_eq_false h11
            have HROW := hid hrow
            have HLEN := hid hlen
            have x0 : wr.cell? ⟨bR, 0, none⟩ = some (.int .i64 g) := (cell_block HMR.out 0).trans rfl
            have x1 : wr.cell? ⟨bR, 1, none⟩ = some (.slice ad n cn) := (cell_block HMR.out 1).trans rfl
            have x2 : wr.cell? ⟨bR, 2, none⟩ = some (.slice a' no c') := (cell_block HMR.out 2).trans rfl
            have hbRr := boxLt HMR.out
            have hbgr : bg < wr.heap.size := Nat.lt_of_lt_of_le hbg4 HBE.out.size
            have hlr := HBE.out.size
            have hgl : gv.length ≤ 1100 := by omega
            have hBr := hid (Nat.le_trans HB4.out hlr)
            clear hrow hlen h11
            go_upto_region 20 with fail
            go_cut [9, 11] (fun s9 s11 wx => ∃ bs', s9 = .map (some bs') ∧ wx.ownsRow wr.heap.size 4 1 s11 no ((N.outVals regs gv).map .bool) ∧ wr.heap.size ≤ bs' ∧ Regs wx bs' N.nodes (fun i => (N.regs' regs gv).getD i false) N.nodes.length ∧ Below wr.heap.size wr wx)
            case first =>
              go_region_held3 (fun w' => w'.cell? ⟨bR, 0, none⟩ = some (.int .i64 g) ∧ w'.cell? ⟨bR, 1, none⟩ = some (.slice ad n cn) ∧ w'.cell? ⟨bR, 2, none⟩ = some (.slice a' no c') ∧ w'.cell? ⟨bg, og + i, none⟩ = some (.slice ai gv.length ci) ∧ Below wr.heap.size wr w')
                ((refine keep_box1 hbRr hbgr x0 x1 x2 hg1 ?_; first | assumption | exact Below.refl _ _ | exact (Below.refl _ _).drew))
                (first
                  | (go_at_call 12; (with_reducible refine (rStep HROWSR.out HGV.out HN.out HNo.out hlr HR.out SKR.out.len HREG.out (by rw [HN.out]; omega) HBS.out (HROW.out.mono hBr.out) (by omega) (by first | assumption | exact Below.refl _ _ | exact (Below.refl _ _).drew)).mono ?_); rintro e wx ⟨v, bs', rfl, hown, hbs', hreg, hbx⟩)
                  | fail)
              all_goals (go_wp2_with fail; go_meet; exact ⟨_, rfl, by assumption, by assumption, by assumption, by assumption⟩)
            case rest =>
            obtain ⟨bs', rfl, hown, hbs', hreg, hbx⟩ := hcut
            obtain ⟨ao, co, rfl, hco⟩ := row_bits hown
            have SKX := hid (SKR.out.stay hbx)
            have HOWNX := hid hown
            have HREGX := hid hreg
            have HBX := hid (HBE.out.trans (hbx.mono hlr))
            have hszx := hbx.size
            have hgx := (hbx.cell (p := ⟨bg, og + i, none⟩) hbgr).trans hg1
            have hrlt := SKR.out.rlt
            have BA := hid (bits_of (r := ra) (HROW.out.stay (hbx.mono hBr.out)) HLEN.out (by have := hBr.out; omega) (by have := har.out; have := HB4.out; omega))
            have hbR20 := HB4.out
            have hol : (N.outVals regs gv).length = no := by rw [← HNo.out]; simp [Net.outVals]
            have hra4 := har.out
            clear hown hco hreg hbx hg1 x0 x1 x2
            go_wp2_with (first
              | (go_at_call 14; (with_reducible refine (sim_step _ _ _ _ _ _ _ _ _ _ _ _ _ _ SKX.out BA.out).mono ?_); rintro e wA ⟨v, rfl, hown, hrw, hgA⟩; obtain ⟨av, cv, rfl, hcv⟩ := row_bits (HNo.out ▸ hown); have HCV := hid hcv; have HCO := hid (bits_cells (owns_grown HOWNX.out hgA hrlt)); have SKA := hid (SKX.out.next hrw hgA); have HREGA := hid (HREGX.out.grown hgA (by omega)); have HBA := hid (HBX.out.trans (below_of_grown hgA (by omega) (by omega))); have hszA := hgA.size; clear hcv hown hrw hgA SKX HREGX)
              | (go_at_call 13; (with_reducible refine (sameBits_same hol (by unfold maxLen; omega) HCV.out HCO.out).mono ?_); rintro e wB ⟨rfl, hbB⟩; have SKB := hid (SKA.out.stay hbB); have HREGB := hid (HREGA.out.stay hbB (by have := HREGA.out; obtain ⟨D, h1, _⟩ := this; exact h1.lt)); have HBB := hid (HBA.out.trans (hbB.mono HBA.out.size)); have hszB := hbB.size; clear SKA HREGA hbB)
              | fail)
            go_roundw
            case rel => exact ⟨i + 1, _, _, by omega, by go_num, rfl, SKB.out, HREGB.out, by omega, by obtain ⟨D, h1, _⟩ := HREGB.out; exact h1.lt, HBB.out⟩
            case measure => simp [intOf]; omega
        · obtain rfl : i = ng := by omega
          go_wp2_with fail
          go_ret
          exact ⟨rfl, HBW.out.trans (HBE.out.mono HBW.out.size)⟩
theorem gateSteps_any (hgr : GivenRows B w ag gs A C) (h : NetRows B w a c a' c' N) (hB : B ≤ w.heap.size) (he : ErrType w) : Calls Tryd.prog 3 #[.agg #[.int .i64 N.given, .slice a N.nodes.length c, .slice a' N.outs.length c'], .slice ag gs.length cg] w (Yes w) := by
  by_cases hl : 60 < N.nodes.length ∨ 30 < N.outs.length ∨ 30 < gs.length ∨ (1000 < N.given ∧ N.given ≤ 20000)
  · exact gs_long a c a' c' N ag cg gs w hl
  · cases hr : N.right
    · by_cases hg : N.given ≤ 1000
      · exact gs_wrong1 B a c a' c' N ag cg gs w h hB (by omega) (by omega) (by omega) hg hr he
      · exact gs_wrong2 B a c a' c' N ag cg gs w h hB (by omega) (by omega) (by omega) (by omega) hr he
    · have hz := Net.right_sizes hr
      exact gs_right B a c a' c' N ag cg gs A C w hgr h hB (by omega) (by omega) (by omega) (by omega) hr
end
end Go.Proofs.YtlaeflpddehipaaDoor
