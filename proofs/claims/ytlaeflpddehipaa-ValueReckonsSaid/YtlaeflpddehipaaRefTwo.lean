/- The document's package on bits and bytes: Two, walked. -/
import Derived.Test.YtlaeflpddehipaaRefRes
import Derived.Test.YtlaeflpddehipaaRegion
import Derived.Deep.DeepCutAuto
set_option linter.unusedVariables false
namespace Go.Proofs.Ytlaeflpddehipaa
open Go.RowKit
attribute [local go_sem ↓] Go.wp_at_zero Go.wp_at_succ

theorem row_bits {w : World} {base n : Nat} {v : Value} {l : List Bool} (hn : l.length = n) (h : w.ownsRow base 4 1 v n (l.map .bool)) : ∃ a c, v = .slice a n c ∧ Cells w.heap.size w a n (fun j => .bool (l.getD j false)) := by
  obtain ⟨a, c, rfl, hnc, hc, hcells⟩ := Cells.of_owns h
  refine ⟨a, c, rfl, ?_⟩
  rw [Nat.mul_one] at hcells
  rcases hcells with h0 | ⟨b, off, ha, hb, hcell⟩
  · exact .inl h0
  · refine .inr ⟨b, off, ha, hb, fun j hj => (hcell j hj).trans ?_⟩
    subst hn
    simp [List.getD_eq_getElem?_getD, hj]
theorem rbits_row (k a : Int) (M : Nat) (hM : vwidth k = M) (w : World) :
    Calls Try.prog 45 #[.int .i64 k, .int .i64 a] w fun e w' => ∃ ax cx, e = .returned (.slice ax M cx) ∧ Cells w'.heap.size w' ax M (fun j => .bool (vbit a j)) ∧ Below w.heap.size w w' := by
  have hl : (vbits k a).length = M := by rw [vbits_len, hM]; rfl
  refine (rbits_any k a w).mono ?_
  rintro e w' ⟨v, rfl, hown, hb⟩
  rw [hl] at hown
  obtain ⟨ax, cx, rfl, hc⟩ := row_bits hl hown
  refine ⟨ax, cx, rfl, ?_, hb⟩
  rcases hc with h0 | ⟨b, off, ha, hb', hcell⟩
  · exact .inl h0
  · refine .inr ⟨b, off, ha, hb', fun j hj => (hcell j hj).trans ?_⟩
    unfold vbits at hl ⊢
    rw [List.length_map, List.length_range] at hl
    simp [List.getD_eq_getElem?_getD, hl, hj]
theorem rof_row (base : Nat) (v : Value) (n : Nat) (l : List Bool) (r : Int) (w : World) (hn : l.length = n) (hm : n ≤ 8) (hown : w.ownsRow base 4 1 v n (l.map .bool)) (h : Hid (vof l = r)) :
    Calls Try.prog 46 #[v] w fun e w' => e = .returned (.int .i64 r) ∧ w = w' := by
  have h' : vof l = r := h
  obtain ⟨a, c, rfl, hc⟩ := row_bits hn hown
  rw [← h']
  exact rof_any w.heap.size a n c l w hn.symm (by unfold maxLen; omega) hc
theorem mixTo_len (o : Nat) (a b : Int) (j : Nat) : (mixTo o a b j).length = j := by unfold mixTo; simp
theorem res_width {o : Nat} {k : Int} (h : ¬ resultOf o k k = 0) : ∃ M : Nat, vwidth k = M ∧ 1 ≤ M ∧ M ≤ 8 := by
  have hw := vwidth_le k
  refine ⟨(vwidth k).toNat, by omega, ?_, by omega⟩
  have : ¬ vwidth k = 0 := by
    intro h0
    apply h
    unfold resultOf
    rw [if_pos (.inr h0)]
  omega
theorem keep_two_b {w3 w' : World} {b1 k1 b2 k2 : Nat} {x y : Value} (h1 : b1 < w3.heap.size) (c1 : w3.cell? ⟨b1, k1, none⟩ = some x) (h2 : b2 < w3.heap.size) (c2 : w3.cell? ⟨b2, k2, none⟩ = some y) (h : Below w3.heap.size w3 w') :
    w'.cell? ⟨b1, k1, none⟩ = some x ∧ w'.cell? ⟨b2, k2, none⟩ = some y ∧ Below w3.heap.size w3 w' :=
  ⟨(h.cell (p := ⟨b1, k1, none⟩) h1).trans c1, (h.cell (p := ⟨b2, k2, none⟩) h2).trans c2, h⟩

theorem rtwo_zero (op : ByteArray) (hop : op.size ≤ 20) (k a b m : Int) (h : resultOf (opOf op) k k = 0) (w : World) (hm : w.cell? ⟨0, 0, none⟩ = some (.int .i64 m)) :
    Calls Try.prog 48 #[.string op, .int .i64 k, .int .i64 a, .int .i64 b] w (Res (twoOf (opOf op) k a b) w) := by
  rw [twoOf_zero _ _ _ _ h]
  have hz : (vresult op k k == 0) = true := by simpa [vresult] using h
  have HM := hid hm
  clear h hm
  go_enter Try.func48, Try.ntmps48
  go_wp2_with (go_at_call 47; (with_reducible refine (rresult_any _ hop _ _ m _ HM.out).mono ?_); rintro e w1 ⟨rfl, hb1⟩; have HB1 := hid hb1; clear hb1)
  go_ret
  exact ⟨rfl, HB1.out⟩

set_option maxRecDepth 100000 in
set_option maxHeartbeats 3200000 in
theorem rtwo_and (k a b m : Int) (h : ¬ resultOf 1 k k = 0) (w : World) (hm : w.cell? ⟨0, 0, none⟩ = some (.int .i64 m)) :
    Calls Try.prog 48 #[.string ⟨#[97, 110, 100]⟩, .int .i64 k, .int .i64 a, .int .i64 b] w (Res (twoOf 1 k a b) w) := by
  obtain ⟨i0, hi, hz0, hz1, hz2⟩ := info_parts Try.infoBool
  have hz : (vresult ⟨#[97, 110, 100]⟩ k k == 0) = false := by simpa [vresult, opOf_and] using h
  obtain ⟨M, hM, hM1, hM8⟩ := res_width h
  have HMW := hid hM
  have HM := hid hm
  have ba := vcut_bd k a
  have bb := vcut_bd k b
  obtain ⟨ba0, ba1⟩ := ba
  obtain ⟨bb0, bb1⟩ := bb
  have hr : Hid (vof (mixTo 1 a b M) = twoOf 1 k a b) := by
    have h0 : ¬ vwidth k = 0 := by rw [hM]; omega
    have := two_mix 1 (by omega) k a b h0
    rw [hM] at this
    exact this
  clear h hm hM
  go_enter Try.func48, Try.ntmps48
  go_wp2_with (first
    | (go_at_call 47; (with_reducible refine (rresult_any _ (by decide) _ _ m _ HM.out).mono ?_); rintro e w1 ⟨rfl, hb1⟩; have HB1 := hid hb1; clear hb1)
    | (go_at_call 45; (with_reducible refine (rbits_row k a M HMW.out _).mono ?_); rintro e w2 ⟨ax, cx, rfl, hcx, hb2⟩; have HX := hid hcx; have HB2 := hid (HB1.out.trans (hb2.mono HB1.out.size)); clear hcx hb2)
    | (go_at_call 45; (with_reducible refine (rbits_row k b M HMW.out _).mono ?_); rintro e w3 ⟨ay, cy, rfl, hcy, hb3⟩; have HX3 := hid ((HX.out.stay hb3).mono hb3.size); have HY3 := hid hcy; have HB3 := hid (HB2.out.trans (hb3.mono HB2.out.size)); clear hcy hb3)
    | (go_at_call 43; (with_reducible refine (rcut_any k a _).mono ?_); rintro e w' ⟨rfl, rfl⟩)
    | (go_at_call 43; (with_reducible refine (rcut_any k b _).mono ?_); rintro e w' ⟨rfl, rfl⟩)
    | (go_at_call 43; (with_reducible refine (rcut_any k _ _).mono ?_); rintro e w' ⟨rfl, rfl⟩))
  have hbw3 := HB3.out.size
  go_loopw [11, 33] (fun s11 s33 wr => ∃ (j : Nat) (av : Option Addr) (cv : Nat), j ≤ M ∧ s33 = .int .i64 j ∧ s11 = .slice av j cv ∧ wr.ownsRow w3.heap.size 4 1 (.slice av j cv) j ((mixTo 1 a b j).map .bool) ∧ Below w3.heap.size w3 wr) (fun _ s33 _ => M - (intOf s33).toNat)
  case atStart => exact ⟨0, none, 0, Nat.zero_le _, rfl, rfl, World.ownsRow_nil _ _ _ _, Below.refl _ _⟩
  case round =>
    obtain ⟨j, av, cv, hj, rfl, rfl, hown, hbel⟩ := hrel
    by_cases hlt : j < M
    · have h2 : (0 : Int) ≤ (j : Int) := by omega
      have hltI : (j : Int) < (M : Int) := by omega
      have hsz := hbel.size
      obtain ⟨bx, ox, rfl, hbx, hcx⟩ := HX3.out.at (by omega)
      obtain ⟨by', oy, rfl, hby, hcy⟩ := HY3.out.at (by omega)
      have k1 := hcx j hlt
      have k2 := hcy j hlt
      have g1 := (hbel.cell (p := ⟨bx, ox + j, none⟩) hbx).trans k1
      have g2 := (hbel.cell (p := ⟨by', oy + j, none⟩) hby).trans k2
      have HS := hid (mixTo_succ 1 a b j)
      have HL := hid (mixTo_len 1 a b j)
      generalize mixTo 1 a b j = lj at *
      clear hcx hcy
      have HOWN := hid hown
      have HBEL := hid hbel
      clear hown hbel
      cases hvx : vbit a j <;> cases hvy : vbit b j
      all_goals
        rw [hvx, hvy] at HS
        rw [hvx] at k1 g1
        rw [hvy] at k2 g2
        have K1 := hid k1
        have K2 := hid k2
        clear hvx hvy k1 k2
        go_wp2_with (at_builtin; refine wpList_push _ w3 wr rfl _ _ 41 rfl 4 i0 (.bool false) 1 1 Try.underlying41 hi hz0 hz1 hz2 rfl (by decide) w3.heap.size _ _ _ rfl HOWN.out 1 1 _ rfl rfl rfl rfl (by unfold maxLen; omega) (by omega) HBEL.out (Nat.le_refl _) hsz ?_)
        intro v' w4 hown' hbel' _ _
        obtain ⟨av', cv', rfl⟩ := owns_slice hown'
        have HO' := hid hown'
        clear hown'
        go_wp2_with fail
        go_roundw
        case rel =>
          refine ⟨j + 1, av', cv', by omega, by go_num, by first | trivial | rfl, ?_, hbel'⟩
          rw [HS.out, List.map_append]
          exact HO'.out
        case measure => simp [intOf]; omega
    · obtain rfl : j = M := by omega
      have HOWN := hid hown
      have HBF := hid (HB3.out.trans (hbel.mono hbw3))
      have HL := hid (mixTo_len 1 a b j)
      have hl2 : (vcut k a == vcut k b) = decide (vcut k a = vcut k b) := by rw [Bool.eq_iff_iff]; simp
      have hjz : (0 : Int) < (j : Int) := by omega
      clear hown hbel hl2
      go_wp2_with (go_at_call 46; (with_reducible refine (rof_row _ _ j (mixTo 1 a b j) _ _ HL.out hM8 HOWN.out hr).mono ?_); rintro e w' ⟨rfl, rfl⟩)
      go_ret
      exact ⟨rfl, HBF.out⟩

set_option maxRecDepth 100000 in
set_option maxHeartbeats 3200000 in
theorem rtwo_or (k a b m : Int) (h : ¬ resultOf 2 k k = 0) (w : World) (hm : w.cell? ⟨0, 0, none⟩ = some (.int .i64 m)) :
    Calls Try.prog 48 #[.string ⟨#[111, 114]⟩, .int .i64 k, .int .i64 a, .int .i64 b] w (Res (twoOf 2 k a b) w) := by
  obtain ⟨i0, hi, hz0, hz1, hz2⟩ := info_parts Try.infoBool
  have hz : (vresult ⟨#[111, 114]⟩ k k == 0) = false := by simpa [vresult, opOf_or] using h
  obtain ⟨M, hM, hM1, hM8⟩ := res_width h
  have HMW := hid hM
  have HM := hid hm
  have ba := vcut_bd k a
  have bb := vcut_bd k b
  obtain ⟨ba0, ba1⟩ := ba
  obtain ⟨bb0, bb1⟩ := bb
  have hr : Hid (vof (mixTo 2 a b M) = twoOf 2 k a b) := by
    have h0 : ¬ vwidth k = 0 := by rw [hM]; omega
    have := two_mix 2 (by omega) k a b h0
    rw [hM] at this
    exact this
  clear h hm hM
  go_enter Try.func48, Try.ntmps48
  go_wp2_with (first
    | (go_at_call 47; (with_reducible refine (rresult_any _ (by decide) _ _ m _ HM.out).mono ?_); rintro e w1 ⟨rfl, hb1⟩; have HB1 := hid hb1; clear hb1)
    | (go_at_call 45; (with_reducible refine (rbits_row k a M HMW.out _).mono ?_); rintro e w2 ⟨ax, cx, rfl, hcx, hb2⟩; have HX := hid hcx; have HB2 := hid (HB1.out.trans (hb2.mono HB1.out.size)); clear hcx hb2)
    | (go_at_call 45; (with_reducible refine (rbits_row k b M HMW.out _).mono ?_); rintro e w3 ⟨ay, cy, rfl, hcy, hb3⟩; have HX3 := hid ((HX.out.stay hb3).mono hb3.size); have HY3 := hid hcy; have HB3 := hid (HB2.out.trans (hb3.mono HB2.out.size)); clear hcy hb3)
    | (go_at_call 43; (with_reducible refine (rcut_any k a _).mono ?_); rintro e w' ⟨rfl, rfl⟩)
    | (go_at_call 43; (with_reducible refine (rcut_any k b _).mono ?_); rintro e w' ⟨rfl, rfl⟩)
    | (go_at_call 43; (with_reducible refine (rcut_any k _ _).mono ?_); rintro e w' ⟨rfl, rfl⟩))
  have hbw3 := HB3.out.size
  go_loopw [11, 33] (fun s11 s33 wr => ∃ (j : Nat) (av : Option Addr) (cv : Nat), j ≤ M ∧ s33 = .int .i64 j ∧ s11 = .slice av j cv ∧ wr.ownsRow w3.heap.size 4 1 (.slice av j cv) j ((mixTo 2 a b j).map .bool) ∧ Below w3.heap.size w3 wr) (fun _ s33 _ => M - (intOf s33).toNat)
  case atStart => exact ⟨0, none, 0, Nat.zero_le _, rfl, rfl, World.ownsRow_nil _ _ _ _, Below.refl _ _⟩
  case round =>
    obtain ⟨j, av, cv, hj, rfl, rfl, hown, hbel⟩ := hrel
    by_cases hlt : j < M
    · have h2 : (0 : Int) ≤ (j : Int) := by omega
      have hltI : (j : Int) < (M : Int) := by omega
      have hsz := hbel.size
      obtain ⟨bx, ox, rfl, hbx, hcx⟩ := HX3.out.at (by omega)
      obtain ⟨by', oy, rfl, hby, hcy⟩ := HY3.out.at (by omega)
      have k1 := hcx j hlt
      have k2 := hcy j hlt
      have g1 := (hbel.cell (p := ⟨bx, ox + j, none⟩) hbx).trans k1
      have g2 := (hbel.cell (p := ⟨by', oy + j, none⟩) hby).trans k2
      have HS := hid (mixTo_succ 2 a b j)
      have HL := hid (mixTo_len 2 a b j)
      generalize mixTo 2 a b j = lj at *
      clear hcx hcy
      have HOWN := hid hown
      have HBEL := hid hbel
      clear hown hbel
      cases hvx : vbit a j <;> cases hvy : vbit b j
      all_goals
        rw [hvx, hvy] at HS
        rw [hvx] at k1 g1
        rw [hvy] at k2 g2
        have K1 := hid k1
        have K2 := hid k2
        clear hvx hvy k1 k2
        go_wp2_with (at_builtin; refine wpList_push _ w3 wr rfl _ _ 41 rfl 4 i0 (.bool false) 1 1 Try.underlying41 hi hz0 hz1 hz2 rfl (by decide) w3.heap.size _ _ _ rfl HOWN.out 1 1 _ rfl rfl rfl rfl (by unfold maxLen; omega) (by omega) HBEL.out (Nat.le_refl _) hsz ?_)
        intro v' w4 hown' hbel' _ _
        obtain ⟨av', cv', rfl⟩ := owns_slice hown'
        have HO' := hid hown'
        clear hown'
        go_wp2_with fail
        go_roundw
        case rel =>
          refine ⟨j + 1, av', cv', by omega, by go_num, by first | trivial | rfl, ?_, hbel'⟩
          rw [HS.out, List.map_append]
          exact HO'.out
        case measure => simp [intOf]; omega
    · obtain rfl : j = M := by omega
      have HOWN := hid hown
      have HBF := hid (HB3.out.trans (hbel.mono hbw3))
      have HL := hid (mixTo_len 2 a b j)
      have hl2 : (vcut k a == vcut k b) = decide (vcut k a = vcut k b) := by rw [Bool.eq_iff_iff]; simp
      have hjz : (0 : Int) < (j : Int) := by omega
      clear hown hbel hl2
      go_wp2_with (go_at_call 46; (with_reducible refine (rof_row _ _ j (mixTo 2 a b j) _ _ HL.out hM8 HOWN.out hr).mono ?_); rintro e w' ⟨rfl, rfl⟩)
      go_ret
      exact ⟨rfl, HBF.out⟩

set_option maxRecDepth 100000 in
set_option maxHeartbeats 3200000 in
theorem rtwo_xor (k a b m : Int) (h : ¬ resultOf 3 k k = 0) (w : World) (hm : w.cell? ⟨0, 0, none⟩ = some (.int .i64 m)) :
    Calls Try.prog 48 #[.string ⟨#[120, 111, 114]⟩, .int .i64 k, .int .i64 a, .int .i64 b] w (Res (twoOf 3 k a b) w) := by
  obtain ⟨i0, hi, hz0, hz1, hz2⟩ := info_parts Try.infoBool
  have hz : (vresult ⟨#[120, 111, 114]⟩ k k == 0) = false := by simpa [vresult, opOf_xor] using h
  obtain ⟨M, hM, hM1, hM8⟩ := res_width h
  have HMW := hid hM
  have HM := hid hm
  have ba := vcut_bd k a
  have bb := vcut_bd k b
  obtain ⟨ba0, ba1⟩ := ba
  obtain ⟨bb0, bb1⟩ := bb
  have hr : Hid (vof (mixTo 3 a b M) = twoOf 3 k a b) := by
    have h0 : ¬ vwidth k = 0 := by rw [hM]; omega
    have := two_mix 3 (by omega) k a b h0
    rw [hM] at this
    exact this
  clear h hm hM
  go_enter Try.func48, Try.ntmps48
  go_wp2_with (first
    | (go_at_call 47; (with_reducible refine (rresult_any _ (by decide) _ _ m _ HM.out).mono ?_); rintro e w1 ⟨rfl, hb1⟩; have HB1 := hid hb1; clear hb1)
    | (go_at_call 45; (with_reducible refine (rbits_row k a M HMW.out _).mono ?_); rintro e w2 ⟨ax, cx, rfl, hcx, hb2⟩; have HX := hid hcx; have HB2 := hid (HB1.out.trans (hb2.mono HB1.out.size)); clear hcx hb2)
    | (go_at_call 45; (with_reducible refine (rbits_row k b M HMW.out _).mono ?_); rintro e w3 ⟨ay, cy, rfl, hcy, hb3⟩; have HX3 := hid ((HX.out.stay hb3).mono hb3.size); have HY3 := hid hcy; have HB3 := hid (HB2.out.trans (hb3.mono HB2.out.size)); clear hcy hb3)
    | (go_at_call 43; (with_reducible refine (rcut_any k a _).mono ?_); rintro e w' ⟨rfl, rfl⟩)
    | (go_at_call 43; (with_reducible refine (rcut_any k b _).mono ?_); rintro e w' ⟨rfl, rfl⟩)
    | (go_at_call 43; (with_reducible refine (rcut_any k _ _).mono ?_); rintro e w' ⟨rfl, rfl⟩))
  have hbw3 := HB3.out.size
  go_loopw [11, 33] (fun s11 s33 wr => ∃ (j : Nat) (av : Option Addr) (cv : Nat), j ≤ M ∧ s33 = .int .i64 j ∧ s11 = .slice av j cv ∧ wr.ownsRow w3.heap.size 4 1 (.slice av j cv) j ((mixTo 3 a b j).map .bool) ∧ Below w3.heap.size w3 wr) (fun _ s33 _ => M - (intOf s33).toNat)
  case atStart => exact ⟨0, none, 0, Nat.zero_le _, rfl, rfl, World.ownsRow_nil _ _ _ _, Below.refl _ _⟩
  case round =>
    obtain ⟨j, av, cv, hj, rfl, rfl, hown, hbel⟩ := hrel
    by_cases hlt : j < M
    · have h2 : (0 : Int) ≤ (j : Int) := by omega
      have hltI : (j : Int) < (M : Int) := by omega
      have hsz := hbel.size
      obtain ⟨bx, ox, rfl, hbx, hcx⟩ := HX3.out.at (by omega)
      obtain ⟨by', oy, rfl, hby, hcy⟩ := HY3.out.at (by omega)
      have k1 := hcx j hlt
      have k2 := hcy j hlt
      have g1 := (hbel.cell (p := ⟨bx, ox + j, none⟩) hbx).trans k1
      have g2 := (hbel.cell (p := ⟨by', oy + j, none⟩) hby).trans k2
      have HS := hid (mixTo_succ 3 a b j)
      have HL := hid (mixTo_len 3 a b j)
      generalize mixTo 3 a b j = lj at *
      clear hcx hcy
      have HOWN := hid hown
      have HBEL := hid hbel
      clear hown hbel
      obtain ⟨X, hvx⟩ : ∃ X, vbit a j = X := ⟨_, rfl⟩
      obtain ⟨Y, hvy⟩ : ∃ Y, vbit b j = Y := ⟨_, rfl⟩
      rw [hvx, hvy] at HS
      rw [hvx] at k1 g1
      rw [hvy] at k2 g2
      have K1 := hid k1
      have K2 := hid k2
      clear hvx hvy k1 k2
      go_upto_region 15 with fail
      have hbS := HBEL.out
      go_region_held3 (fun w' => w'.cell? ⟨bx, ox + j, none⟩ = some (.bool X) ∧ w'.cell? ⟨by', oy + j, none⟩ = some (.bool Y) ∧ Below w3.heap.size w3 w')
        ((refine keep_two_b hbx K1.out hby K2.out ?_; repeat (first | with_reducible exact hbS | with_reducible refine Below.drew ?_ | with_reducible refine Below.alloc ?_ (by first | exact hsz | (simp; omega) | fail) _ | assumption)))
        (first | ((refine step_append_src (by rfl) _ _ 41 (by rfl) w3.heap.size 4 i0 _ 1 1 Try.underlying41 hi hz0 hz1 hz2 (by rfl) (by decide) (.slice av j cv) j (lj.map .bool) (by rfl) ?_ (some ⟨wr.heap.size, 0, none⟩) 1 1 [.bool (!(X == Y))] (by rfl) (by intro h; cases h) (by rfl) ?_ (by simp [Value.oneCell']) (by unfold maxLen; omega) (by omega) ?_ ?_); (focus (first | exact (HOWN.out.alloc _).drew | exact HOWN.out.alloc _ | exact (HOWN.out.drew).alloc _ | fail)); (focus (rintro ad' h j' u hj'; cases h; rw [Addr.add_at]; exact (cell_new _ _ _ _).trans (by simpa using hj'))); (focus (first | (simp; done) | (simp; omega) | fail)); intro av' cv' wb hown' hgb; have HO' := hid hown'.out; (have hbel' : Below w3.heap.size w3 wb := by (first | exact (Below.alloc hbS hsz _).grown hgb.out (by simp; omega) (fun k hk => (HOWN.out.lt k hk).1) | exact (Below.drew (Below.alloc hbS hsz _)).grown hgb.out (by simp; omega) (fun k hk => (HOWN.out.lt k hk).1) | fail))) | fail)
      go_wp2_with fail
      go_roundw
      case rel =>
        refine ⟨j + 1, av', cv', by omega, by go_num, by first | trivial | rfl, ?_, hbel'⟩
        rw [HS.out, List.map_append]
        exact HO'.out
      case measure => simp [intOf]; omega
    · obtain rfl : j = M := by omega
      have HOWN := hid hown
      have HBF := hid (HB3.out.trans (hbel.mono hbw3))
      have HL := hid (mixTo_len 3 a b j)
      have hl2 : (vcut k a == vcut k b) = decide (vcut k a = vcut k b) := by rw [Bool.eq_iff_iff]; simp
      have hjz : (0 : Int) < (j : Int) := by omega
      clear hown hbel hl2
      go_wp2_with (go_at_call 46; (with_reducible refine (rof_row _ _ j (mixTo 3 a b j) _ _ HL.out hM8 HOWN.out hr).mono ?_); rintro e w' ⟨rfl, rfl⟩)
      go_ret
      exact ⟨rfl, HBF.out⟩

set_option maxRecDepth 100000 in
set_option maxHeartbeats 3200000 in
theorem rtwo_eq (k a b m : Int) (h : ¬ resultOf 4 k k = 0) (w : World) (hm : w.cell? ⟨0, 0, none⟩ = some (.int .i64 m)) :
    Calls Try.prog 48 #[.string ⟨#[61]⟩, .int .i64 k, .int .i64 a, .int .i64 b] w (Res (twoOf 4 k a b) w) := by
  have hz : (vresult ⟨#[61]⟩ k k == 0) = false := by simpa [vresult, opOf_eq] using h
  obtain ⟨M, hM, hM1, hM8⟩ := res_width h
  have HMW := hid hM
  have HM := hid hm
  have ba := vcut_bd k a
  have bb := vcut_bd k b
  obtain ⟨ba0, ba1⟩ := ba
  obtain ⟨bb0, bb1⟩ := bb
  have hr : Hid (twoOf 4 k a b = b01 (vcut k a == vcut k b)) := if_neg h
  clear h hm hM
  go_enter Try.func48, Try.ntmps48
  go_wp2_with (first
    | (go_at_call 47; (with_reducible refine (rresult_any _ (by decide) _ _ m _ HM.out).mono ?_); rintro e w1 ⟨rfl, hb1⟩; have HB1 := hid hb1; clear hb1)
    | (go_at_call 45; (with_reducible refine (rbits_row k a M HMW.out _).mono ?_); rintro e w2 ⟨ax, cx, rfl, hcx, hb2⟩; have HX := hid hcx; have HB2 := hid (HB1.out.trans (hb2.mono HB1.out.size)); clear hcx hb2)
    | (go_at_call 45; (with_reducible refine (rbits_row k b M HMW.out _).mono ?_); rintro e w3 ⟨ay, cy, rfl, hcy, hb3⟩; have HX3 := hid ((HX.out.stay hb3).mono hb3.size); have HY3 := hid hcy; have HB3 := hid (HB2.out.trans (hb3.mono HB2.out.size)); clear hcy hb3)
    | (go_at_call 43; (with_reducible refine (rcut_any k a _).mono ?_); rintro e w' ⟨rfl, rfl⟩)
    | (go_at_call 43; (with_reducible refine (rcut_any k b _).mono ?_); rintro e w' ⟨rfl, rfl⟩)
    | (go_at_call 43; (with_reducible refine (rcut_any k _ _).mono ?_); rintro e w' ⟨rfl, rfl⟩))
  go_loop [11, 33] (fun s11 s33 => ∃ j : Nat, j ≤ M ∧ s33 = .int .i64 j ∧ s11 = .slice none 0 0) (fun _ s33 => M - (intOf s33).toNat)
  case atStart => exact ⟨0, Nat.zero_le _, rfl, rfl⟩
  case round =>
    obtain ⟨j, hj, rfl, rfl⟩ := hrel
    by_cases hlt : j < M
    · have hltI : (j : Int) < (M : Int) := by omega
      go_wp2_with fail
      go_round
      case rel => exact ⟨j + 1, by omega, by go_num, by first | trivial | rfl⟩
      case measure => simp [intOf]; omega
    · obtain rfl : j = M := by omega
      obtain ⟨x, hx⟩ : ∃ x, vcut k a = x := ⟨_, rfl⟩
      obtain ⟨y, hy⟩ : ∃ y, vcut k b = y := ⟨_, rfl⟩
      rw [hx, hy] at hr
      rw [hx] at ba0 ba1 ⊢
      rw [hy] at bb0 bb1 ⊢
      clear hx hy
      by_cases hc : x = y
      · have hc' : (x == y) = true := by simp [hc]
        have E : Hid (twoOf 4 k a b = 1) := by
          unfold Hid
          rw [hr.out]
          simp [b01, hc]
        clear hc hr
        go_wp2_with fail
        go_ret
        exact ⟨ret_int E.out.symm, HB3.out⟩
      · have hc' : (x == y) = false := by simp [hc]
        have E : Hid (twoOf 4 k a b = 0) := by
          unfold Hid
          rw [hr.out]
          simp [b01, hc]
        clear hc hr
        go_wp2_with fail
        go_ret
        exact ⟨ret_int E.out.symm, HB3.out⟩

set_option maxRecDepth 100000 in
set_option maxHeartbeats 3200000 in
theorem rtwo_ne (k a b m : Int) (h : ¬ resultOf 5 k k = 0) (w : World) (hm : w.cell? ⟨0, 0, none⟩ = some (.int .i64 m)) :
    Calls Try.prog 48 #[.string ⟨#[60, 62]⟩, .int .i64 k, .int .i64 a, .int .i64 b] w (Res (twoOf 5 k a b) w) := by
  have hz : (vresult ⟨#[60, 62]⟩ k k == 0) = false := by simpa [vresult, opOf_ne] using h
  obtain ⟨M, hM, hM1, hM8⟩ := res_width h
  have HMW := hid hM
  have HM := hid hm
  have ba := vcut_bd k a
  have bb := vcut_bd k b
  obtain ⟨ba0, ba1⟩ := ba
  obtain ⟨bb0, bb1⟩ := bb
  have hr : Hid (twoOf 5 k a b = b01 (vcut k a != vcut k b)) := if_neg h
  clear h hm hM
  go_enter Try.func48, Try.ntmps48
  go_wp2_with (first
    | (go_at_call 47; (with_reducible refine (rresult_any _ (by decide) _ _ m _ HM.out).mono ?_); rintro e w1 ⟨rfl, hb1⟩; have HB1 := hid hb1; clear hb1)
    | (go_at_call 45; (with_reducible refine (rbits_row k a M HMW.out _).mono ?_); rintro e w2 ⟨ax, cx, rfl, hcx, hb2⟩; have HX := hid hcx; have HB2 := hid (HB1.out.trans (hb2.mono HB1.out.size)); clear hcx hb2)
    | (go_at_call 45; (with_reducible refine (rbits_row k b M HMW.out _).mono ?_); rintro e w3 ⟨ay, cy, rfl, hcy, hb3⟩; have HX3 := hid ((HX.out.stay hb3).mono hb3.size); have HY3 := hid hcy; have HB3 := hid (HB2.out.trans (hb3.mono HB2.out.size)); clear hcy hb3)
    | (go_at_call 43; (with_reducible refine (rcut_any k a _).mono ?_); rintro e w' ⟨rfl, rfl⟩)
    | (go_at_call 43; (with_reducible refine (rcut_any k b _).mono ?_); rintro e w' ⟨rfl, rfl⟩)
    | (go_at_call 43; (with_reducible refine (rcut_any k _ _).mono ?_); rintro e w' ⟨rfl, rfl⟩))
  go_loop [11, 33] (fun s11 s33 => ∃ j : Nat, j ≤ M ∧ s33 = .int .i64 j ∧ s11 = .slice none 0 0) (fun _ s33 => M - (intOf s33).toNat)
  case atStart => exact ⟨0, Nat.zero_le _, rfl, rfl⟩
  case round =>
    obtain ⟨j, hj, rfl, rfl⟩ := hrel
    by_cases hlt : j < M
    · have hltI : (j : Int) < (M : Int) := by omega
      go_wp2_with fail
      go_round
      case rel => exact ⟨j + 1, by omega, by go_num, by first | trivial | rfl⟩
      case measure => simp [intOf]; omega
    · obtain rfl : j = M := by omega
      obtain ⟨x, hx⟩ : ∃ x, vcut k a = x := ⟨_, rfl⟩
      obtain ⟨y, hy⟩ : ∃ y, vcut k b = y := ⟨_, rfl⟩
      rw [hx, hy] at hr
      rw [hx] at ba0 ba1 ⊢
      rw [hy] at bb0 bb1 ⊢
      clear hx hy
      by_cases hc : x = y
      · have hc' : (x == y) = true := by simp [hc]
        have hc2 : (x != y) = false := by simp [hc]
        have E : Hid (twoOf 5 k a b = 0) := by
          unfold Hid
          rw [hr.out]
          simp [b01, hc]
        clear hc hr
        go_wp2_with fail
        go_ret
        exact ⟨ret_int E.out.symm, HB3.out⟩
      · have hc' : (x == y) = false := by simp [hc]
        have hc2 : (x != y) = true := by simp [hc]
        have E : Hid (twoOf 5 k a b = 1) := by
          unfold Hid
          rw [hr.out]
          simp [b01, hc]
        clear hc hr
        go_wp2_with fail
        go_ret
        exact ⟨ret_int E.out.symm, HB3.out⟩

set_option maxRecDepth 100000 in
set_option maxHeartbeats 3200000 in
theorem rtwo_lt (k a b m : Int) (h : ¬ resultOf 6 k k = 0) (w : World) (hm : w.cell? ⟨0, 0, none⟩ = some (.int .i64 m)) :
    Calls Try.prog 48 #[.string ⟨#[60]⟩, .int .i64 k, .int .i64 a, .int .i64 b] w (Res (twoOf 6 k a b) w) := by
  have hz : (vresult ⟨#[60]⟩ k k == 0) = false := by simpa [vresult, opOf_lt] using h
  obtain ⟨M, hM, hM1, hM8⟩ := res_width h
  have HMW := hid hM
  have HM := hid hm
  have ba := vcut_bd k a
  have bb := vcut_bd k b
  obtain ⟨ba0, ba1⟩ := ba
  obtain ⟨bb0, bb1⟩ := bb
  have hr : Hid (twoOf 6 k a b = b01 (decide (vcut k a < vcut k b))) := if_neg h
  clear h hm hM
  go_enter Try.func48, Try.ntmps48
  go_wp2_with (first
    | (go_at_call 47; (with_reducible refine (rresult_any _ (by decide) _ _ m _ HM.out).mono ?_); rintro e w1 ⟨rfl, hb1⟩; have HB1 := hid hb1; clear hb1)
    | (go_at_call 45; (with_reducible refine (rbits_row k a M HMW.out _).mono ?_); rintro e w2 ⟨ax, cx, rfl, hcx, hb2⟩; have HX := hid hcx; have HB2 := hid (HB1.out.trans (hb2.mono HB1.out.size)); clear hcx hb2)
    | (go_at_call 45; (with_reducible refine (rbits_row k b M HMW.out _).mono ?_); rintro e w3 ⟨ay, cy, rfl, hcy, hb3⟩; have HX3 := hid ((HX.out.stay hb3).mono hb3.size); have HY3 := hid hcy; have HB3 := hid (HB2.out.trans (hb3.mono HB2.out.size)); clear hcy hb3)
    | (go_at_call 43; (with_reducible refine (rcut_any k a _).mono ?_); rintro e w' ⟨rfl, rfl⟩)
    | (go_at_call 43; (with_reducible refine (rcut_any k b _).mono ?_); rintro e w' ⟨rfl, rfl⟩)
    | (go_at_call 43; (with_reducible refine (rcut_any k _ _).mono ?_); rintro e w' ⟨rfl, rfl⟩))
  go_loop [11, 33] (fun s11 s33 => ∃ j : Nat, j ≤ M ∧ s33 = .int .i64 j ∧ s11 = .slice none 0 0) (fun _ s33 => M - (intOf s33).toNat)
  case atStart => exact ⟨0, Nat.zero_le _, rfl, rfl⟩
  case round =>
    obtain ⟨j, hj, rfl, rfl⟩ := hrel
    by_cases hlt : j < M
    · have hltI : (j : Int) < (M : Int) := by omega
      go_wp2_with fail
      go_round
      case rel => exact ⟨j + 1, by omega, by go_num, by first | trivial | rfl⟩
      case measure => simp [intOf]; omega
    · obtain rfl : j = M := by omega
      obtain ⟨x, hx⟩ : ∃ x, vcut k a = x := ⟨_, rfl⟩
      obtain ⟨y, hy⟩ : ∃ y, vcut k b = y := ⟨_, rfl⟩
      rw [hx, hy] at hr
      rw [hx] at ba0 ba1 ⊢
      rw [hy] at bb0 bb1 ⊢
      clear hx hy
      by_cases hc : x < y
      · have hc' : decide (x < y) = true := by simp [hc]
        have E : Hid (twoOf 6 k a b = 1) := by
          unfold Hid
          rw [hr.out]
          simp [b01, hc]
        clear hc hr
        go_wp2_with fail
        go_ret
        exact ⟨ret_int E.out.symm, HB3.out⟩
      · have hc' : decide (x < y) = false := by simp [hc]
        have E : Hid (twoOf 6 k a b = 0) := by
          unfold Hid
          rw [hr.out]
          simp [b01, hc]
        clear hc hr
        go_wp2_with fail
        go_ret
        exact ⟨ret_int E.out.symm, HB3.out⟩

set_option maxRecDepth 100000 in
set_option maxHeartbeats 3200000 in
theorem rtwo_le (k a b m : Int) (h : ¬ resultOf 7 k k = 0) (w : World) (hm : w.cell? ⟨0, 0, none⟩ = some (.int .i64 m)) :
    Calls Try.prog 48 #[.string ⟨#[60, 61]⟩, .int .i64 k, .int .i64 a, .int .i64 b] w (Res (twoOf 7 k a b) w) := by
  have hz : (vresult ⟨#[60, 61]⟩ k k == 0) = false := by simpa [vresult, opOf_le] using h
  obtain ⟨M, hM, hM1, hM8⟩ := res_width h
  have HMW := hid hM
  have HM := hid hm
  have ba := vcut_bd k a
  have bb := vcut_bd k b
  obtain ⟨ba0, ba1⟩ := ba
  obtain ⟨bb0, bb1⟩ := bb
  have hr : Hid (twoOf 7 k a b = b01 (decide (vcut k a ≤ vcut k b))) := if_neg h
  clear h hm hM
  go_enter Try.func48, Try.ntmps48
  go_wp2_with (first
    | (go_at_call 47; (with_reducible refine (rresult_any _ (by decide) _ _ m _ HM.out).mono ?_); rintro e w1 ⟨rfl, hb1⟩; have HB1 := hid hb1; clear hb1)
    | (go_at_call 45; (with_reducible refine (rbits_row k a M HMW.out _).mono ?_); rintro e w2 ⟨ax, cx, rfl, hcx, hb2⟩; have HX := hid hcx; have HB2 := hid (HB1.out.trans (hb2.mono HB1.out.size)); clear hcx hb2)
    | (go_at_call 45; (with_reducible refine (rbits_row k b M HMW.out _).mono ?_); rintro e w3 ⟨ay, cy, rfl, hcy, hb3⟩; have HX3 := hid ((HX.out.stay hb3).mono hb3.size); have HY3 := hid hcy; have HB3 := hid (HB2.out.trans (hb3.mono HB2.out.size)); clear hcy hb3)
    | (go_at_call 43; (with_reducible refine (rcut_any k a _).mono ?_); rintro e w' ⟨rfl, rfl⟩)
    | (go_at_call 43; (with_reducible refine (rcut_any k b _).mono ?_); rintro e w' ⟨rfl, rfl⟩)
    | (go_at_call 43; (with_reducible refine (rcut_any k _ _).mono ?_); rintro e w' ⟨rfl, rfl⟩))
  go_loop [11, 33] (fun s11 s33 => ∃ j : Nat, j ≤ M ∧ s33 = .int .i64 j ∧ s11 = .slice none 0 0) (fun _ s33 => M - (intOf s33).toNat)
  case atStart => exact ⟨0, Nat.zero_le _, rfl, rfl⟩
  case round =>
    obtain ⟨j, hj, rfl, rfl⟩ := hrel
    by_cases hlt : j < M
    · have hltI : (j : Int) < (M : Int) := by omega
      go_wp2_with fail
      go_round
      case rel => exact ⟨j + 1, by omega, by go_num, by first | trivial | rfl⟩
      case measure => simp [intOf]; omega
    · obtain rfl : j = M := by omega
      obtain ⟨x, hx⟩ : ∃ x, vcut k a = x := ⟨_, rfl⟩
      obtain ⟨y, hy⟩ : ∃ y, vcut k b = y := ⟨_, rfl⟩
      rw [hx, hy] at hr
      rw [hx] at ba0 ba1 ⊢
      rw [hy] at bb0 bb1 ⊢
      clear hx hy
      by_cases hc : x ≤ y
      · have hc' : decide (x ≤ y) = true := by simp [hc]
        have E : Hid (twoOf 7 k a b = 1) := by
          unfold Hid
          rw [hr.out]
          simp [b01, hc]
        clear hc hr
        go_wp2_with fail
        go_ret
        exact ⟨ret_int E.out.symm, HB3.out⟩
      · have hc' : decide (x ≤ y) = false := by simp [hc]
        have E : Hid (twoOf 7 k a b = 0) := by
          unfold Hid
          rw [hr.out]
          simp [b01, hc]
        clear hc hr
        go_wp2_with fail
        go_ret
        exact ⟨ret_int E.out.symm, HB3.out⟩

set_option maxRecDepth 100000 in
set_option maxHeartbeats 3200000 in
theorem rtwo_gt (k a b m : Int) (h : ¬ resultOf 8 k k = 0) (w : World) (hm : w.cell? ⟨0, 0, none⟩ = some (.int .i64 m)) :
    Calls Try.prog 48 #[.string ⟨#[62]⟩, .int .i64 k, .int .i64 a, .int .i64 b] w (Res (twoOf 8 k a b) w) := by
  have hz : (vresult ⟨#[62]⟩ k k == 0) = false := by simpa [vresult, opOf_gt] using h
  obtain ⟨M, hM, hM1, hM8⟩ := res_width h
  have HMW := hid hM
  have HM := hid hm
  have ba := vcut_bd k a
  have bb := vcut_bd k b
  obtain ⟨ba0, ba1⟩ := ba
  obtain ⟨bb0, bb1⟩ := bb
  have hr : Hid (twoOf 8 k a b = b01 (decide (vcut k b < vcut k a))) := if_neg h
  clear h hm hM
  go_enter Try.func48, Try.ntmps48
  go_wp2_with (first
    | (go_at_call 47; (with_reducible refine (rresult_any _ (by decide) _ _ m _ HM.out).mono ?_); rintro e w1 ⟨rfl, hb1⟩; have HB1 := hid hb1; clear hb1)
    | (go_at_call 45; (with_reducible refine (rbits_row k a M HMW.out _).mono ?_); rintro e w2 ⟨ax, cx, rfl, hcx, hb2⟩; have HX := hid hcx; have HB2 := hid (HB1.out.trans (hb2.mono HB1.out.size)); clear hcx hb2)
    | (go_at_call 45; (with_reducible refine (rbits_row k b M HMW.out _).mono ?_); rintro e w3 ⟨ay, cy, rfl, hcy, hb3⟩; have HX3 := hid ((HX.out.stay hb3).mono hb3.size); have HY3 := hid hcy; have HB3 := hid (HB2.out.trans (hb3.mono HB2.out.size)); clear hcy hb3)
    | (go_at_call 43; (with_reducible refine (rcut_any k a _).mono ?_); rintro e w' ⟨rfl, rfl⟩)
    | (go_at_call 43; (with_reducible refine (rcut_any k b _).mono ?_); rintro e w' ⟨rfl, rfl⟩)
    | (go_at_call 43; (with_reducible refine (rcut_any k _ _).mono ?_); rintro e w' ⟨rfl, rfl⟩))
  go_loop [11, 33] (fun s11 s33 => ∃ j : Nat, j ≤ M ∧ s33 = .int .i64 j ∧ s11 = .slice none 0 0) (fun _ s33 => M - (intOf s33).toNat)
  case atStart => exact ⟨0, Nat.zero_le _, rfl, rfl⟩
  case round =>
    obtain ⟨j, hj, rfl, rfl⟩ := hrel
    by_cases hlt : j < M
    · have hltI : (j : Int) < (M : Int) := by omega
      go_wp2_with fail
      go_round
      case rel => exact ⟨j + 1, by omega, by go_num, by first | trivial | rfl⟩
      case measure => simp [intOf]; omega
    · obtain rfl : j = M := by omega
      obtain ⟨x, hx⟩ : ∃ x, vcut k a = x := ⟨_, rfl⟩
      obtain ⟨y, hy⟩ : ∃ y, vcut k b = y := ⟨_, rfl⟩
      rw [hx, hy] at hr
      rw [hx] at ba0 ba1 ⊢
      rw [hy] at bb0 bb1 ⊢
      clear hx hy
      by_cases hc : y < x
      · have hc' : decide (y < x) = true := by simp [hc]
        have E : Hid (twoOf 8 k a b = 1) := by
          unfold Hid
          rw [hr.out]
          simp [b01, hc]
        clear hc hr
        go_wp2_with fail
        go_ret
        exact ⟨ret_int E.out.symm, HB3.out⟩
      · have hc' : decide (y < x) = false := by simp [hc]
        have E : Hid (twoOf 8 k a b = 0) := by
          unfold Hid
          rw [hr.out]
          simp [b01, hc]
        clear hc hr
        go_wp2_with fail
        go_ret
        exact ⟨ret_int E.out.symm, HB3.out⟩

set_option maxRecDepth 100000 in
set_option maxHeartbeats 3200000 in
theorem rtwo_ge (k a b m : Int) (h : ¬ resultOf 9 k k = 0) (w : World) (hm : w.cell? ⟨0, 0, none⟩ = some (.int .i64 m)) :
    Calls Try.prog 48 #[.string ⟨#[62, 61]⟩, .int .i64 k, .int .i64 a, .int .i64 b] w (Res (twoOf 9 k a b) w) := by
  have hz : (vresult ⟨#[62, 61]⟩ k k == 0) = false := by simpa [vresult, opOf_ge] using h
  obtain ⟨M, hM, hM1, hM8⟩ := res_width h
  have HMW := hid hM
  have HM := hid hm
  have ba := vcut_bd k a
  have bb := vcut_bd k b
  obtain ⟨ba0, ba1⟩ := ba
  obtain ⟨bb0, bb1⟩ := bb
  have hr : Hid (twoOf 9 k a b = b01 (decide (vcut k b ≤ vcut k a))) := if_neg h
  clear h hm hM
  go_enter Try.func48, Try.ntmps48
  go_wp2_with (first
    | (go_at_call 47; (with_reducible refine (rresult_any _ (by decide) _ _ m _ HM.out).mono ?_); rintro e w1 ⟨rfl, hb1⟩; have HB1 := hid hb1; clear hb1)
    | (go_at_call 45; (with_reducible refine (rbits_row k a M HMW.out _).mono ?_); rintro e w2 ⟨ax, cx, rfl, hcx, hb2⟩; have HX := hid hcx; have HB2 := hid (HB1.out.trans (hb2.mono HB1.out.size)); clear hcx hb2)
    | (go_at_call 45; (with_reducible refine (rbits_row k b M HMW.out _).mono ?_); rintro e w3 ⟨ay, cy, rfl, hcy, hb3⟩; have HX3 := hid ((HX.out.stay hb3).mono hb3.size); have HY3 := hid hcy; have HB3 := hid (HB2.out.trans (hb3.mono HB2.out.size)); clear hcy hb3)
    | (go_at_call 43; (with_reducible refine (rcut_any k a _).mono ?_); rintro e w' ⟨rfl, rfl⟩)
    | (go_at_call 43; (with_reducible refine (rcut_any k b _).mono ?_); rintro e w' ⟨rfl, rfl⟩)
    | (go_at_call 43; (with_reducible refine (rcut_any k _ _).mono ?_); rintro e w' ⟨rfl, rfl⟩))
  go_loop [11, 33] (fun s11 s33 => ∃ j : Nat, j ≤ M ∧ s33 = .int .i64 j ∧ s11 = .slice none 0 0) (fun _ s33 => M - (intOf s33).toNat)
  case atStart => exact ⟨0, Nat.zero_le _, rfl, rfl⟩
  case round =>
    obtain ⟨j, hj, rfl, rfl⟩ := hrel
    by_cases hlt : j < M
    · have hltI : (j : Int) < (M : Int) := by omega
      go_wp2_with fail
      go_round
      case rel => exact ⟨j + 1, by omega, by go_num, by first | trivial | rfl⟩
      case measure => simp [intOf]; omega
    · obtain rfl : j = M := by omega
      obtain ⟨x, hx⟩ : ∃ x, vcut k a = x := ⟨_, rfl⟩
      obtain ⟨y, hy⟩ : ∃ y, vcut k b = y := ⟨_, rfl⟩
      rw [hx, hy] at hr
      rw [hx] at ba0 ba1 ⊢
      rw [hy] at bb0 bb1 ⊢
      clear hx hy
      by_cases hc : y ≤ x
      · have hc' : decide (y ≤ x) = true := by simp [hc]
        have E : Hid (twoOf 9 k a b = 1) := by
          unfold Hid
          rw [hr.out]
          simp [b01, hc]
        clear hc hr
        go_wp2_with fail
        go_ret
        exact ⟨ret_int E.out.symm, HB3.out⟩
      · have hc' : decide (y ≤ x) = false := by simp [hc]
        have E : Hid (twoOf 9 k a b = 0) := by
          unfold Hid
          rw [hr.out]
          simp [b01, hc]
        clear hc hr
        go_wp2_with fail
        go_ret
        exact ⟨ret_int E.out.symm, HB3.out⟩

set_option maxRecDepth 100000 in
set_option maxHeartbeats 3200000 in
theorem rtwo_plus (k a b m : Int) (h : ¬ resultOf 10 k k = 0) (w : World) (hm : w.cell? ⟨0, 0, none⟩ = some (.int .i64 m)) :
    Calls Try.prog 48 #[.string ⟨#[43]⟩, .int .i64 k, .int .i64 a, .int .i64 b] w (Res (twoOf 10 k a b) w) := by
  have hz : (vresult ⟨#[43]⟩ k k == 0) = false := by simpa [vresult, opOf_plus] using h
  obtain ⟨M, hM, hM1, hM8⟩ := res_width h
  have HMW := hid hM
  have HM := hid hm
  have ba := vcut_bd k a
  have bb := vcut_bd k b
  obtain ⟨ba0, ba1⟩ := ba
  obtain ⟨bb0, bb1⟩ := bb
  have hr : Hid (twoOf 10 k a b = vcut k (vcut k a + vcut k b)) := if_neg h
  clear h hm hM
  go_enter Try.func48, Try.ntmps48
  go_wp2_with (first
    | (go_at_call 47; (with_reducible refine (rresult_any _ (by decide) _ _ m _ HM.out).mono ?_); rintro e w1 ⟨rfl, hb1⟩; have HB1 := hid hb1; clear hb1)
    | (go_at_call 45; (with_reducible refine (rbits_row k a M HMW.out _).mono ?_); rintro e w2 ⟨ax, cx, rfl, hcx, hb2⟩; have HX := hid hcx; have HB2 := hid (HB1.out.trans (hb2.mono HB1.out.size)); clear hcx hb2)
    | (go_at_call 45; (with_reducible refine (rbits_row k b M HMW.out _).mono ?_); rintro e w3 ⟨ay, cy, rfl, hcy, hb3⟩; have HX3 := hid ((HX.out.stay hb3).mono hb3.size); have HY3 := hid hcy; have HB3 := hid (HB2.out.trans (hb3.mono HB2.out.size)); clear hcy hb3)
    | (go_at_call 43; (with_reducible refine (rcut_any k a _).mono ?_); rintro e w' ⟨rfl, rfl⟩)
    | (go_at_call 43; (with_reducible refine (rcut_any k b _).mono ?_); rintro e w' ⟨rfl, rfl⟩)
    | (go_at_call 43; (with_reducible refine (rcut_any k _ _).mono ?_); rintro e w' ⟨rfl, rfl⟩))
  go_loop [11, 33] (fun s11 s33 => ∃ j : Nat, j ≤ M ∧ s33 = .int .i64 j ∧ s11 = .slice none 0 0) (fun _ s33 => M - (intOf s33).toNat)
  case atStart => exact ⟨0, Nat.zero_le _, rfl, rfl⟩
  case round =>
    obtain ⟨j, hj, rfl, rfl⟩ := hrel
    by_cases hlt : j < M
    · have hltI : (j : Int) < (M : Int) := by omega
      go_wp2_with fail
      go_round
      case rel => exact ⟨j + 1, by omega, by go_num, by first | trivial | rfl⟩
      case measure => simp [intOf]; omega
    · obtain rfl : j = M := by omega
      go_wp2_with (go_at_call 43; (with_reducible refine (rcut_any k _ _).mono ?_); rintro e w' ⟨rfl, rfl⟩)
      go_ret
      exact ⟨ret_int hr.out.symm, HB3.out⟩

set_option maxRecDepth 100000 in
set_option maxHeartbeats 3200000 in
theorem rtwo_minus (k a b m : Int) (h : ¬ resultOf 11 k k = 0) (w : World) (hm : w.cell? ⟨0, 0, none⟩ = some (.int .i64 m)) :
    Calls Try.prog 48 #[.string ⟨#[45]⟩, .int .i64 k, .int .i64 a, .int .i64 b] w (Res (twoOf 11 k a b) w) := by
  have hz : (vresult ⟨#[45]⟩ k k == 0) = false := by simpa [vresult, opOf_minus] using h
  obtain ⟨M, hM, hM1, hM8⟩ := res_width h
  have HMW := hid hM
  have HM := hid hm
  have ba := vcut_bd k a
  have bb := vcut_bd k b
  obtain ⟨ba0, ba1⟩ := ba
  obtain ⟨bb0, bb1⟩ := bb
  have hr : Hid (twoOf 11 k a b = vcut k (vcut k a - vcut k b)) := if_neg h
  clear h hm hM
  go_enter Try.func48, Try.ntmps48
  go_wp2_with (first
    | (go_at_call 47; (with_reducible refine (rresult_any _ (by decide) _ _ m _ HM.out).mono ?_); rintro e w1 ⟨rfl, hb1⟩; have HB1 := hid hb1; clear hb1)
    | (go_at_call 45; (with_reducible refine (rbits_row k a M HMW.out _).mono ?_); rintro e w2 ⟨ax, cx, rfl, hcx, hb2⟩; have HX := hid hcx; have HB2 := hid (HB1.out.trans (hb2.mono HB1.out.size)); clear hcx hb2)
    | (go_at_call 45; (with_reducible refine (rbits_row k b M HMW.out _).mono ?_); rintro e w3 ⟨ay, cy, rfl, hcy, hb3⟩; have HX3 := hid ((HX.out.stay hb3).mono hb3.size); have HY3 := hid hcy; have HB3 := hid (HB2.out.trans (hb3.mono HB2.out.size)); clear hcy hb3)
    | (go_at_call 43; (with_reducible refine (rcut_any k a _).mono ?_); rintro e w' ⟨rfl, rfl⟩)
    | (go_at_call 43; (with_reducible refine (rcut_any k b _).mono ?_); rintro e w' ⟨rfl, rfl⟩)
    | (go_at_call 43; (with_reducible refine (rcut_any k _ _).mono ?_); rintro e w' ⟨rfl, rfl⟩))
  go_loop [11, 33] (fun s11 s33 => ∃ j : Nat, j ≤ M ∧ s33 = .int .i64 j ∧ s11 = .slice none 0 0) (fun _ s33 => M - (intOf s33).toNat)
  case atStart => exact ⟨0, Nat.zero_le _, rfl, rfl⟩
  case round =>
    obtain ⟨j, hj, rfl, rfl⟩ := hrel
    by_cases hlt : j < M
    · have hltI : (j : Int) < (M : Int) := by omega
      go_wp2_with fail
      go_round
      case rel => exact ⟨j + 1, by omega, by go_num, by first | trivial | rfl⟩
      case measure => simp [intOf]; omega
    · obtain rfl : j = M := by omega
      go_wp2_with (go_at_call 43; (with_reducible refine (rcut_any k _ _).mono ?_); rintro e w' ⟨rfl, rfl⟩)
      go_ret
      exact ⟨ret_int hr.out.symm, HB3.out⟩

theorem rtwo_any (op : ByteArray) (hop : op.size ≤ 20) (k a b m : Int) (w : World) (hm : w.cell? ⟨0, 0, none⟩ = some (.int .i64 m)) :
    Calls Try.prog 48 #[.string op, .int .i64 k, .int .i64 a, .int .i64 b] w (Res (vtwo op k a b) w) := by
  unfold vtwo
  by_cases h : resultOf (opOf op) k k = 0
  · exact rtwo_zero op hop k a b m h w hm
  · rcases op_cases op with rfl | rfl | rfl | rfl | rfl | rfl | rfl | rfl | rfl | rfl | rfl | hn
    · rw [opOf_and] at h ⊢; exact rtwo_and k a b m h w hm
    · rw [opOf_or] at h ⊢; exact rtwo_or k a b m h w hm
    · rw [opOf_xor] at h ⊢; exact rtwo_xor k a b m h w hm
    · rw [opOf_eq] at h ⊢; exact rtwo_eq k a b m h w hm
    · rw [opOf_ne] at h ⊢; exact rtwo_ne k a b m h w hm
    · rw [opOf_lt] at h ⊢; exact rtwo_lt k a b m h w hm
    · rw [opOf_le] at h ⊢; exact rtwo_le k a b m h w hm
    · rw [opOf_gt] at h ⊢; exact rtwo_gt k a b m h w hm
    · rw [opOf_ge] at h ⊢; exact rtwo_ge k a b m h w hm
    · rw [opOf_plus] at h ⊢; exact rtwo_plus k a b m h w hm
    · rw [opOf_minus] at h ⊢; exact rtwo_minus k a b m h w hm
    · exact absurd hn.1 (twoOf_not _ k a b h)
end Go.Proofs.Ytlaeflpddehipaa
