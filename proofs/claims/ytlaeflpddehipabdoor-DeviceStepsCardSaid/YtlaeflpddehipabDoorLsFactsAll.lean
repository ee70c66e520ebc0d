/- The document's in. The document's Tables.Right, walked: the law of LN.right. What a right net of tables gives; rows of numbers in memory. -/
import Derived.Test.YtlaeflpddehipabDoorBase
import Derived.Deep.DeepCutAuto
import Derived.Test.YtlaeflpddehipabDoorLsPlain
import Derived.Test.YtlaeflpddehipabDoorOwnRow
import Derived.Test.YtlaeflpddehipabDoorNetNew
section
set_option linter.unusedVariables false
namespace Go.Proofs.YtlaeflpddehipabDoor
open Go.RowKit

theorem rin_at (x lo hi : Int) (r : Bool) (h : Hid (decide (lo ≤ x ∧ x ≤ hi) = r)) (w : World) : Calls Tryd.prog 69 #[.int .i64 x, .int .i64 lo, .int .i64 hi] w fun e w' => e = .returned (.bool r) ∧ w = w' := by
  by_cases h0 : lo ≤ x
  · by_cases h1 : x ≤ hi
    · have e : Hid (r = true) := by unfold Hid; rw [← h.out]; exact decide_eq_true ⟨h0, h1⟩
      clear h
      go_enter Tryd.func69, Tryd.ntmps69
      go_wp2
      go_ret
      exact ⟨ret_bool e.out.symm, rfl⟩
    · have e : Hid (r = false) := by unfold Hid; rw [← h.out]; exact decide_eq_false (fun h => h1 h.2)
      have d1 : decide (x ≤ hi) = false := decide_eq_false h1
      clear h
      go_enter Tryd.func69, Tryd.ntmps69
      go_wp2
      go_ret
      exact ⟨ret_bool e.out.symm, rfl⟩
  · have e : Hid (r = false) := by unfold Hid; rw [← h.out]; exact decide_eq_false (fun h => h0 h.1)
    have d1 : decide (lo ≤ x) = false := decide_eq_false h0
    clear h
    go_enter Tryd.func69, Tryd.ntmps69
    go_wp2
    go_ret
    exact ⟨ret_bool e.out.symm, rfl⟩
end Go.Proofs.YtlaeflpddehipabDoor
end
section
set_option linter.unusedVariables false
set_option linter.unusedSimpArgs false
set_option linter.unusedSectionVars false
namespace Go.Proofs.YtlaeflpddehipabDoor
open Go.RowKit

/-- How many tables of j signals there are, as the document reckons it. -/
def mostN : Nat → Int
  | 0 => 2
  | j + 1 => if mostN j < 1048576 then mostN j * mostN j else mostN j
theorem mostN_big : ∀ j, mostN (j + 5) = 4294967296
  | 0 => by decide
  | j + 1 => by
    have h := mostN_big j
    show (if mostN (j + 5) < 1048576 then mostN (j + 5) * mostN (j + 5) else mostN (j + 5)) = _
    rw [h]
    rfl
theorem mostN_small (j : Nat) (h : j ≤ 4) : mostN j = 2 ^ (2 ^ j) := by
  rcases j with _ | _ | _ | _ | _ | j
  · rfl
  · rfl
  · rfl
  · rfl
  · rfl
  · omega
theorem mostN_fits (j : Nat) : 0 ≤ mostN j ∧ mostN j ≤ 4294967296 ∧ (mostN j < 1048576 → mostN j ≤ 65536) := by
  rcases Nat.lt_or_ge j 5 with h | h
  · rcases j with _ | _ | _ | _ | _ | j
    · decide
    · decide
    · decide
    · decide
    · decide
    · omega
  · obtain ⟨k, rfl⟩ : ∃ k, j = k + 5 := ⟨j - 5, by omega⟩
    rw [mostN_big]
    omega
theorem LN.four_sizes (L : LN) : L.sizes = true ↔ ∀ k, k < 4 → 0 ≤ [L.given, (L.regs.length : Int), (L.luts.length : Int), (L.outs.length : Int)].getD k 0 ∧ [L.given, (L.regs.length : Int), (L.luts.length : Int), (L.outs.length : Int)].getD k 0 ≤ 20000 := by
  unfold LN.sizes
  simp only [Bool.and_eq_true, decide_eq_true_eq]
  constructor
  · rintro ⟨h1, h2⟩ k hk
    rcases k with _ | _ | _ | _ | k
    · simp; omega
    · simp; omega
    · simp; omega
    · simp; omega
    · omega
  · intro h
    have h0 := h 0 (by omega)
    have h1 := h 1 (by omega)
    have h2 := h 2 (by omega)
    have h3 := h 3 (by omega)
    simp at h0 h1 h2 h3
    omega
theorem LN.right_no_lut {L : LN} {i : Nat} (hi : i < L.luts.length) (h : L.lutBad i = true) : L.right = false := by
  have : (List.range L.luts.length).all (fun i => !L.lutBad i) = false := by
    rw [List.all_eq_false]
    exact ⟨i, List.mem_range.2 hi, by simp [h]⟩
  unfold LN.right
  rw [this]
  simp
theorem LN.right_no_reg {L : LN} {i : Nat} (hi : i < L.regs.length) (h : badB L.signals (L.regs.getD i LR.zero).next = true) : L.right = false := by
  have : L.regsBad = true := by
    unfold LN.regsBad
    rw [List.any_eq_true]
    exact ⟨i, List.mem_range.2 hi, h⟩
  unfold LN.right
  rw [this]
  simp
theorem LN.right_no_out {L : LN} {i : Nat} (hi : i < L.outs.length) (h : badB L.signals (L.outs.getD i 0) = true) : L.right = false := by
  have : L.outsBad = true := by
    unfold LN.outsBad
    rw [List.any_eq_true]
    exact ⟨i, List.mem_range.2 hi, h⟩
  unfold LN.right
  rw [this]
  simp
theorem LN.right_yes {L : LN} (hs : L.sizes = true) (h1 : ∀ i, i < L.luts.length → L.lutBad i = false) (h2 : ∀ i, i < L.regs.length → badB L.signals (L.regs.getD i LR.zero).next = false)
    (h3 : ∀ i, i < L.outs.length → badB L.signals (L.outs.getD i 0) = false) : L.right = true := by
  have e1 : (List.range L.luts.length).all (fun i => !L.lutBad i) = true := by
    rw [List.all_eq_true]
    intro i hi
    simp [h1 i (List.mem_range.1 hi)]
  have e2 : L.regsBad = false := by
    unfold LN.regsBad
    rw [List.any_eq_false]
    intro i hi hc
    rw [h2 i (List.mem_range.1 hi)] at hc
    cases hc
  have e3 : L.outsBad = false := by
    unfold LN.outsBad
    rw [List.any_eq_false]
    intro i hi hc
    rw [h3 i (List.mem_range.1 hi)] at hc
    cases hc
  unfold LN.right
  rw [hs, e1, e2, e3]
  rfl
theorem badB_no {s k : Int} (h0 : 0 ≤ k) (h1 : k < s) : badB s k = false := by
  unfold badB
  rw [decide_eq_false (by omega), decide_eq_false (by omega)]
  rfl
theorem badB_low {s k : Int} (h0 : k < 0) : badB s k = true := by
  unfold badB
  rw [decide_eq_true h0]
  rfl
theorem badB_high {s k : Int} (h0 : s ≤ k) : badB s k = true := by
  unfold badB
  rw [decide_eq_true h0]
  simp
theorem LN.lutBad_ins {L : LN} {i j : Nat} (hj : j < (L.luts.getD i LT.zero).ins.length) (h : badB (L.given + L.regs.length + i) ((L.luts.getD i LT.zero).ins.getD j 0) = true) : L.lutBad i = true := by
  have : L.insBad i = true := by
    unfold LN.insBad
    rw [List.any_eq_true]
    exact ⟨j, List.mem_range.2 hj, h⟩
  unfold LN.lutBad
  rw [this]
  simp
theorem LN.lutBad_no {L : LN} {i : Nat} (h4 : (L.luts.getD i LT.zero).ins.length ≤ 4) (h0 : 0 ≤ (L.luts.getD i LT.zero).table) (h1 : (L.luts.getD i LT.zero).table < mostN (L.luts.getD i LT.zero).ins.length)
    (h : ∀ j, j < (L.luts.getD i LT.zero).ins.length → badB (L.given + L.regs.length + i) ((L.luts.getD i LT.zero).ins.getD j 0) = false) : L.lutBad i = false := by
  have e : L.insBad i = false := by
    unfold LN.insBad
    rw [List.any_eq_false]
    intro j hj hc
    rw [h j (List.mem_range.1 hj)] at hc
    cases hc
  rw [mostN_small _ h4] at h1
  unfold LN.lutBad
  dsimp only
  rw [e, decide_eq_false (Nat.not_lt.2 h4), decide_eq_false (Int.not_lt.2 h0), decide_eq_false (Int.not_le.2 h1)]
  rfl
theorem LN.lutBad_long {L : LN} {i : Nat} (h4 : 4 < (L.luts.getD i LT.zero).ins.length) : L.lutBad i = true := by
  unfold LN.lutBad
  dsimp only
  rw [decide_eq_true h4]
  simp
theorem LN.lutBad_low {L : LN} {i : Nat} (h4 : (L.luts.getD i LT.zero).table < 0) : L.lutBad i = true := by
  unfold LN.lutBad
  dsimp only
  rw [decide_eq_true h4]
  simp
theorem LN.lutBad_high {L : LN} {i : Nat} (h4 : (L.luts.getD i LT.zero).ins.length ≤ 4) (h1 : mostN (L.luts.getD i LT.zero).ins.length ≤ (L.luts.getD i LT.zero).table) : L.lutBad i = true := by
  rw [mostN_small _ h4] at h1
  unfold LN.lutBad
  dsimp only
  rw [decide_eq_true h1]
  simp
section
variable (B : Nat) (y : Lay) (L : LN) (w : World)
/-- The document's net of tables, boxed by the call. -/
theorem lbox (h : LnRows B w y L) (hB : B ≤ w.heap.size) : LnIn (w.heap.size + 1) (w.alloc (.cells #[.int .i64 L.given, .slice y.ar L.regs.length y.cr, .slice y.al L.luts.length y.cl, .slice y.ao L.outs.length y.co] 30)) w.heap.size y L where
  g := (cell_new _ _ _ _).trans rfl
  regs := (cell_new _ _ _ _).trans rfl
  luts := (cell_new _ _ _ _).trans rfl
  outs := (cell_new _ _ _ _).trans rfl
  rows := (h.stay (((Below.refl _ _).alloc (Nat.le_refl _) _).mono hB)).mono (by omega)
  hb := Nat.lt_succ_self _
set_option maxRecDepth 100000 in
set_option maxHeartbeats 12800000 in
theorem RefLnRight_any (h : LnRows B w y L) (hB : B ≤ w.heap.size) :
    Calls Tryd.prog 39 #[.agg #[.int .i64 L.given, .slice y.ar L.regs.length y.cr, .slice y.al L.luts.length y.cl, .slice y.ao L.outs.length y.co]] w fun e w' => e = .returned (.bool L.right) ∧ Below w.heap.size w w' := by
  have HI := hid (lbox B y L w h hB)
  have HB1 := hid (show Below w.heap.size w (w.alloc (.cells #[.int .i64 L.given, .slice y.ar L.regs.length y.cr, .slice y.al L.luts.length y.cl, .slice y.ao L.outs.length y.co] 30)) from (Below.refl _ _).alloc (Nat.le_refl _) _)
  have HSZ1 := hid (show (w.alloc (.cells #[.int .i64 L.given, .slice y.ar L.regs.length y.cr, .slice y.al L.luts.length y.cl, .slice y.ao L.outs.length y.co] 30)).heap.size = w.heap.size + 1 by simp)
  obtain ⟨ar, cr, al, cl, ao, co, A, C⟩ := y
  obtain ⟨nr, hNr⟩ : ∃ n, L.regs.length = n := ⟨_, rfl⟩
  obtain ⟨nl, hNl⟩ : ∃ n, L.luts.length = n := ⟨_, rfl⟩
  obtain ⟨no, hNo⟩ : ∃ n, L.outs.length = n := ⟨_, rfl⟩
  obtain ⟨g, hG⟩ : ∃ n, L.given = n := ⟨_, rfl⟩
  simp only at HI HB1 HSZ1 ⊢
  have FS := hid L.four_sizes
  rw [hNr, hNl, hNo, hG] at HI HB1 HSZ1 FS ⊢
  have HNR := hid hNr
  have HNL := hid hNl
  have HNO := hid hNo
  have HG := hid hG
  have NOS : Hid (L.sizes = false → L.right = false) := fun e => by unfold LN.right; rw [e]; rfl
  clear h hNr hNl hNo hG
  go_enter Tryd.func39, Tryd.ntmps39
  go_upto_region 1 with fail
  generalize w.alloc (.cells #[.int .i64 g, .slice ar nr cr, .slice al nl cl, .slice ao no co] 30) = w1 at *
  have x0 := HI.out.g
  have x1 := HI.out.regs
  have x2 := HI.out.luts
  have x3 := HI.out.outs
  rw [HG.out] at x0
  rw [HNR.out] at x1
  rw [HNL.out] at x2
  rw [HNO.out] at x3
  have hlt1 : w.heap.size < w1.heap.size := by have := HSZ1.out; omega
  have HB2 := hid (show Below w1.heap.size w1 (w1.alloc (.cells #[.int .i64 g, .int .i64 nr, .int .i64 nl, .int .i64 no] 3)) from (Below.refl _ _).alloc (Nat.le_refl _) _)
  have HC2 := hid (show ∀ k, k < 4 → (w1.alloc (.cells #[.int .i64 g, .int .i64 nr, .int .i64 nl, .int .i64 no] 3)).cell? ⟨w1.heap.size, k, none⟩ = some (.int .i64 ([g, (nr : Int), (nl : Int), (no : Int)].getD k 0)) from fun k hk => (cell_new _ _ _ _).trans (by rcases k with _ | _ | _ | _ | k; rfl; rfl; rfl; rfl; omega))
  have HSZ2 := hid (show (w1.alloc (.cells #[.int .i64 g, .int .i64 nr, .int .i64 nl, .int .i64 no] 3)).heap.size = w1.heap.size + 1 by simp)
  go_upto_region 2 with fail
  generalize w1.alloc (.cells #[.int .i64 g, .int .i64 nr, .int .i64 nl, .int .i64 no] 3) = w2 at *
  go_wp2_with fail
  clear x0 x1 x2 x3
  go_loopw [28] (fun v wr => w2 = wr ∧ ∃ k : Nat, k ≤ 4 ∧ v = .int .i64 k ∧ ∀ j, j < k → 0 ≤ [g, (nr : Int), (nl : Int), (no : Int)].getD j 0 ∧ [g, (nr : Int), (nl : Int), (no : Int)].getD j 0 ≤ 20000) (fun v _ => 4 - (intOf v).toNat)
  case atStart => exact ⟨rfl, 0, Nat.zero_le _, rfl, fun j hj => by omega⟩
  case round =>
    obtain ⟨rfl, k, hk, rfl, hto⟩ := hrel
    have HTO := hid hto
    clear hto
    by_cases hlt : k < 4
    · have hkI : (k : Int) < 4 := by omega
      have hk0 : (0 : Int) ≤ k := by omega
      have c0 := HC2.out k hlt
      obtain ⟨x, hx⟩ : ∃ x, [g, (nr : Int), (nl : Int), (no : Int)].getD k 0 = x := ⟨_, rfl⟩
      rw [hx] at c0
      have HX := hid hx
      have hlt2 : w1.heap.size < w2.heap.size := by have := HSZ2.out; omega
      clear hx
      by_cases hin : 0 ≤ x ∧ x ≤ 20000
      · have H0 := hid (decide_eq_true hin)
        go_wp2_with (go_at_call 69; (with_reducible refine (rin_at x 0 20000 true H0 _).mono ?_); rintro e w3 ⟨rfl, rfl⟩)
        go_roundw
        case rel => exact ⟨trivial, k + 1, by omega, by go_num, fun j hj => by
          by_cases hjk : j = k
          · subst hjk; rw [HX.out]; exact hin
          · exact HTO.out j (by omega)⟩
        case measure => simp [intOf]; omega
      · have H0 := hid (decide_eq_false hin)
        have NO : Hid (L.right = false) := NOS.out (by
          cases hs : L.sizes
          · rfl
          · have h1 := FS.out.1 hs k hlt
            rw [HX.out] at h1
            exact absurd h1 hin)
        go_wp2_with (go_at_call 69; (with_reducible refine (rin_at x 0 20000 false H0 _).mono ?_); rintro e w3 ⟨rfl, rfl⟩)
        go_ret
        exact ⟨ret_bool NO.out.symm, HB1.out.trans (HB2.out.mono (by have := HSZ1.out; omega))⟩
    · obtain rfl : k = 4 := by omega
      have hs : L.sizes = true := FS.out.2 HTO.out
      obtain ⟨z0, z1, z2, z3, z4⟩ := LN.sizes_of hs
      rw [HG.out] at z0 z1
      rw [HNR.out] at z2
      rw [HNL.out] at z3
      rw [HNO.out] at z4
      have HS := hid hs
      have h' := HI.out.stay (HB2.out.mono (by have := HSZ1.out; omega))
      have x0 := h'.g
      have x1 := h'.regs
      have x2 := h'.luts
      rw [HG.out] at x0
      rw [HNR.out] at x1
      rw [HNL.out] at x2
      have q1 : IntKind.i64.wrap (g + (nr : Int)) = g + nr := wrap_fit _ (by omega) (by omega)
      have q2 : IntKind.i64.wrap (g + (nr : Int) + (nl : Int)) = g + nr + nl := wrap_fit _ (by omega) (by omega)
      have hlt2 : w.heap.size < w2.heap.size := by have := HSZ2.out; omega
      have HSG : Hid (L.signals = g + nr + nl) := by unfold Hid LN.signals; rw [HG.out, HNR.out, HNL.out]
      have HB3 := hid (HB1.out.trans (HB2.out.mono (by have := HSZ1.out; omega)))
      have HI2 := hid (h'.mono (show w.heap.size + 1 ≤ w2.heap.size by omega))
      clear h' hs HTO HC2 hlt hk NOS FS HI HB1 HB2
      go_wp2_with fail
      clear x0 x1 x2
      go_loopw [49] (fun v wr => ∃ i : Nat, i ≤ nl ∧ v = .int .i64 i ∧ Below w2.heap.size w2 wr ∧ ∀ j, j < i → L.lutBad j = false) (fun v _ => nl - (intOf v).toNat)
      case atStart => exact ⟨0, Nat.zero_le _, rfl, Below.refl _ _, fun j hj => by omega⟩
      case round =>
        obtain ⟨i, hi, rfl, hbel, hto⟩ := hrel
        have HTO := hid hto
        have HBL := hid hbel
        have hsz := hbel.size
        have hltr : w.heap.size < wr.heap.size := by omega
        have HI3 := hid (HI2.out.stay HBL.out)
        clear hto hbel
        by_cases hlt : i < nl
        · have hiI : (i : Int) < nl := by omega
          have hi0 : (0 : Int) ≤ i := by omega
          have hrl : Cells w2.heap.size wr al (L.luts.length * 2) (lutCell L.luts A C) := HI3.out.rows.rl
          obtain ⟨b1, off, rfl, hb1, c0, c1⟩ := Cells.two hrl i (by rw [HNL.out]; exact hlt)
          rw [lutCell_0] at c0
          rw [lutCell_1] at c1
          have hri : Cells w2.heap.size wr (A i) (L.luts.getD i LT.zero).ins.length (fun j => .int .i64 ((L.luts.getD i LT.zero).ins.getD j 0)) := HI3.out.rows.ri i (by rw [HNL.out]; exact hlt)
          have hli := HI3.out.rows.li i
          unfold maxLen at hli
          have x2 := HI3.out.luts
          rw [HNL.out] at x2
          obtain ⟨t, ht⟩ : ∃ t, L.luts.getD i LT.zero = t := ⟨_, rfl⟩
          rw [ht] at c0 c1 hri hli
          have HT := hid ht
          obtain ⟨ins, tb⟩ := t
          simp only at c0 c1 hri hli x2
          obtain ⟨m, hm⟩ : ∃ m, ins.length = m := ⟨_, rfl⟩
          rw [hm] at c0 hri hli
          have HM := hid hm
          generalize A i = ai at c0 hri
          generalize C i = ci at c0
          have HBW := hid (show Below wr.heap.size wr (wr.alloc (.cells #[.slice ai m ci, .int .i64 tb] 91)) from (Below.refl _ _).alloc (Nat.le_refl _) _)
          have k0 : (wr.alloc (.cells #[.slice ai m ci, .int .i64 tb] 91)).cell? ⟨wr.heap.size, 0, none⟩ = some (.slice ai m ci) := (cell_new _ _ _ _).trans rfl
          have k1 : (wr.alloc (.cells #[.slice ai m ci, .int .i64 tb] 91)).cell? ⟨wr.heap.size, 1, none⟩ = some (.int .i64 tb) := (cell_new _ _ _ _).trans rfl
          have y2 := (HBW.out.cell (p := ⟨w.heap.size, 2, none⟩) hltr).trans x2
          have hri2 := hri.stay (HBW.out.mono hsz)
          have HSW := hid (show (wr.alloc (.cells #[.slice ai m ci, .int .i64 tb] 91)).heap.size = wr.heap.size + 1 by simp)
          have NOL : Hid (L.lutBad i = true → L.right = false) := fun h => LN.right_no_lut (by rw [HNL.out]; exact hlt) h
          have q3 : IntKind.i64.wrap (g + (nr : Int) + (nl : Int) - (nl : Int)) = g + nr := by rw [wrap_fit _ (by omega) (by omega)]; omega
          have q4 : IntKind.i64.wrap (g + (nr : Int) + (i : Int)) = g + nr + i := wrap_fit _ (by omega) (by omega)
          clear ht hm hri hrl
          go_upto_region 11 with fail
          generalize wr.alloc (.cells #[.slice ai m ci, .int .i64 tb] 91) = wb at *
          clear c0 c1 x2
          go_wp2_with fail
          go_loopw [8, 57] (fun v8 v wq => wb = wq ∧ ∃ j : Nat, j ≤ m ∧ v = .int .i64 j ∧ v8 = .int .i64 (mostN j) ∧ ∀ q, q < j → badB (g + nr + i) (ins.getD q 0) = false) (fun _ v _ => m - (intOf v).toNat)
          case atStart => exact ⟨rfl, 0, Nat.zero_le _, rfl, rfl, fun j hj => by omega⟩
          case round =>
            obtain ⟨rfl, j, hj, rfl, rfl, hjo⟩ := hrel
            have HJO := hid hjo
            clear hjo
            by_cases hjlt : j < m
            · have hjI : (j : Int) < m := by omega
              have hj0 : (0 : Int) ≤ j := by omega
              obtain ⟨bi, oi, rfl, hbi, hci⟩ := hri2.at (by omega)
              have d0 := hci j hjlt
              obtain ⟨x, hx⟩ : ∃ x, ins.getD j 0 = x := ⟨_, rfl⟩
              rw [hx] at d0
              have HX := hid hx
              clear hci hx
              have BAD : Hid (badB (g + nr + i) x = true → L.right = false) := fun h => NOL.out (LN.lutBad_ins (j := j) (by rw [HT.out, HM.out]; exact hjlt) (by rw [HT.out, HG.out, HNR.out, HX.out]; exact h))
              by_cases hx0 : x < 0
              · have NO := hid (BAD.out (badB_low hx0))
                go_wp2_with fail
                go_ret
                exact ⟨ret_bool NO.out.symm, HB3.out.trans ((HBL.out.trans (HBW.out.mono hsz)).mono (by omega))⟩
              have dx0 : decide (x < 0) = false := decide_eq_false hx0
              by_cases hx1 : g + nr + i ≤ x
              · have NO := hid (BAD.out (badB_high hx1))
                go_wp2_with fail
                go_ret
                exact ⟨ret_bool NO.out.symm, HB3.out.trans ((HBL.out.trans (HBW.out.mono hsz)).mono (by omega))⟩
              have dx1 : decide (g + (nr : Int) + (i : Int) ≤ x) = false := decide_eq_false hx1
              have HJ1 : Hid (∀ q, q < j + 1 → badB (g + nr + i) (ins.getD q 0) = false) := fun q hq => by
                by_cases e : q = j
                · subst e; rw [HX.out]; exact badB_no (by omega) (by omega)
                · exact HJO.out q (by omega)
              have hmf := mostN_fits j
              have HMS : Hid (mostN (j + 1) = if mostN j < 1048576 then mostN j * mostN j else mostN j) := rfl
              generalize mostN j = mj at *
              by_cases hmj : mj < 1048576
              · have q5 : IntKind.i64.wrap (mj * mj) = mj * mj := by
                  obtain ⟨z, rfl⟩ := Int.eq_ofNat_of_zero_le hmf.1
                  have hz : z ≤ 65536 := by omega
                  have := Nat.mul_le_mul hz hz
                  exact wrap_fit _ (by omega) (by omega)
                go_wp2_with fail
                go_roundw
                case rel => exact ⟨trivial, j + 1, by omega, by go_num, by rw [HMS.out, if_pos hmj], HJ1.out⟩
                case measure => simp [intOf]; omega
              · have dm : decide (mj < 1048576) = false := decide_eq_false hmj
                go_wp2_with fail
                go_roundw
                case rel => exact ⟨trivial, j + 1, by omega, by go_num, by rw [HMS.out, if_neg hmj], HJ1.out⟩
                case measure => simp [intOf]; omega
            · obtain rfl : m = j := by omega
              have HBX := hid (HBL.out.trans (HBW.out.mono hsz))
              by_cases h4 : (4 : Int) < (m : Int)
              · have NO := hid (NOL.out (LN.lutBad_long (by rw [HT.out, HM.out]; omega)))
                go_wp2_with fail
                go_ret
                exact ⟨ret_bool NO.out.symm, HB3.out.trans (HBX.out.mono (by omega))⟩
              have d4 : decide ((4 : Int) < (m : Int)) = false := decide_eq_false h4
              by_cases h5 : tb < 0
              · have NO := hid (NOL.out (LN.lutBad_low (by rw [HT.out]; exact h5)))
                go_wp2_with fail
                go_ret
                exact ⟨ret_bool NO.out.symm, HB3.out.trans (HBX.out.mono (by omega))⟩
              have d5 : decide (tb < 0) = false := decide_eq_false h5
              obtain ⟨mm, hmm⟩ : ∃ z, mostN m = z := ⟨_, rfl⟩
              rw [hmm]
              by_cases h6 : mm ≤ tb
              · have NO := hid (NOL.out (LN.lutBad_high (by rw [HT.out, HM.out]; omega) (by rw [HT.out, HM.out, hmm]; exact h6)))
                clear hmm
                go_wp2_with fail
                go_ret
                exact ⟨ret_bool NO.out.symm, HB3.out.trans (HBX.out.mono (by omega))⟩
              have d6 : decide (mm ≤ tb) = false := decide_eq_false h6
              have OK := hid (LN.lutBad_no (L := L) (i := i) (by rw [HT.out, HM.out]; omega) (by rw [HT.out]; exact Int.not_lt.1 h5) (by rw [HT.out, HM.out, hmm]; exact Int.not_le.1 h6) (fun q hq => by rw [HT.out] at hq ⊢; rw [HM.out] at hq; rw [HG.out, HNR.out]; exact HJO.out q hq))
              clear hmm
              go_wp2_with fail
              go_roundw
              case rel => exact ⟨i + 1, by omega, by go_num, HBX.out, fun q hq => by
                by_cases e : q = i
                · subst e; exact OK.out
                · exact HTO.out q (by omega)⟩
              case measure => simp [intOf]; omega
        · obtain rfl : nl = i := by omega
          have x1 := HI3.out.regs
          rw [HNR.out] at x1
          simp only at x1
          have HOKL := HTO
          go_wp2_with fail
          clear x1 HTO hlt hi
          obtain ⟨w5, rfl⟩ : ∃ wo : World, wo = wr := ⟨_, rfl⟩
          have HB5 := hid (HB3.out.trans (HBL.out.mono (by omega)))
          have HI5 := hid (HI3.out.mono hsz)
          clear HI3 HI2 HBL HB3
          go_loopw [99] (fun v wr => ∃ i : Nat, i ≤ nr ∧ v = .int .i64 i ∧ Below w5.heap.size w5 wr ∧ ∀ j, j < i → badB (g + nr + nl) (L.regs.getD j LR.zero).next = false) (fun v _ => nr - (intOf v).toNat)
          case atStart => exact ⟨0, Nat.zero_le _, rfl, Below.refl _ _, fun j hj => by omega⟩
          case round =>
            obtain ⟨i, hi, rfl, hbel, hto⟩ := hrel
            have HTO := hid hto
            have HBL := hid hbel
            have hszr := hbel.size
            have hltr : w.heap.size < wr.heap.size := by omega
            have HI6 := hid (HI5.out.stay HBL.out)
            clear hto hbel
            by_cases hlt : i < nr
            · have hiI : (i : Int) < nr := by omega
              have hi0 : (0 : Int) ≤ i := by omega
              have hrl : Cells w5.heap.size wr ar (L.regs.length * 2) (regCell L.regs) := HI6.out.rows.rr
              obtain ⟨b1, off, rfl, hb1, c0, c1⟩ := Cells.two hrl i (by rw [HNR.out]; exact hlt)
              rw [regCell_0] at c0
              rw [regCell_1] at c1
              obtain ⟨t, ht⟩ : ∃ t, L.regs.getD i LR.zero = t := ⟨_, rfl⟩
              rw [ht] at c0 c1
              have HT := hid ht
              obtain ⟨ib, x⟩ := t
              simp only at c0 c1
              clear ht hrl
              have BAD : Hid (badB (g + nr + nl) x = true → L.right = false) := fun h => LN.right_no_reg (i := i) (by rw [HNR.out]; exact hlt) (by rw [HT.out, HSG.out]; exact h)
              by_cases hx0 : x < 0
              · have NO := hid (BAD.out (badB_low hx0))
                go_wp2_with fail
                go_ret
                exact ⟨ret_bool NO.out.symm, HB5.out.trans ((HBL.out.alloc hszr _).mono (by omega))⟩
              have dx0 : decide (x < 0) = false := decide_eq_false hx0
              by_cases hx1 : g + nr + nl ≤ x
              · have NO := hid (BAD.out (badB_high hx1))
                go_wp2_with fail
                go_ret
                exact ⟨ret_bool NO.out.symm, HB5.out.trans ((HBL.out.alloc hszr _).mono (by omega))⟩
              have dx1 : decide (g + (nr : Int) + (nl : Int) ≤ x) = false := decide_eq_false hx1
              go_wp2_with fail
              go_roundw
              case rel => exact ⟨i + 1, by omega, by go_num, HBL.out.alloc hszr _, fun q hq => by
                by_cases e : q = i
                · subst e; rw [HT.out]; exact badB_no (k := x) (by omega) (by omega)
                · exact HTO.out q (by omega)⟩
              case measure => simp [intOf]; omega
            · obtain rfl : nr = i := by omega
              have x1 := HI6.out.outs
              rw [HNO.out] at x1
              simp only at x1
              have HOKR := HTO
              go_wp2_with fail
              clear x1 HTO hlt hi
              obtain ⟨w6, rfl⟩ : ∃ wo : World, wo = wr := ⟨_, rfl⟩
              go_loopw [116] (fun v wr => w6 = wr ∧ ∃ i : Nat, i ≤ no ∧ v = .int .i64 i ∧ ∀ j, j < i → badB (g + nr + nl) (L.outs.getD j 0) = false) (fun v _ => no - (intOf v).toNat)
              case atStart => exact ⟨rfl, 0, Nat.zero_le _, rfl, fun j hj => by omega⟩
              case round =>
                obtain ⟨rfl, i, hi, rfl, hto⟩ := hrel
                have HTO := hid hto
                clear hto
                by_cases hlt : i < no
                · have hiI : (i : Int) < no := by omega
                  have hi0 : (0 : Int) ≤ i := by omega
                  have hrl : Cells w5.heap.size w6 ao L.outs.length (fun i => .int .i64 (L.outs.getD i 0)) := HI6.out.rows.ro
                  obtain ⟨b1, off, rfl, hb1, hc⟩ := hrl.at (by rw [HNO.out]; omega)
                  have c0 := hc i (by rw [HNO.out]; exact hlt)
                  obtain ⟨x, ht⟩ : ∃ t, L.outs.getD i 0 = t := ⟨_, rfl⟩
                  rw [ht] at c0
                  have HT := hid ht
                  clear ht hrl hc
                  have BAD : Hid (badB (g + nr + nl) x = true → L.right = false) := fun h => LN.right_no_out (i := i) (by rw [HNO.out]; exact hlt) (by rw [HT.out, HSG.out]; exact h)
                  by_cases hx0 : x < 0
                  · have NO := hid (BAD.out (badB_low hx0))
                    go_wp2_with fail
                    go_ret
                    exact ⟨ret_bool NO.out.symm, HB5.out.trans (HBL.out.mono (by omega))⟩
                  have dx0 : decide (x < 0) = false := decide_eq_false hx0
                  by_cases hx1 : g + nr + nl ≤ x
                  · have NO := hid (BAD.out (badB_high hx1))
                    go_wp2_with fail
                    go_ret
                    exact ⟨ret_bool NO.out.symm, HB5.out.trans (HBL.out.mono (by omega))⟩
                  have dx1 : decide (g + (nr : Int) + (nl : Int) ≤ x) = false := decide_eq_false hx1
                  go_wp2_with fail
                  go_roundw
                  case rel => exact ⟨trivial, i + 1, by omega, by go_num, fun q hq => by
                    by_cases e : q = i
                    · subst e; rw [HT.out]; exact badB_no (by omega) (by omega)
                    · exact HTO.out q (by omega)⟩
                  case measure => simp [intOf]; omega
                · obtain rfl : no = i := by omega
                  have YES : Hid (L.right = true) := LN.right_yes HS.out (fun i hi => HOKL.out i (by rw [HNL.out] at hi; exact hi)) (fun i hi => by rw [HSG.out]; exact HOKR.out i (by rw [HNR.out] at hi; exact hi)) (fun i hi => by rw [HSG.out]; exact HTO.out i (by rw [HNO.out] at hi; exact hi))
                  go_wp2_with fail
                  go_ret
                  exact ⟨ret_bool YES.out.symm, HB5.out.trans (HBL.out.mono (by omega))⟩
end
end Go.Proofs.YtlaeflpddehipabDoor
end
section
set_option linter.unusedVariables false
set_option linter.unusedSimpArgs false
namespace Go.Proofs.YtlaeflpddehipabDoor
open Go.RowKit

theorem badB_false {s k : Int} (h : badB s k = false) : 0 ≤ k ∧ k < s := by
  unfold badB at h
  simp only [Bool.or_eq_false_iff, decide_eq_false_iff_not] at h
  omega
structure LN.Good (L : LN) : Prop where
  g0 : 0 ≤ L.given
  g1 : L.given ≤ 20000
  r1 : L.regs.length ≤ 20000
  l1 : L.luts.length ≤ 20000
  o1 : L.outs.length ≤ 20000
  four : ∀ i, i < L.luts.length → (L.luts.getD i LT.zero).ins.length ≤ 4
  tab0 : ∀ i, i < L.luts.length → 0 ≤ (L.luts.getD i LT.zero).table
  tab1 : ∀ i, i < L.luts.length → (L.luts.getD i LT.zero).table < 65536
  ins : ∀ i j, i < L.luts.length → j < (L.luts.getD i LT.zero).ins.length → 0 ≤ (L.luts.getD i LT.zero).ins.getD j 0 ∧ (L.luts.getD i LT.zero).ins.getD j 0 < L.given + L.regs.length + i
  regs : ∀ i, i < L.regs.length → 0 ≤ (L.regs.getD i LR.zero).next ∧ (L.regs.getD i LR.zero).next < L.given + L.regs.length + L.luts.length
  outs : ∀ i, i < L.outs.length → 0 ≤ L.outs.getD i 0 ∧ L.outs.getD i 0 < L.given + L.regs.length + L.luts.length
theorem LN.good {L : LN} (h : L.right = true) : L.Good := by
  have h0 := h
  unfold LN.right at h0
  simp only [Bool.and_eq_true] at h0
  obtain ⟨⟨⟨hs, _⟩, _⟩, _⟩ := h0
  obtain ⟨z0, z1, z2, z3, z4⟩ := LN.sizes_of hs
  have hl : ∀ i, i < L.luts.length → L.lutBad i = false := fun i hi => by
    cases hb : L.lutBad i
    · rfl
    · have := LN.right_no_lut hi hb
      rw [h] at this
      cases this
  have hl2 : ∀ i, i < L.luts.length → (L.luts.getD i LT.zero).ins.length ≤ 4 ∧ 0 ≤ (L.luts.getD i LT.zero).table ∧ (L.luts.getD i LT.zero).table < 2 ^ (2 ^ (L.luts.getD i LT.zero).ins.length) ∧ L.insBad i = false := fun i hi => by
    have hb := hl i hi
    unfold LN.lutBad at hb
    simp only [Bool.or_eq_false_iff, decide_eq_false_iff_not] at hb
    exact ⟨Nat.not_lt.1 hb.1.1.1, Int.not_lt.1 hb.1.1.2, Int.not_le.1 hb.1.2, hb.2⟩
  refine ⟨z0, z1, z2, z3, z4, fun i hi => (hl2 i hi).1, fun i hi => (hl2 i hi).2.1, fun i hi => ?_, fun i j hi hj => ?_, fun i hi => ?_, fun i hi => ?_⟩
  · obtain ⟨h4, _, h3, _⟩ := hl2 i hi
    have hp : (2 : Int) ^ (2 ^ (L.luts.getD i LT.zero).ins.length) ≤ 65536 := by
      generalize (L.luts.getD i LT.zero).ins.length = n at h4
      rcases n with _ | _ | _ | _ | _ | n
      · decide
      · decide
      · decide
      · decide
      · decide
      · omega
    omega
  · have hb := (hl2 i hi).2.2.2
    unfold LN.insBad at hb
    rw [List.any_eq_false] at hb
    have := hb j (List.mem_range.2 hj)
    exact badB_false (by simpa using this)
  · have hb : badB L.signals (L.regs.getD i LR.zero).next = false := by
      cases hb : badB L.signals (L.regs.getD i LR.zero).next
      · rfl
      · have := LN.right_no_reg hi hb
        rw [h] at this
        cases this
    exact badB_false hb
  · have hb : badB L.signals (L.outs.getD i 0) = false := by
      cases hb : badB L.signals (L.outs.getD i 0)
      · rfl
      · have := LN.right_no_out hi hb
        rw [h] at this
        cases this
    exact badB_false hb
/-- Numbers as cells. -/
def nums (f : Nat → Nat) (n : Nat) : Array Value := ((List.range n).map fun s => Value.int .i64 (f s : Int)).toArray
theorem nums_get (f : Nat → Nat) (n j : Nat) (h : j < n) : (nums f n)[j]? = some (.int .i64 (f j : Int)) := by
  simp [nums, h]
theorem nums_set (f : Nat → Nat) (n j v : Nat) (h : j < n) : (nums f n).setIfInBounds j (.int .i64 (v : Int)) = nums (fun s => if s = j then v else f s) n := by
  apply Array.ext'
  apply List.ext_getElem?
  intro i
  simp only [nums, Array.toList_setIfInBounds, List.getElem?_set, List.length_map, List.length_range, List.getElem?_map, List.getElem?_range]
  by_cases hij : j = i
  · subst hij
    simp [h]
  · have : ¬ i = j := fun e => hij e.symm
    by_cases hin : i < n
    · simp [hij, hin, this]
    · simp [hij, hin]
def IRow (w : World) (r n : Nat) (f : Nat → Nat) : Prop := w.heap[r]? = some (.cells (nums f n) 3 (0, 0))
theorem IRow.cell {w : World} {r n : Nat} {f : Nat → Nat} (h : IRow w r n f) (j : Nat) (hj : j < n) : w.cell? ⟨r, j, none⟩ = some (.int .i64 (f j : Int)) := by
  rw [cell_block h j, nums_get f n j hj]
theorem IRow.set {w : World} {r n : Nat} {f g : Nat → Nat} (h : IRow w r n f) (j v : Nat) (hj : j < n) (e : ∀ s, s < n → g s = if s = j then v else f s) : IRow (w.setCell ⟨r, j, none⟩ (.int .i64 (v : Int))) r n g := by
  have h1 := boxSet h j (.int .i64 (v : Int))
  rw [nums_set f n j v hj] at h1
  unfold IRow
  rw [h1]
  have e2 : nums (fun s => if s = j then v else f s) n = nums g n := by
    unfold nums
    congr 1
    exact List.map_congr_left fun s hs => by rw [e s (List.mem_range.1 hs)]
  rw [e2]
theorem Tryd.lsInfoInt : (Tryd.prog.info? 3).map (fun i => (i.zero, i.size, i.bytes)) = some (some (.int .i64 0), 1, 8) := by kernel_rfl
theorem Tryd.make_ints (n : Nat) (hn : n ≤ 1000000) (u : World) : (Instr.makeSlice 24 (.int .i64 (n : Int)) (.int .i64 (n : Int))).run Tryd.prog u = .ok (.slice (some ⟨u.heap.size, 0, none⟩) n n) (u.alloc (.cells (nums (fun _ => 0) n) 3)) := by
  obtain ⟨i0, hi, hz0, hz1, hz2⟩ := info_parts Tryd.lsInfoInt
  have h := run_make (P := Tryd.prog) u 24 3 i0 (.int .i64 0) Tryd.underlying24 hi hz0 .i64 .i64 (n : Int) (n : Int) (by omega) (Int.le_refl _) (by rw [hz2]; omega) (by omega)
  have e : madeCells #[Value.int .i64 0] n = nums (fun _ => 0) n := by
    apply Array.ext'
    rw [toList_madeCells_one]
    apply List.ext_getElem?
    intro i
    by_cases hin : i < n
    · simp [nums, hin]
    · simp [nums, hin]
  rw [Int.toNat_natCast] at h
  rw [h, hz1]
  simp [Value.cells, e]
end Go.Proofs.YtlaeflpddehipabDoor
end
