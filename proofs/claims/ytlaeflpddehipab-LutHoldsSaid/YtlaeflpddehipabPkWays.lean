/- lut.packer.ways; the library's stable sort, of one cut and of two that stand the wrong way round. -/
import Derived.Test.YtlaeflpddehipabPkAddTo
set_option linter.unusedVariables false
set_option linter.unusedSimpArgs false
set_option linter.unusedSectionVars false
namespace Go.Proofs.Ytlaeflpddehipab
open Go.RowKit
attribute [local go_sem ↓] Go.wp_at_zero Go.wp_at_succ

theorem Try.pkRowI : (Try.prog.info? 24).map (fun i => (i.zero, i.size, i.bytes)) = some (some (.slice none 0 0), 1, 24) := by kernel_rfl
section
variable (bp bN bl n cn bc ncc : Nat)
set_option maxRecDepth 100000 in
set_option maxHeartbeats 1600000 in
theorem PkWays0 (W : World) (k : Nat) (op : Int) (hM : PkM W bp bN bl n cn) (hkn : k < n) (hop : W.cell? ⟨bl, k * 4, none⟩ = some (.int .i64 op)) (h1 : op ≠ 1) (h2 : op ≠ 2)
    (x1 : W.cell? ⟨bp, 1, none⟩ = some (.slice (some ⟨bc, 0, none⟩) n ncc)) (y : W.cell? ⟨bc, k, none⟩ = some (.slice none 0 0)) (hbc : bc < W.heap.size) :
    Calls Try.prog 29 #[.pointer (some ⟨bp, 0, none⟩), .int .i64 (k : Int)] W fun e w' =>
      ∃ r q, e = .returned (.slice (some ⟨r, 0, none⟩) 1 1) ∧ w'.heap[r]? = some (.cells #[.slice (some ⟨q, 0, none⟩) 1 1] 24 (0, 0)) ∧ w'.heap[q]? = some (.cells #[.int .i64 (k : Int)] 3 (0, 0)) ∧ W.heap.size ≤ q ∧ W.heap.size ≤ r ∧ Below W.heap.size W w' := by
  have z0 := hM.x0
  have z1 := hM.x1
  have hl0 := hM.l0
  have d1 : (op == 1) = false := beq_eq_false_iff_ne.2 h1
  have d2 : (op == 2) = false := beq_eq_false_iff_ne.2 h2
  have hkI : (k : Int) < (n : Int) := by omega
  have hk0 : (0 : Int) ≤ (k : Int) := by omega
  have HW := hid (show ∀ W2, (W.alloc (.cells #[.int .i64 (k : Int)] 3)).alloc (.cells #[.slice (some ⟨W.heap.size, 0, none⟩) 1 1] 24) = W2 → Below W.heap.size W W2 ∧ W2.heap[W.heap.size]? = some (.cells #[.int .i64 (k : Int)] 3 (0, 0)) ∧ W2.heap[W.heap.size + 1]? = some (.cells #[.slice (some ⟨W.heap.size, 0, none⟩) 1 1] 24 (0, 0)) from by
    rintro W2 rfl
    refine ⟨((Below.refl _ _).alloc (Nat.le_refl _) _).alloc (by simp) _, (Below.heap_alloc _ _ _ (by simp)).trans (alloc_at _ _), ?_⟩
    have := alloc_at (W.alloc (.cells #[.int .i64 (k : Int)] 3)) (.cells #[.slice (some ⟨W.heap.size, 0, none⟩) 1 1] 24)
    simpa using this)
  clear hM h1 h2
  go_enter Try.func29, Try.ntmps29
  go_upto_region 6 with fail
  obtain ⟨W2, hW2⟩ : ∃ W2, (W.alloc (.cells #[.int .i64 (k : Int)] 3)).alloc (.cells #[.slice (some ⟨W.heap.size, 0, none⟩) 1 1] 24) = W2 := ⟨_, rfl⟩
  obtain ⟨hb, hq, hr⟩ := HW.out W2 hW2
  rw [hW2]
  have x1' := (hb.cell (p := ⟨bp, 1, none⟩) hl0).trans x1
  have y' := (hb.cell (p := ⟨bc, k, none⟩) hbc).trans y
  have HB := hid hb
  have HQ := hid hq
  have HR := hid hr
  clear hW2 hb hq hr HW x1 y z0 z1 hop
  go_wp2_with fail
  clear x1' y'
  go_loopw [5, 34] (fun v5 v wr => wr = W2 ∧ v = .int .i64 0 ∧ v5 = .slice (some ⟨W.heap.size + 1, 0, none⟩) 1 1) (fun _ _ _ => 0)
  case atStart => exact ⟨rfl, rfl, rfl⟩
  case round =>
    obtain ⟨hwr, rfl, rfl⟩ := hrel
    subst wr
    go_wp2_with fail
    go_ret
    exact ⟨W.heap.size + 1, W.heap.size, rfl, HR.out, HQ.out, Nat.le_refl _, Nat.le_succ _, HB.out⟩
set_option maxRecDepth 100000 in
set_option maxHeartbeats 1600000 in
theorem PkWays1 (W : World) (k g gl nl cl c : Nat) (op d : Int) (hM : PkM W bp bN bl n cn) (hkn : k < n) (hop : W.cell? ⟨bl, k * 4, none⟩ = some (.int .i64 op)) (h1 : op ≠ 1) (h2 : op ≠ 2)
    (x1 : W.cell? ⟨bp, 1, none⟩ = some (.slice (some ⟨bc, 0, none⟩) n ncc)) (y : W.cell? ⟨bc, k, none⟩ = some (.slice (some ⟨g, 0, none⟩) 1 c)) (hbc : bc < W.heap.size) (hg : g < W.heap.size) (u0 : W.cell? ⟨g, 0, none⟩ = some (.slice (some ⟨gl, 0, none⟩) nl cl)) (u1 : W.cell? ⟨g, 1, none⟩ = some (.int .i64 d)) :
    Calls Try.prog 29 #[.pointer (some ⟨bp, 0, none⟩), .int .i64 (k : Int)] W fun e w' =>
      ∃ r q c' cs, e = .returned (.slice (some ⟨r, 0, none⟩) 2 c') ∧ w'.heap[r]? = some (.cells cs 24 (0, 0)) ∧ cs[0]? = some (.slice (some ⟨q, 0, none⟩) 1 1) ∧ cs[1]? = some (.slice (some ⟨gl, 0, none⟩) nl cl) ∧ w'.heap[q]? = some (.cells #[.int .i64 (k : Int)] 3 (0, 0)) ∧ W.heap.size ≤ q ∧ W.heap.size ≤ r ∧ Below W.heap.size W w' := by
  obtain ⟨i0, hi, hz0, hz1, hz2⟩ := info_parts Try.pkRowI
  have z0 := hM.x0
  have z1 := hM.x1
  have hl0 := hM.l0
  have d1 : (op == 1) = false := beq_eq_false_iff_ne.2 h1
  have d2 : (op == 2) = false := beq_eq_false_iff_ne.2 h2
  have hkI : (k : Int) < (n : Int) := by omega
  have hk0 : (0 : Int) ≤ (k : Int) := by omega
  have HW := hid (show ∀ W2, (W.alloc (.cells #[.int .i64 (k : Int)] 3)).alloc (.cells #[.slice (some ⟨W.heap.size, 0, none⟩) 1 1] 24) = W2 → Below W.heap.size W W2 ∧ W2.heap[W.heap.size]? = some (.cells #[.int .i64 (k : Int)] 3 (0, 0)) ∧ W2.heap[W.heap.size + 1]? = some (.cells #[.slice (some ⟨W.heap.size, 0, none⟩) 1 1] 24 (0, 0)) ∧ W2.heap.size = W.heap.size + 2 from by
    rintro W2 rfl
    refine ⟨((Below.refl _ _).alloc (Nat.le_refl _) _).alloc (by simp) _, (Below.heap_alloc _ _ _ (by simp)).trans (alloc_at _ _), ?_, by simp⟩
    have := alloc_at (W.alloc (.cells #[.int .i64 (k : Int)] 3)) (.cells #[.slice (some ⟨W.heap.size, 0, none⟩) 1 1] 24)
    simpa using this)
  clear hM h1 h2
  go_enter Try.func29, Try.ntmps29
  go_upto_region 6 with fail
  obtain ⟨W2, hW2⟩ : ∃ W2, (W.alloc (.cells #[.int .i64 (k : Int)] 3)).alloc (.cells #[.slice (some ⟨W.heap.size, 0, none⟩) 1 1] 24) = W2 := ⟨_, rfl⟩
  obtain ⟨hb, hq, hr, hsz⟩ := HW.out W2 hW2
  rw [hW2]
  have x1' := (hb.cell (p := ⟨bp, 1, none⟩) hl0).trans x1
  have y' := (hb.cell (p := ⟨bc, k, none⟩) hbc).trans y
  have U0 := hid ((hb.cell (p := ⟨g, 0, none⟩) hg).trans u0)
  have U1 := hid ((hb.cell (p := ⟨g, 1, none⟩) hg).trans u1)
  have HB := hid hb
  have HQ := hid hq
  have HR := hid hr
  have HSZ := hid hsz
  clear hW2 hb hq hr HW x1 y z0 z1 hop u0 u1 hsz
  go_wp2_with fail
  clear x1' y'
  go_loopw [5, 34] (fun v5 v wr => ∃ i : Nat, v = .int .i64 (i : Int) ∧ ((i = 0 ∧ wr = W2 ∧ v5 = .slice (some ⟨W.heap.size + 1, 0, none⟩) 1 1) ∨ (i = 1 ∧ ∃ r c' cs, v5 = .slice (some ⟨r, 0, none⟩) 2 c' ∧ wr.heap[r]? = some (.cells cs 24 (0, 0)) ∧ cs[0]? = some (.slice (some ⟨W.heap.size, 0, none⟩) 1 1) ∧ cs[1]? = some (.slice (some ⟨gl, 0, none⟩) nl cl) ∧ wr.heap[W.heap.size]? = some (.cells #[.int .i64 (k : Int)] 3 (0, 0)) ∧ W.heap.size ≤ r ∧ Below W.heap.size W wr))) (fun _ v _ => 1 - (intOf v).toNat)
  case atStart => exact ⟨0, rfl, .inl ⟨rfl, rfl, rfl⟩⟩
  case round =>
    obtain ⟨i, rfl, hcase⟩ := hrel
    rcases hcase with ⟨rfl, hwr, rfl⟩ | ⟨rfl, r, c', cs, rfl, hr, hc0, hc1, hq, hrl, hbe⟩
    · subst wr
      rw [show ((0 : Nat) : Int) = 0 from rfl]
      have u0 := U0.out
      have u1 := U1.out
      have hg2 : g < W2.heap.size := by have := HSZ.out; omega
      have HA := hid (show ∀ W3, W2.alloc (.cells #[.slice (some ⟨gl, 0, none⟩) nl cl, .int .i64 d] 83) = W3 → Below W2.heap.size W2 W3 ∧ W3.cell? ⟨W2.heap.size, 0, none⟩ = some (.slice (some ⟨gl, 0, none⟩) nl cl) from by
        rintro W3 rfl
        exact ⟨(Below.refl _ _).alloc (Nat.le_refl _) _, (cell_new _ _ _ _).trans rfl⟩)
      have HOW := hid (show W2.ownsRow W.heap.size 24 1 (.slice (some ⟨W.heap.size + 1, 0, none⟩) 1 1) 1 [.slice (some ⟨W.heap.size, 0, none⟩) 1 1] from ⟨rfl, .inr ⟨W.heap.size + 1, 1, _, rfl, Nat.le_succ _, HR.out, Nat.le_refl _, by decide, rfl, rfl⟩⟩)
      go_upto_region 9 with fail
      obtain ⟨W3, hW3⟩ : ∃ W3, W2.alloc (.cells #[.slice (some ⟨gl, 0, none⟩) nl cl, .int .i64 d] 83) = W3 := ⟨_, rfl⟩
      obtain ⟨hal, t70⟩ := HA.out W3 hW3
      rw [hW3]
      have HAL := hid hal
      have HOW2 := hid (rowOld HOW.out hal)
      have HBW := hid (HB.out.trans (hal.mono HB.out.size))
      have hsz3 : W.heap.size ≤ W3.heap.size := HBW.out.size
      clear hW3 hal u0 u1
      go_wp2_with (at_builtin; refine wpList_push _ W W3 rfl _ _ 75 rfl 24 i0 (.slice none 0 0) 1 24 Try.underlying75 hi hz0 hz1 hz2 rfl (by decide) W.heap.size _ _ _ rfl HOW2.out 1 1 _ rfl rfl rfl rfl ?c3 ?c4 HBW.out (Nat.le_refl _) hsz3 ?_)
      case c3 => unfold maxLen; omega
      case c4 => omega
      intro v' w8 hown3 hbel3 hg3 _
      have hq8 : w8.heap[W.heap.size]? = some (.cells #[.int .i64 (k : Int)] 3 (0, 0)) := by
        have h1 := HSZ.out
        have h2 := HAL.out.size
        rw [hg3.block W.heap.size (by omega) (fun e => by injection (show some W.heap.size = some (W.heap.size + 1) from e) with e; omega), HAL.out.block W.heap.size (by omega)]
        exact HQ.out
      obtain ⟨r, c', cs, rfl, hrl, hr, hc0, hc1⟩ : ∃ r c' cs, v' = .slice (some ⟨r, 0, none⟩) 2 c' ∧ W.heap.size ≤ r ∧ w8.heap[r]? = some (.cells cs 24 (0, 0)) ∧ cs[0]? = some (.slice (some ⟨W.heap.size, 0, none⟩) 1 1) ∧ cs[1]? = some (.slice (some ⟨gl, 0, none⟩) nl cl) := by
        rcases hown3.2 with ⟨_, h0⟩ | ⟨r, c', cs, e, hrl, hr, _, _, _, htk⟩
        · cases h0
        · have hat : ∀ (j : Nat) (u : Value), [Value.slice (some ⟨W.heap.size, 0, none⟩) 1 1, Value.slice (some ⟨gl, 0, none⟩) nl cl][j]? = some u → cs[j]? = some u := fun j u hj => by
            have h2 : (cs.toList.take ((1 + 1) * 1))[j]? = some u := by rw [htk]; exact hj
            have hj2 : j < 2 := by have := (List.getElem?_eq_some_iff.1 hj).1; simpa using this
            rw [List.getElem?_take_of_lt (by omega), Array.getElem?_toList] at h2
            exact h2
          exact ⟨r, c', cs, e, hrl, hr, hat 0 _ rfl, hat 1 _ rfl⟩
      have HH := hid (⟨hr, hc0, hc1, hq8, hrl, hbel3⟩ : w8.heap[r]? = some (.cells cs 24 (0, 0)) ∧ cs[0]? = some (.slice (some ⟨W.heap.size, 0, none⟩) 1 1) ∧ cs[1]? = some (.slice (some ⟨gl, 0, none⟩) nl cl) ∧ w8.heap[W.heap.size]? = some (.cells #[.int .i64 (k : Int)] 3 (0, 0)) ∧ W.heap.size ≤ r ∧ Below W.heap.size W w8)
      clear hown3 hbel3 hg3 hr hc0 hc1 hq8 hrl t70
      go_wp2
      go_roundw
      case rel => exact ⟨1, by go_num, .inr ⟨rfl, r, c', cs, rfl, HH.out⟩⟩
      case measure => simp [intOf]
    · rw [show ((1 : Nat) : Int) = 1 from rfl]
      have HH := hid (⟨hr, hc0, hc1, hq, Nat.le_refl _, hrl, hbe⟩ : wr.heap[r]? = some (.cells cs 24 (0, 0)) ∧ cs[0]? = some (.slice (some ⟨W.heap.size, 0, none⟩) 1 1) ∧ cs[1]? = some (.slice (some ⟨gl, 0, none⟩) nl cl) ∧ wr.heap[W.heap.size]? = some (.cells #[.int .i64 (k : Int)] 3 (0, 0)) ∧ W.heap.size ≤ W.heap.size ∧ W.heap.size ≤ r ∧ Below W.heap.size W wr)
      clear hr hc0 hc1 hq hrl hbe
      go_wp2_with fail
      go_ret
      exact ⟨r, W.heap.size, c', cs, rfl, HH.out⟩
end
end Go.Proofs.Ytlaeflpddehipab
