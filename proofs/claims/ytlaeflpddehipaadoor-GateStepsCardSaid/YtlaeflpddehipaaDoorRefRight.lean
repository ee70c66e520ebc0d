/- The document's Net.Right, walked. -/
import Derived.Test.YtlaeflpddehipaaDoorRefNet
import Derived.Test.YtlaeflpddehipaaDoorNetRight2
set_option linter.unusedVariables false
namespace Go.Proofs.YtlaeflpddehipaaDoor
open Go.RowKit

theorem Net.right_no {N : Net} (hs : N.sizes = true) {k : Nat} (hk : k < N.nodes.length) (h : nodeRight N.given N.nodes.length k (N.nodes.getD k GN.zero) = false) : N.right = false := by
  unfold Net.right
  rw [hs, N.rightTo_mono (k + 1) _ (by omega) (by rw [N.rightTo_succ, h]; simp)]
  rfl
section
variable (B : Nat) (a : Option Addr) (c : Nat) (a' : Option Addr) (c' : Nat) (N : Net) (w : World)
set_option maxRecDepth 100000 in
set_option maxHeartbeats 1600000 in
theorem RefRight_sizes (hs : N.sizes = false) : Calls Tryd.prog 7 #[.agg #[.int .i64 N.given, .slice a N.nodes.length c, .slice a' N.outs.length c']] w (Tells N.right w) := by
  have E : Hid (N.right = false) := by unfold Hid Net.right; rw [hs]; rfl
  have hs' : ¬ (0 ≤ N.given ∧ N.given ≤ 20000 ∧ N.nodes.length ≤ 20000 ∧ N.outs.length ≤ 20000) := by simpa [Net.sizes] using hs
  generalize N.right = r at *
  generalize N.nodes.length = n at *
  generalize N.outs.length = n' at *
  generalize N.given = g at *
  cases h0 : decide (0 ≤ g ∧ g ≤ 20000)
  · have H0 := hid h0
    clear hs' h0 hs
    go_enter Tryd.func7, Tryd.ntmps7
    go_wp2_with (go_at_call 26; (with_reducible refine (rin_is g 0 20000 false H0 _).mono ?_); rintro e w2 ⟨rfl, rfl⟩)
    go_ret
    exact ⟨ret_bool E.out.symm, (Below.refl _ _).alloc (Nat.le_refl _) _⟩
  · have hg := of_decide_eq_true h0
    have H0 := hid h0
    clear h0
    by_cases h2 : (20000 : Int) < n
    · clear hs' hs
      go_enter Tryd.func7, Tryd.ntmps7
      go_wp2_with (go_at_call 26; (with_reducible refine (rin_is g 0 20000 true H0 _).mono ?_); rintro e w2 ⟨rfl, rfl⟩)
      go_ret
      exact ⟨ret_bool E.out.symm, (Below.refl _ _).alloc (Nat.le_refl _) _⟩
    · have d2 : decide ((20000 : Int) < n) = false := decide_eq_false h2
      have h3 : (20000 : Int) < n' := by omega
      clear hs' hs
      go_enter Tryd.func7, Tryd.ntmps7
      go_wp2_with (go_at_call 26; (with_reducible refine (rin_is g 0 20000 true H0 _).mono ?_); rintro e w2 ⟨rfl, rfl⟩)
      go_ret
      exact ⟨ret_bool E.out.symm, (Below.refl _ _).alloc (Nat.le_refl _) _⟩
set_option maxRecDepth 100000 in
set_option maxHeartbeats 12800000 in
theorem RefRight_small (h : NetRows B w a c a' c' N) (hB : B ≤ w.heap.size) (hs : N.sizes = true) : Calls Tryd.prog 7 #[.agg #[.int .i64 N.given, .slice a N.nodes.length c, .slice a' N.outs.length c']] w (Tells N.right w) := by
  have HI := hid (rbox B a c a' c' N w h hB)
  have HB1 := hid (show Below w.heap.size w (w.alloc (.cells #[.int .i64 N.given, .slice a N.nodes.length c, .slice a' N.outs.length c'] 29)) from (Below.refl _ _).alloc (Nat.le_refl _) _)
  have HSZ1 := hid (show (w.alloc (.cells #[.int .i64 N.given, .slice a N.nodes.length c, .slice a' N.outs.length c'] 29)).heap.size = w.heap.size + 1 by simp)
  have E : Hid (N.right = (N.rightTo N.nodes.length && N.outsTo N.outs.length)) := by unfold Hid Net.right; rw [hs]; rfl
  have hs' : 0 ≤ N.given ∧ N.given ≤ 20000 ∧ N.nodes.length ≤ 20000 ∧ N.outs.length ≤ 20000 := by simpa [Net.sizes] using hs
  have HSS := hid hs
  obtain ⟨n, hN⟩ : ∃ n, N.nodes.length = n := ⟨_, rfl⟩
  obtain ⟨n', hN'⟩ : ∃ n, N.outs.length = n := ⟨_, rfl⟩
  obtain ⟨g, hG⟩ : ∃ n, N.given = n := ⟨_, rfl⟩
  rw [hN, hN', hG] at hs'
  rw [hN, hN', hG] at HI HB1 HSZ1 ⊢
  have HN := hid hN
  have HN' := hid hN'
  have HGV := hid hG
  obtain ⟨s0, s1, s2, s3⟩ := hs'
  have H0 : Hid (decide (0 ≤ g ∧ g ≤ 20000) = true) := decide_eq_true ⟨s0, s1⟩
  have d2 : decide ((20000 : Int) < n) = false := decide_eq_false (by omega)
  have d3 : decide ((20000 : Int) < n') = false := decide_eq_false (by omega)
  clear h hs hN hN' hG
  go_enter Tryd.func7, Tryd.ntmps7
  go_upto_region 1 with fail
  generalize w.alloc (.cells #[.int .i64 g, .slice a n c, .slice a' n' c'] 29) = w1 at *
  have hn1 := HI.out.nodes
  have ho1 := HI.out.outs
  have hg1 := HI.out.g
  rw [HN.out] at hn1
  rw [HN'.out] at ho1
  rw [HGV.out] at hg1
  have hlt1 : w.heap.size < w1.heap.size := by have := HSZ1.out; omega
  have hle1 : w.heap.size + 1 ≤ w1.heap.size := by omega
  go_upto_region 5 with (go_at_call 26; (with_reducible refine (rin_is g 0 20000 true H0 _).mono ?_); rintro e w2 ⟨rfl, rfl⟩)
  clear d2 d3 hn1 ho1 hg1
  go_loopw [29] (fun v wr => ∃ k : Nat, k ≤ n ∧ v = .int .i64 k ∧ Below w1.heap.size w1 wr ∧ N.rightTo k = true) (fun v _ => n - (intOf v).toNat)
  case atStart => exact ⟨0, Nat.zero_le _, rfl, Below.refl _ _, rfl⟩
  case round =>
    obtain ⟨k, hk, rfl, hbel, hto⟩ := hrel
    have HTO := hid hto
    have h' := HI.out.stay (hbel.mono hle1)
    have hg2 := h'.g
    have ho2 := h'.outs
    rw [HGV.out] at hg2
    rw [HN'.out] at ho2
    have H' := hid h'
    have hsz := hbel.size
    have hltr : w.heap.size < wr.heap.size := by omega
    have HBL := hid hbel
    clear hto h' hbel
    by_cases hlt : k < n
    · obtain ⟨b1, off, rfl, hb1, c0, c1, c2, c3⟩ := H'.out.node k (by rw [HN.out]; exact hlt)
      have hkI : (k : Int) < n := by omega
      have hk0 : (0 : Int) ≤ k := by omega
      obtain ⟨x, hx⟩ : ∃ x, N.nodes.getD k GN.zero = x := ⟨_, rfl⟩
      rw [hx] at c0 c1 c2 c3
      have HX := hid hx
      obtain ⟨op, xa, xb, xn⟩ := x
      simp only at c0 c1 c2 c3
      have HS := hid (N.rightTo_succ k)
      clear hx ho2
      have YES : Hid (nodeRight g n k ⟨op, xa, xb, xn⟩ = true → N.rightTo (k + 1) = true) := fun hh => by rw [HS.out, HX.out, HTO.out, HGV.out, HN.out]; exact hh
      have NO : Hid (nodeRight g n k ⟨op, xa, xb, xn⟩ = false → N.right = false) := fun hh => Net.right_no HSS.out (k := k) (by rw [HN.out]; exact hlt) (by rw [HX.out, HGV.out, HN.out]; exact hh)
      by_cases o1 : op = 1
      · subst o1
        have F := hid (YES.out rfl)
        go_wp2_with (fail)
        go_roundw
        case rel => exact ⟨k + 1, by omega, by go_num, HBL.out.alloc hsz _, F.out⟩
        case measure => simp [intOf]; omega
      by_cases o2 : op = 2
      · subst o2
        have F := hid (YES.out rfl)
        go_wp2_with (fail)
        go_roundw
        case rel => exact ⟨k + 1, by omega, by go_num, HBL.out.alloc hsz _, F.out⟩
        case measure => simp [intOf]; omega
      by_cases o3 : op = 3
      · subst o3
        by_cases e0 : 0 ≤ xa
        rotate_left
        · have d0 : decide (0 ≤ xa) = false := decide_eq_false e0
          have F := hid (NO.out (by unfold nodeRight aheadB; simp; omega))
          go_wp2_with (fail)
          go_ret
          exact ⟨ret_bool F.out.symm, HB1.out.trans ((HBL.out.mono (by omega)).alloc (by omega) _)⟩
        by_cases e1 : xa < g
        rotate_left
        · have d1 : decide (xa < g) = false := decide_eq_false e1
          have F := hid (NO.out (by unfold nodeRight aheadB; simp; omega))
          go_wp2_with (fail)
          go_ret
          exact ⟨ret_bool F.out.symm, HB1.out.trans ((HBL.out.mono (by omega)).alloc (by omega) _)⟩
        have F := hid (YES.out (by unfold nodeRight aheadB; simp; omega))
        go_wp2_with (fail)
        go_roundw
        case rel => exact ⟨k + 1, by omega, by go_num, HBL.out.alloc hsz _, F.out⟩
        case measure => simp [intOf]; omega
      by_cases o4 : op = 4
      · subst o4
        cases e0 : decide (0 ≤ xa ∧ xa ≤ 1)
        · have HE0 := hid e0
          have q0 : ¬ (0 ≤ xa ∧ xa ≤ 1) := of_decide_eq_false e0
          clear e0
          have F := hid (NO.out (by unfold nodeRight; simp; omega))
          go_wp2_with (go_at_call 26; (with_reducible refine (rin_is xa 0 1 false HE0 _).mono ?_); rintro e w2 ⟨rfl, rfl⟩)
          go_ret
          exact ⟨ret_bool F.out.symm, HB1.out.trans ((HBL.out.mono (by omega)).alloc (by omega) _)⟩
        · have HE0 := hid e0
          have q0 : 0 ≤ xa ∧ xa ≤ 1 := of_decide_eq_true e0
          clear e0
          by_cases e0 : 0 ≤ xn
          rotate_left
          · have d0 : decide (0 ≤ xn) = false := decide_eq_false e0
            have F := hid (NO.out (by unfold nodeRight; simp; omega))
            go_wp2_with (go_at_call 26; (with_reducible refine (rin_is xa 0 1 true HE0 _).mono ?_); rintro e w2 ⟨rfl, rfl⟩)
            go_ret
            exact ⟨ret_bool F.out.symm, HB1.out.trans ((HBL.out.mono (by omega)).alloc (by omega) _)⟩
          by_cases e1 : xn < (n : Int)
          rotate_left
          · have d1 : decide (xn < (n : Int)) = false := decide_eq_false e1
            have F := hid (NO.out (by unfold nodeRight; simp; omega))
            go_wp2_with (go_at_call 26; (with_reducible refine (rin_is xa 0 1 true HE0 _).mono ?_); rintro e w2 ⟨rfl, rfl⟩)
            go_ret
            exact ⟨ret_bool F.out.symm, HB1.out.trans ((HBL.out.mono (by omega)).alloc (by omega) _)⟩
          have F := hid (YES.out (by unfold nodeRight; simp; omega))
          go_wp2_with (go_at_call 26; (with_reducible refine (rin_is xa 0 1 true HE0 _).mono ?_); rintro e w2 ⟨rfl, rfl⟩)
          go_roundw
          case rel => exact ⟨k + 1, by omega, by go_num, HBL.out.alloc hsz _, F.out⟩
          case measure => simp [intOf]; omega
      by_cases o5 : op = 5
      · subst o5
        by_cases e0 : 0 ≤ xa
        rotate_left
        · have d0 : decide (0 ≤ xa) = false := decide_eq_false e0
          have F := hid (NO.out (by unfold nodeRight aheadB; simp; omega))
          go_wp2_with (fail)
          go_ret
          exact ⟨ret_bool F.out.symm, HB1.out.trans ((HBL.out.mono (by omega)).alloc (by omega) _)⟩
        by_cases e1 : xa < (k : Int)
        rotate_left
        · have d1 : decide (xa < (k : Int)) = false := decide_eq_false e1
          have F := hid (NO.out (by unfold nodeRight aheadB; simp; omega))
          go_wp2_with (fail)
          go_ret
          exact ⟨ret_bool F.out.symm, HB1.out.trans ((HBL.out.mono (by omega)).alloc (by omega) _)⟩
        by_cases e2 : 0 ≤ xb
        rotate_left
        · have d2 : decide (0 ≤ xb) = false := decide_eq_false e2
          have F := hid (NO.out (by unfold nodeRight aheadB; simp; omega))
          go_wp2_with (fail)
          go_ret
          exact ⟨ret_bool F.out.symm, HB1.out.trans ((HBL.out.mono (by omega)).alloc (by omega) _)⟩
        by_cases e3 : xb < (k : Int)
        rotate_left
        · have d3 : decide (xb < (k : Int)) = false := decide_eq_false e3
          have F := hid (NO.out (by unfold nodeRight aheadB; simp; omega))
          go_wp2_with (fail)
          go_ret
          exact ⟨ret_bool F.out.symm, HB1.out.trans ((HBL.out.mono (by omega)).alloc (by omega) _)⟩
        have F := hid (YES.out (by unfold nodeRight aheadB; simp; omega))
        go_wp2_with (fail)
        go_roundw
        case rel => exact ⟨k + 1, by omega, by go_num, HBL.out.alloc hsz _, F.out⟩
        case measure => simp [intOf]; omega
      by_cases o6 : op = 6
      · subst o6
        by_cases e0 : 0 ≤ xa
        rotate_left
        · have d0 : decide (0 ≤ xa) = false := decide_eq_false e0
          have F := hid (NO.out (by unfold nodeRight aheadB; simp; omega))
          go_wp2_with (fail)
          go_ret
          exact ⟨ret_bool F.out.symm, HB1.out.trans ((HBL.out.mono (by omega)).alloc (by omega) _)⟩
        by_cases e1 : xa < (k : Int)
        rotate_left
        · have d1 : decide (xa < (k : Int)) = false := decide_eq_false e1
          have F := hid (NO.out (by unfold nodeRight aheadB; simp; omega))
          go_wp2_with (fail)
          go_ret
          exact ⟨ret_bool F.out.symm, HB1.out.trans ((HBL.out.mono (by omega)).alloc (by omega) _)⟩
        by_cases e2 : 0 ≤ xb
        rotate_left
        · have d2 : decide (0 ≤ xb) = false := decide_eq_false e2
          have F := hid (NO.out (by unfold nodeRight aheadB; simp; omega))
          go_wp2_with (fail)
          go_ret
          exact ⟨ret_bool F.out.symm, HB1.out.trans ((HBL.out.mono (by omega)).alloc (by omega) _)⟩
        by_cases e3 : xb < (k : Int)
        rotate_left
        · have d3 : decide (xb < (k : Int)) = false := decide_eq_false e3
          have F := hid (NO.out (by unfold nodeRight aheadB; simp; omega))
          go_wp2_with (fail)
          go_ret
          exact ⟨ret_bool F.out.symm, HB1.out.trans ((HBL.out.mono (by omega)).alloc (by omega) _)⟩
        have F := hid (YES.out (by unfold nodeRight aheadB; simp; omega))
        go_wp2_with (fail)
        go_roundw
        case rel => exact ⟨k + 1, by omega, by go_num, HBL.out.alloc hsz _, F.out⟩
        case measure => simp [intOf]; omega
      by_cases o7 : op = 7
      · subst o7
        by_cases e0 : 0 ≤ xa
        rotate_left
        · have d0 : decide (0 ≤ xa) = false := decide_eq_false e0
          have F := hid (NO.out (by unfold nodeRight aheadB; simp; omega))
          go_wp2_with (fail)
          go_ret
          exact ⟨ret_bool F.out.symm, HB1.out.trans ((HBL.out.mono (by omega)).alloc (by omega) _)⟩
        by_cases e1 : xa < (k : Int)
        rotate_left
        · have d1 : decide (xa < (k : Int)) = false := decide_eq_false e1
          have F := hid (NO.out (by unfold nodeRight aheadB; simp; omega))
          go_wp2_with (fail)
          go_ret
          exact ⟨ret_bool F.out.symm, HB1.out.trans ((HBL.out.mono (by omega)).alloc (by omega) _)⟩
        by_cases e2 : 0 ≤ xb
        rotate_left
        · have d2 : decide (0 ≤ xb) = false := decide_eq_false e2
          have F := hid (NO.out (by unfold nodeRight aheadB; simp; omega))
          go_wp2_with (fail)
          go_ret
          exact ⟨ret_bool F.out.symm, HB1.out.trans ((HBL.out.mono (by omega)).alloc (by omega) _)⟩
        by_cases e3 : xb < (k : Int)
        rotate_left
        · have d3 : decide (xb < (k : Int)) = false := decide_eq_false e3
          have F := hid (NO.out (by unfold nodeRight aheadB; simp; omega))
          go_wp2_with (fail)
          go_ret
          exact ⟨ret_bool F.out.symm, HB1.out.trans ((HBL.out.mono (by omega)).alloc (by omega) _)⟩
        have F := hid (YES.out (by unfold nodeRight aheadB; simp; omega))
        go_wp2_with (fail)
        go_roundw
        case rel => exact ⟨k + 1, by omega, by go_num, HBL.out.alloc hsz _, F.out⟩
        case measure => simp [intOf]; omega
      by_cases o8 : op = 8
      · subst o8
        by_cases e0 : 0 ≤ xa
        rotate_left
        · have d0 : decide (0 ≤ xa) = false := decide_eq_false e0
          have F := hid (NO.out (by unfold nodeRight aheadB; simp; omega))
          go_wp2_with (fail)
          go_ret
          exact ⟨ret_bool F.out.symm, HB1.out.trans ((HBL.out.mono (by omega)).alloc (by omega) _)⟩
        by_cases e1 : xa < (k : Int)
        rotate_left
        · have d1 : decide (xa < (k : Int)) = false := decide_eq_false e1
          have F := hid (NO.out (by unfold nodeRight aheadB; simp; omega))
          go_wp2_with (fail)
          go_ret
          exact ⟨ret_bool F.out.symm, HB1.out.trans ((HBL.out.mono (by omega)).alloc (by omega) _)⟩
        have F := hid (YES.out (by unfold nodeRight aheadB; simp; omega))
        go_wp2_with (fail)
        go_roundw
        case rel => exact ⟨k + 1, by omega, by go_num, HBL.out.alloc hsz _, F.out⟩
        case measure => simp [intOf]; omega
      have f1 : (op == (1 : Int)) = false := beq_eq_false_iff_ne.2 o1
      have f2 : (op == (2 : Int)) = false := beq_eq_false_iff_ne.2 o2
      have f3 : (op == (3 : Int)) = false := beq_eq_false_iff_ne.2 o3
      have f4 : (op == (4 : Int)) = false := beq_eq_false_iff_ne.2 o4
      have f5 : (op == (5 : Int)) = false := beq_eq_false_iff_ne.2 o5
      have f6 : (op == (6 : Int)) = false := beq_eq_false_iff_ne.2 o6
      have f7 : (op == (7 : Int)) = false := beq_eq_false_iff_ne.2 o7
      have f8 : (op == (8 : Int)) = false := beq_eq_false_iff_ne.2 o8
      have hno : nodeRight g n k ⟨op, xa, xb, xn⟩ = false := by unfold nodeRight; simp [o1, o2, o3, o4, o5, o6, o7, o8]
      have HNO := hid hno
      clear hno o1 o2 o3 o4 o5 o6 o7 o8
      have F := hid (NO.out HNO.out)
      go_wp2_with (fail)
      go_ret
      exact ⟨ret_bool F.out.symm, HB1.out.trans ((HBL.out.mono (by omega)).alloc (by omega) _)⟩
    · obtain rfl : k = n := by omega
      have H2 := hid H'.out
      go_wp2_with fail
      go_loopw [108] (fun v wr2 => ∃ j : Nat, j ≤ n' ∧ v = .int .i64 j ∧ wr2 = wr ∧ N.outsTo j = true) (fun v _ => n' - (intOf v).toNat)
      case atStart => exact ⟨0, Nat.zero_le _, rfl, rfl, rfl⟩
      case round =>
        obtain ⟨j, hj, rfl, rfl, hto⟩ := hrel
        have HTO2 := hid hto
        clear hto
        by_cases hjlt : j < n'
        · obtain ⟨b1, off, rfl, hb1, hcell⟩ := H'.out.ro.at (by rw [HN'.out]; omega)
          have hc := hcell j (by rw [HN'.out]; exact hjlt)
          have HS := hid (N.outsTo_succ j)
          obtain ⟨z, hz⟩ : ∃ z, N.outs.getD j 0 = z := ⟨_, rfl⟩
          rw [hz] at hc
          have HZ := hid hz
          clear hcell hz
          have hjI : (j : Int) < n' := by omega
          have hj0 : (0 : Int) ≤ j := by omega
          by_cases z0 : z < 0
          · have F : Hid (N.right = false) := by
              unfold Hid
              rw [E.out, N.outsTo_mono (j + 1) _ (by rw [HN'.out]; omega) (by rw [HS.out, HZ.out]; simp; omega)]
              simp
            go_wp2
            go_ret
            exact ⟨ret_bool F.out.symm, HB1.out.trans (HBL.out.mono (by omega))⟩
          · by_cases z1 : z < k
            · have F : Hid (N.outsTo (j + 1) = true) := by
                unfold Hid
                rw [HS.out, HZ.out, HTO2.out, HN.out]
                simp
                omega
              have d0 : decide (z < 0) = false := decide_eq_false z0
              have d1 : decide ((k : Int) ≤ z) = false := decide_eq_false (by omega)
              go_wp2
              go_roundw
              case rel => exact ⟨j + 1, by omega, by go_num, by first | rfl | trivial, F.out⟩
              case measure => simp [intOf]; omega
            · have F : Hid (N.right = false) := by
                unfold Hid
                rw [E.out, N.outsTo_mono (j + 1) _ (by rw [HN'.out]; omega) (by rw [HS.out, HZ.out, HN.out]; simp; omega)]
                simp
              have d0 : decide (z < 0) = false := decide_eq_false z0
              have d1 : (k : Int) ≤ z := by omega
              go_wp2
              go_ret
              exact ⟨ret_bool F.out.symm, HB1.out.trans (HBL.out.mono (by omega))⟩
        · obtain rfl : j = n' := by omega
          have F : Hid (N.right = true) := by
            unfold Hid
            rw [E.out, HN.out, HN'.out, HTO.out, HTO2.out]
            rfl
          go_wp2
          go_ret
          exact ⟨ret_bool F.out.symm, HB1.out.trans (HBL.out.mono (by omega))⟩
theorem RefRight_any (h : NetRows B w a c a' c' N) (hB : B ≤ w.heap.size) : Calls Tryd.prog 7 #[.agg #[.int .i64 N.given, .slice a N.nodes.length c, .slice a' N.outs.length c']] w (Tells N.right w) := by
  cases hs : N.sizes
  · exact RefRight_sizes a c a' c' N w hs
  · exact RefRight_small B a c a' c' N w h hB hs
end
end Go.Proofs.YtlaeflpddehipaaDoor
