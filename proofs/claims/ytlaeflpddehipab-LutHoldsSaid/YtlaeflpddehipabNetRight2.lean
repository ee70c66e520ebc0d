/- (*gate.Net).Right: which nets may be. -/
import Derived.Test.YtlaeflpddehipabNetRight
set_option linter.unusedVariables false
namespace Go.Proofs.Ytlaeflpddehipab
open Go.RowKit

theorem Net.rightTo_succ (N : Net) (k : Nat) : N.rightTo (k + 1) = (N.rightTo k && nodeRight N.given N.nodes.length k (N.nodes.getD k GN.zero)) := by
  unfold Net.rightTo; rw [List.range_succ, List.all_append]; simp
theorem Net.outsTo_succ (N : Net) (k : Nat) : N.outsTo (k + 1) = (N.outsTo k && decide (0 ≤ N.outs.getD k 0 ∧ N.outs.getD k 0 < (N.nodes.length : Int))) := by
  unfold Net.outsTo; rw [List.range_succ, List.all_append]; simp
theorem Net.rightTo_mono (N : Net) (k m : Nat) (h : k ≤ m) (hf : N.rightTo k = false) : N.rightTo m = false := by
  unfold Net.rightTo at *
  rw [List.all_eq_false] at *
  obtain ⟨x, hx, hn⟩ := hf
  exact ⟨x, by simp at *; omega, hn⟩
theorem Net.outsTo_mono (N : Net) (k m : Nat) (h : k ≤ m) (hf : N.outsTo k = false) : N.outsTo m = false := by
  unfold Net.outsTo at *
  rw [List.all_eq_false] at *
  obtain ⟨x, hx, hn⟩ := hf
  exact ⟨x, by simp at *; omega, hn⟩

theorem right_is (B : Nat) (b : Nat) (a : Option Addr) (c : Nat) (a' : Option Addr) (c' : Nat) (N : Net) (w : World) (h : NetIn B w b a c a' c' N) (i : Nat) (hi : i < N.nodes.length) (hBw : B ≤ w.heap.size) (r : Bool) (hr : Hid (nodeRight N.given N.nodes.length i (N.nodes.getD i GN.zero) = r)) :
    Calls Try.prog 28 #[.pointer (some ⟨b, 0, none⟩), .int .i64 i] w (Tells r w) := by
  have hr' : _ = r := hr
  rw [← hr']; exact right_any B b a c a' c' N w h i hi hBw

set_option maxHeartbeats 1600000 in
theorem Right_sizes (B : Nat) (b : Nat) (a : Option Addr) (c : Nat) (a' : Option Addr) (c' : Nat) (N : Net) (w : World) (h : NetIn B w b a c a' c' N) (hs : N.sizes = false) :
    Calls Try.prog 23 #[.pointer (some ⟨b, 0, none⟩)] w (Tells N.right w) := by
  have E : Hid (N.right = false) := by unfold Hid Net.right; rw [hs]; rfl
  have hg := h.g
  have hn := h.nodes
  have ho := h.outs
  have hs' : ¬ (0 ≤ N.given ∧ N.given ≤ 20000 ∧ N.nodes.length ≤ 20000 ∧ N.outs.length ≤ 20000) := by simpa [Net.sizes] using hs
  generalize N.right = r at *
  generalize N.nodes.length = n at *
  generalize N.outs.length = n' at *
  generalize N.given = g at *
  by_cases h0 : g < 0
  · clear hs' h hs
    go_enter Try.func23, Try.ntmps23
    go_wp2
    go_ret
    exact ⟨ret_bool E.out.symm, Below.refl _ _⟩
  by_cases h1 : 20000 < g
  · have d0 : decide (g < 0) = false := decide_eq_false h0
    clear hs' h hs
    go_enter Try.func23, Try.ntmps23
    go_wp2
    go_ret
    exact ⟨ret_bool E.out.symm, Below.refl _ _⟩
  by_cases h2 : (20000 : Int) < n
  · have d0 : decide (g < 0) = false := decide_eq_false h0
    have d1 : decide (20000 < g) = false := decide_eq_false h1
    clear hs' h hs
    go_enter Try.func23, Try.ntmps23
    go_wp2
    go_ret
    exact ⟨ret_bool E.out.symm, Below.refl _ _⟩
  · have d0 : decide (g < 0) = false := decide_eq_false h0
    have d1 : decide (20000 < g) = false := decide_eq_false h1
    have d2 : decide ((20000 : Int) < n) = false := decide_eq_false h2
    have h3 : (20000 : Int) < n' := by omega
    clear hs' h hs
    go_enter Try.func23, Try.ntmps23
    go_wp2
    go_ret
    exact ⟨ret_bool E.out.symm, Below.refl _ _⟩

set_option maxHeartbeats 1600000 in
theorem Right_small (B : Nat) (b : Nat) (a : Option Addr) (c : Nat) (a' : Option Addr) (c' : Nat) (N : Net) (w : World) (h : NetIn B w b a c a' c' N) (hBw : B ≤ w.heap.size) (hs : N.sizes = true) :
    Calls Try.prog 23 #[.pointer (some ⟨b, 0, none⟩)] w (Tells N.right w) := by
  have E : Hid (N.right = (N.rightTo N.nodes.length && N.outsTo N.outs.length)) := by unfold Hid Net.right; rw [hs]; rfl
  have H := hid h
  have hg := h.g
  have hn := h.nodes
  have ho := h.outs
  have hs' : 0 ≤ N.given ∧ N.given ≤ 20000 ∧ N.nodes.length ≤ 20000 ∧ N.outs.length ≤ 20000 := by simpa [Net.sizes] using hs
  obtain ⟨n, hN⟩ : ∃ n, N.nodes.length = n := ⟨_, rfl⟩
  obtain ⟨n', hN'⟩ : ∃ n, N.outs.length = n := ⟨_, rfl⟩
  obtain ⟨g, hG⟩ : ∃ n, N.given = n := ⟨_, rfl⟩
  rw [hN, hN', hG] at hs'
  rw [hN] at hn
  rw [hN'] at ho
  rw [hG] at hg
  have HN := hid hN
  have HN' := hid hN'
  obtain ⟨s0, s1, s2, s3⟩ := hs'
  have d0 : decide (g < 0) = false := decide_eq_false (by omega)
  have d1 : decide (20000 < g) = false := decide_eq_false (by omega)
  have d2 : decide ((20000 : Int) < n) = false := decide_eq_false (by omega)
  have d3 : decide ((20000 : Int) < n') = false := decide_eq_false (by omega)
  clear h hs hN hN' hG
  go_enter Try.func23, Try.ntmps23
  go_wp2
  clear d0 d1 d2 d3
  go_loopw [43] (fun v wr => ∃ k : Nat, k ≤ n ∧ v = .int .i64 k ∧ Below w.heap.size w wr ∧ N.rightTo k = true) (fun v _ => n - (intOf v).toNat)
  case atStart => exact ⟨0, Nat.zero_le _, rfl, Below.refl _ _, rfl⟩
  case round =>
    obtain ⟨k, hk, rfl, hbel, hto⟩ := hrel
    have HTO := hid hto
    have h' := H.out.stay (hbel.mono hBw)
    have hn2 := h'.nodes
    have ho2 := h'.outs
    rw [HN.out] at hn2
    rw [HN'.out] at ho2
    have H' := hid h'
    have hsz := hbel.size
    clear hto h' hn ho hg
    by_cases hlt : k < n
    · have hlt' : k < N.nodes.length := by rw [HN.out]; exact hlt
      have HS := hid (N.rightTo_succ k)
      cases hr : nodeRight N.given N.nodes.length k (N.nodes.getD k GN.zero)
      · have HR := hid hr
        have F : Hid (N.right = false) := by
          unfold Hid
          rw [E.out, N.rightTo_mono (k + 1) _ (by omega) (by rw [HS.out, hr]; simp)]
          rfl
        clear hr hlt'
        go_wp2_with (go_at_call 28; refine (right_is B b a c a' c' N _ H'.out k (by rw [HN.out]; exact hlt) (Nat.le_trans hBw hsz) _ HR).mono ?_; rintro e w2 ⟨rfl, hbel2⟩)
        go_ret
        exact ⟨ret_bool F.out.symm, hbel.trans (hbel2.mono hsz)⟩
      · have HR := hid hr
        have F : Hid (N.rightTo (k + 1) = true) := by
          unfold Hid
          rw [HS.out, hr, HTO.out]
          rfl
        clear hr hlt'
        go_wp2_with (go_at_call 28; refine (right_is B b a c a' c' N _ H'.out k (by rw [HN.out]; exact hlt) (Nat.le_trans hBw hsz) _ HR).mono ?_; rintro e w2 ⟨rfl, hbel2⟩)
        go_roundw
        case rel => exact ⟨k + 1, by omega, by go_num, hbel.trans (hbel2.mono hsz), F.out⟩
        case measure => simp [intOf]; omega
    · obtain rfl : k = n := by omega
      go_wp2
      go_loopw [56] (fun v wr2 => ∃ j : Nat, j ≤ n' ∧ v = .int .i64 j ∧ wr2 = wr ∧ N.outsTo j = true) (fun v _ => n' - (intOf v).toNat)
      case atStart => exact ⟨0, Nat.zero_le _, rfl, rfl, rfl⟩
      case round =>
        obtain ⟨j, hj, rfl, rfl, hto⟩ := hrel
        have HTO2 := hid hto
        clear hto
        by_cases hjlt : j < n'
        · obtain ⟨b1, off, rfl, hb1, hcell⟩ := H'.out.ro.at (by rw [HN'.out]; omega)
          have hc := hcell j (by rw [HN'.out]; exact hjlt)
          have HS := hid (N.outsTo_succ j)
          obtain ⟨z, hz⟩ : ∃ z, N.outs.getD j 0 = z := ⟨_, rfl⟩
          rw [hz] at hc
          have HZ := hid hz
          clear hcell hz
          have hjI : (j : Int) < n' := by omega
          have hj0 : (0 : Int) ≤ j := by omega
          by_cases z0 : z < 0
          · have F : Hid (N.right = false) := by
              unfold Hid
              rw [E.out, N.outsTo_mono (j + 1) _ (by rw [HN'.out]; omega) (by rw [HS.out, HZ.out]; simp; omega)]
              simp
            go_wp2
            go_ret
            exact ⟨ret_bool F.out.symm, hbel⟩
          · by_cases z1 : z < k
            · have F : Hid (N.outsTo (j + 1) = true) := by
                unfold Hid
                rw [HS.out, HZ.out, HTO2.out, HN.out]
                simp
                omega
              have d0 : decide (z < 0) = false := decide_eq_false z0
              have d1 : decide ((k : Int) ≤ z) = false := decide_eq_false (by omega)
              go_wp2
              go_roundw
              case rel => exact ⟨j + 1, by omega, by go_num, by first | rfl | trivial, F.out⟩
              case measure => simp [intOf]; omega
            · have F : Hid (N.right = false) := by
                unfold Hid
                rw [E.out, N.outsTo_mono (j + 1) _ (by rw [HN'.out]; omega) (by rw [HS.out, HZ.out, HN.out]; simp; omega)]
                simp
              have d0 : decide (z < 0) = false := decide_eq_false z0
              have d1 : (k : Int) ≤ z := by omega
              go_wp2
              go_ret
              exact ⟨ret_bool F.out.symm, hbel⟩
        · obtain rfl : j = n' := by omega
          have F : Hid (N.right = true) := by
            unfold Hid
            rw [E.out, HN.out, HN'.out, HTO.out, HTO2.out]
            rfl
          go_wp2
          go_ret
          exact ⟨ret_bool F.out.symm, hbel⟩

theorem Right_any (B : Nat) (b : Nat) (a : Option Addr) (c : Nat) (a' : Option Addr) (c' : Nat) (N : Net) (w : World) (h : NetIn B w b a c a' c' N) (hBw : B ≤ w.heap.size) :
    Calls Try.prog 23 #[.pointer (some ⟨b, 0, none⟩)] w (Tells N.right w) := by
  cases hs : N.sizes
  · exact Right_sizes B b a c a' c' N w h hs
  · exact Right_small B b a c a' c' N w h hBw hs
end Go.Proofs.Ytlaeflpddehipab
