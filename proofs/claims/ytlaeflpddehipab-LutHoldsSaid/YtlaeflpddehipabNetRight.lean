/- Which nodes may be: (*gate.Net).right, op by op (written by gen_net.py). -/
import Derived.Test.YtlaeflpddehipabNet
set_option linter.unusedVariables false
namespace Go.Proofs.Ytlaeflpddehipab
open Go.RowKit

set_option maxHeartbeats 1600000 in
theorem right_op1 (B : Nat) (b : Nat) (a : Option Addr) (c : Nat) (a' : Option Addr) (c' : Nat) (N : Net) (w : World) (h : NetIn B w b a c a' c' N) (i : Nat) (hi : i < N.nodes.length) (xa xb xn : Int) (hx : N.nodes.getD i GN.zero = ⟨1, xa, xb, xn⟩) (hBw : B ≤ w.heap.size) :
    Calls Try.prog 28 #[.pointer (some ⟨b, 0, none⟩), .int .i64 i] w (Tells (nodeRight N.given N.nodes.length i ⟨1, xa, xb, xn⟩) w) := by
  obtain ⟨b1, off, rfl, hb1, c0, c1, c2, c3⟩ := h.node i hi
  rw [hx] at c0 c1 c2 c3
  have h1 := h.nodes
  have hg := h.g
  have hm := h.ln
  unfold maxLen at hm
  have hb0 : b < w.heap.size := Nat.lt_of_lt_of_le h.hb hBw
  have hb0' : b < w.heap.size + 1 := by omega
  have hb2 : b1 < w.heap.size := Nat.lt_of_lt_of_le hb1 hBw
  have hb2' : b1 < w.heap.size + 1 := by omega
  generalize N.nodes.length = n at *
  generalize N.given = g at *
  have hiI : (i : Int) < n := by omega
  have hi0 : (0 : Int) ≤ i := by omega
  simp only at c0 c1 c2 c3
  clear h hx
  have E : Hid (nodeRight g n i ⟨1, xa, xb, xn⟩ = true) := by
    unfold Hid
    simp [nodeRight]
    try omega
  go_enter Try.func28, Try.ntmps28
  go_wp2
  go_region
  all_goals go_wp2
  all_goals go_ret
  all_goals exact ⟨ret_bool E.out.symm, (by repeat (first | exact Below.refl _ _ | assumption | refine below_drewN ?_ _ | refine Below.drew ?_ | refine Below.alloc ?_ (by simp) _ | refine Below.setCell ?_ (by simp) _))⟩

set_option maxHeartbeats 1600000 in
theorem right_op2 (B : Nat) (b : Nat) (a : Option Addr) (c : Nat) (a' : Option Addr) (c' : Nat) (N : Net) (w : World) (h : NetIn B w b a c a' c' N) (i : Nat) (hi : i < N.nodes.length) (xa xb xn : Int) (hx : N.nodes.getD i GN.zero = ⟨2, xa, xb, xn⟩) (hBw : B ≤ w.heap.size) :
    Calls Try.prog 28 #[.pointer (some ⟨b, 0, none⟩), .int .i64 i] w (Tells (nodeRight N.given N.nodes.length i ⟨2, xa, xb, xn⟩) w) := by
  obtain ⟨b1, off, rfl, hb1, c0, c1, c2, c3⟩ := h.node i hi
  rw [hx] at c0 c1 c2 c3
  have h1 := h.nodes
  have hg := h.g
  have hm := h.ln
  unfold maxLen at hm
  have hb0 : b < w.heap.size := Nat.lt_of_lt_of_le h.hb hBw
  have hb0' : b < w.heap.size + 1 := by omega
  have hb2 : b1 < w.heap.size := Nat.lt_of_lt_of_le hb1 hBw
  have hb2' : b1 < w.heap.size + 1 := by omega
  generalize N.nodes.length = n at *
  generalize N.given = g at *
  have hiI : (i : Int) < n := by omega
  have hi0 : (0 : Int) ≤ i := by omega
  simp only at c0 c1 c2 c3
  clear h hx
  have E : Hid (nodeRight g n i ⟨2, xa, xb, xn⟩ = true) := by
    unfold Hid
    simp [nodeRight]
    try omega
  go_enter Try.func28, Try.ntmps28
  go_wp2
  go_region
  all_goals go_wp2
  all_goals go_ret
  all_goals exact ⟨ret_bool E.out.symm, (by repeat (first | exact Below.refl _ _ | assumption | refine below_drewN ?_ _ | refine Below.drew ?_ | refine Below.alloc ?_ (by simp) _ | refine Below.setCell ?_ (by simp) _))⟩

set_option maxHeartbeats 1600000 in
theorem right_op3 (B : Nat) (b : Nat) (a : Option Addr) (c : Nat) (a' : Option Addr) (c' : Nat) (N : Net) (w : World) (h : NetIn B w b a c a' c' N) (i : Nat) (hi : i < N.nodes.length) (xa xb xn : Int) (hx : N.nodes.getD i GN.zero = ⟨3, xa, xb, xn⟩) (hBw : B ≤ w.heap.size) :
    Calls Try.prog 28 #[.pointer (some ⟨b, 0, none⟩), .int .i64 i] w (Tells (nodeRight N.given N.nodes.length i ⟨3, xa, xb, xn⟩) w) := by
  obtain ⟨b1, off, rfl, hb1, c0, c1, c2, c3⟩ := h.node i hi
  rw [hx] at c0 c1 c2 c3
  have h1 := h.nodes
  have hg := h.g
  have hm := h.ln
  unfold maxLen at hm
  have hb0 : b < w.heap.size := Nat.lt_of_lt_of_le h.hb hBw
  have hb0' : b < w.heap.size + 1 := by omega
  have hb2 : b1 < w.heap.size := Nat.lt_of_lt_of_le hb1 hBw
  have hb2' : b1 < w.heap.size + 1 := by omega
  generalize N.nodes.length = n at *
  generalize N.given = g at *
  have hiI : (i : Int) < n := by omega
  have hi0 : (0 : Int) ≤ i := by omega
  simp only at c0 c1 c2 c3
  clear h hx
  by_cases h3 : 0 ≤ xa
  · by_cases h4 : xa < g
    · have E : Hid (nodeRight g n i ⟨3, xa, xb, xn⟩ = true) := by unfold Hid; simp [nodeRight]; omega
      go_enter Try.func28, Try.ntmps28
      go_wp2
      go_region
      all_goals go_wp2
      all_goals go_quiet (fail)
      all_goals go_wp2
      all_goals go_ret
      all_goals exact ⟨ret_bool E.out.symm, (by repeat (first | exact Below.refl _ _ | assumption | refine below_drewN ?_ _ | refine Below.drew ?_ | refine Below.alloc ?_ (by simp) _ | refine Below.setCell ?_ (by simp) _))⟩
    · have E : Hid (nodeRight g n i ⟨3, xa, xb, xn⟩ = false) := by unfold Hid; simp [nodeRight]; omega
      have d4 : decide (xa < g) = false := decide_eq_false h4
      go_enter Try.func28, Try.ntmps28
      go_wp2
      go_region
      all_goals go_wp2
      all_goals go_quiet (fail)
      all_goals go_wp2
      all_goals go_ret
      all_goals exact ⟨ret_bool E.out.symm, (by repeat (first | exact Below.refl _ _ | assumption | refine below_drewN ?_ _ | refine Below.drew ?_ | refine Below.alloc ?_ (by simp) _ | refine Below.setCell ?_ (by simp) _))⟩
  · have E : Hid (nodeRight g n i ⟨3, xa, xb, xn⟩ = false) := by unfold Hid; simp [nodeRight]; omega
    have d3 : decide (0 ≤ xa) = false := decide_eq_false h3
    go_enter Try.func28, Try.ntmps28
    go_wp2
    go_region
    all_goals go_wp2
    all_goals go_quiet (fail)
    all_goals go_wp2
    all_goals go_ret
    all_goals exact ⟨ret_bool E.out.symm, (by repeat (first | exact Below.refl _ _ | assumption | refine below_drewN ?_ _ | refine Below.drew ?_ | refine Below.alloc ?_ (by simp) _ | refine Below.setCell ?_ (by simp) _))⟩

set_option maxHeartbeats 1600000 in
theorem right_op4 (B : Nat) (b : Nat) (a : Option Addr) (c : Nat) (a' : Option Addr) (c' : Nat) (N : Net) (w : World) (h : NetIn B w b a c a' c' N) (i : Nat) (hi : i < N.nodes.length) (xa xb xn : Int) (hx : N.nodes.getD i GN.zero = ⟨4, xa, xb, xn⟩) (hBw : B ≤ w.heap.size) :
    Calls Try.prog 28 #[.pointer (some ⟨b, 0, none⟩), .int .i64 i] w (Tells (nodeRight N.given N.nodes.length i ⟨4, xa, xb, xn⟩) w) := by
  obtain ⟨b1, off, rfl, hb1, c0, c1, c2, c3⟩ := h.node i hi
  rw [hx] at c0 c1 c2 c3
  have h1 := h.nodes
  have hg := h.g
  have hm := h.ln
  unfold maxLen at hm
  have hb0 : b < w.heap.size := Nat.lt_of_lt_of_le h.hb hBw
  have hb0' : b < w.heap.size + 1 := by omega
  have hb2 : b1 < w.heap.size := Nat.lt_of_lt_of_le hb1 hBw
  have hb2' : b1 < w.heap.size + 1 := by omega
  generalize N.nodes.length = n at *
  generalize N.given = g at *
  have hiI : (i : Int) < n := by omega
  have hi0 : (0 : Int) ≤ i := by omega
  simp only at c0 c1 c2 c3
  clear h hx
  by_cases h0 : xa = 0
  · by_cases h2 : 0 ≤ xn
    · by_cases h3 : xn < (n : Int)
      · have E : Hid (nodeRight g n i ⟨4, xa, xb, xn⟩ = true) := by unfold Hid; simp [nodeRight]; omega
        have d0 : (xa == 0) = true := by simp [h0]
        have d2 : (0 : Int) ≤ xn := h2
        have d3 : xn < (n : Int) := h3
        go_enter Try.func28, Try.ntmps28
        go_wp2
        go_region
        all_goals go_wp2
        all_goals go_quiet (fail)
        all_goals go_wp2
        all_goals go_ret
        all_goals exact ⟨ret_bool E.out.symm, (by repeat (first | exact Below.refl _ _ | assumption | refine below_drewN ?_ _ | refine Below.drew ?_ | refine Below.alloc ?_ (by simp) _ | refine Below.setCell ?_ (by simp) _))⟩
      · have E : Hid (nodeRight g n i ⟨4, xa, xb, xn⟩ = false) := by unfold Hid; simp [nodeRight]; omega
        have d0 : (xa == 0) = true := by simp [h0]
        have d2 : (0 : Int) ≤ xn := h2
        have d3 : decide (xn < (n : Int)) = false := decide_eq_false h3
        go_enter Try.func28, Try.ntmps28
        go_wp2
        go_region
        all_goals go_wp2
        all_goals go_quiet (fail)
        all_goals go_wp2
        all_goals go_ret
        all_goals exact ⟨ret_bool E.out.symm, (by repeat (first | exact Below.refl _ _ | assumption | refine below_drewN ?_ _ | refine Below.drew ?_ | refine Below.alloc ?_ (by simp) _ | refine Below.setCell ?_ (by simp) _))⟩
    · have E : Hid (nodeRight g n i ⟨4, xa, xb, xn⟩ = false) := by unfold Hid; simp [nodeRight]; omega
      have d0 : (xa == 0) = true := by simp [h0]
      have d2 : decide ((0 : Int) ≤ xn) = false := decide_eq_false h2
      go_enter Try.func28, Try.ntmps28
      go_wp2
      go_region
      all_goals go_wp2
      all_goals go_quiet (fail)
      all_goals go_wp2
      all_goals go_ret
      all_goals exact ⟨ret_bool E.out.symm, (by repeat (first | exact Below.refl _ _ | assumption | refine below_drewN ?_ _ | refine Below.drew ?_ | refine Below.alloc ?_ (by simp) _ | refine Below.setCell ?_ (by simp) _))⟩
  · by_cases h1' : xa = 1
    · by_cases h2 : 0 ≤ xn
      · by_cases h3 : xn < (n : Int)
        · have E : Hid (nodeRight g n i ⟨4, xa, xb, xn⟩ = true) := by unfold Hid; simp [nodeRight]; omega
          have d0 : (xa == 0) = false := by simp [h0]
          have d1 : (xa == 1) = true := by simp [h1']
          have d2 : (0 : Int) ≤ xn := h2
          have d3 : xn < (n : Int) := h3
          go_enter Try.func28, Try.ntmps28
          go_wp2
          go_region
          all_goals go_wp2
          all_goals go_quiet (fail)
          all_goals go_wp2
          all_goals go_ret
          all_goals exact ⟨ret_bool E.out.symm, (by repeat (first | exact Below.refl _ _ | assumption | refine below_drewN ?_ _ | refine Below.drew ?_ | refine Below.alloc ?_ (by simp) _ | refine Below.setCell ?_ (by simp) _))⟩
        · have E : Hid (nodeRight g n i ⟨4, xa, xb, xn⟩ = false) := by unfold Hid; simp [nodeRight]; omega
          have d0 : (xa == 0) = false := by simp [h0]
          have d1 : (xa == 1) = true := by simp [h1']
          have d2 : (0 : Int) ≤ xn := h2
          have d3 : decide (xn < (n : Int)) = false := decide_eq_false h3
          go_enter Try.func28, Try.ntmps28
          go_wp2
          go_region
          all_goals go_wp2
          all_goals go_quiet (fail)
          all_goals go_wp2
          all_goals go_ret
          all_goals exact ⟨ret_bool E.out.symm, (by repeat (first | exact Below.refl _ _ | assumption | refine below_drewN ?_ _ | refine Below.drew ?_ | refine Below.alloc ?_ (by simp) _ | refine Below.setCell ?_ (by simp) _))⟩
      · have E : Hid (nodeRight g n i ⟨4, xa, xb, xn⟩ = false) := by unfold Hid; simp [nodeRight]; omega
        have d0 : (xa == 0) = false := by simp [h0]
        have d1 : (xa == 1) = true := by simp [h1']
        have d2 : decide ((0 : Int) ≤ xn) = false := decide_eq_false h2
        go_enter Try.func28, Try.ntmps28
        go_wp2
        go_region
        all_goals go_wp2
        all_goals go_quiet (fail)
        all_goals go_wp2
        all_goals go_ret
        all_goals exact ⟨ret_bool E.out.symm, (by repeat (first | exact Below.refl _ _ | assumption | refine below_drewN ?_ _ | refine Below.drew ?_ | refine Below.alloc ?_ (by simp) _ | refine Below.setCell ?_ (by simp) _))⟩
    · have E : Hid (nodeRight g n i ⟨4, xa, xb, xn⟩ = false) := by unfold Hid; simp [nodeRight]; omega
      have d0 : (xa == 0) = false := by simp [h0]
      have d1 : (xa == 1) = false := by simp [h1']
      go_enter Try.func28, Try.ntmps28
      go_wp2
      go_region
      all_goals go_wp2
      all_goals go_quiet (fail)
      all_goals go_wp2
      all_goals go_ret
      all_goals exact ⟨ret_bool E.out.symm, (by repeat (first | exact Below.refl _ _ | assumption | refine below_drewN ?_ _ | refine Below.drew ?_ | refine Below.alloc ?_ (by simp) _ | refine Below.setCell ?_ (by simp) _))⟩

set_option maxHeartbeats 1600000 in
theorem right_op8 (B : Nat) (b : Nat) (a : Option Addr) (c : Nat) (a' : Option Addr) (c' : Nat) (N : Net) (w : World) (h : NetIn B w b a c a' c' N) (i : Nat) (hi : i < N.nodes.length) (xa xb xn : Int) (hx : N.nodes.getD i GN.zero = ⟨8, xa, xb, xn⟩) (hBw : B ≤ w.heap.size) :
    Calls Try.prog 28 #[.pointer (some ⟨b, 0, none⟩), .int .i64 i] w (Tells (nodeRight N.given N.nodes.length i ⟨8, xa, xb, xn⟩) w) := by
  obtain ⟨b1, off, rfl, hb1, c0, c1, c2, c3⟩ := h.node i hi
  rw [hx] at c0 c1 c2 c3
  have h1 := h.nodes
  have hg := h.g
  have hm := h.ln
  unfold maxLen at hm
  have hb0 : b < w.heap.size := Nat.lt_of_lt_of_le h.hb hBw
  have hb0' : b < w.heap.size + 1 := by omega
  have hb2 : b1 < w.heap.size := Nat.lt_of_lt_of_le hb1 hBw
  have hb2' : b1 < w.heap.size + 1 := by omega
  generalize N.nodes.length = n at *
  generalize N.given = g at *
  have hiI : (i : Int) < n := by omega
  have hi0 : (0 : Int) ≤ i := by omega
  simp only at c0 c1 c2 c3
  clear h hx
  have E : Hid (nodeRight g n i ⟨8, xa, xb, xn⟩ = aheadB i xa) := by unfold Hid; simp [nodeRight]
  go_enter Try.func28, Try.ntmps28
  go_wp2
  go_region
  all_goals go_wp2_with (go_at_call 35; refine (ahead_any i _ w.heap.size _ (by simp [go_sem])).mono ?_; rintro e w' ⟨rfl, rfl⟩)
  all_goals go_ret
  all_goals exact ⟨ret_bool E.out.symm, (by repeat (first | exact Below.refl _ _ | assumption | refine below_drewN ?_ _ | refine Below.drew ?_ | refine Below.alloc ?_ (by simp) _ | refine Below.setCell ?_ (by simp) _))⟩

set_option maxHeartbeats 1600000 in
theorem right_op5 (B : Nat) (b : Nat) (a : Option Addr) (c : Nat) (a' : Option Addr) (c' : Nat) (N : Net) (w : World) (h : NetIn B w b a c a' c' N) (i : Nat) (hi : i < N.nodes.length) (xa xb xn : Int) (hx : N.nodes.getD i GN.zero = ⟨5, xa, xb, xn⟩) (hBw : B ≤ w.heap.size) :
    Calls Try.prog 28 #[.pointer (some ⟨b, 0, none⟩), .int .i64 i] w (Tells (nodeRight N.given N.nodes.length i ⟨5, xa, xb, xn⟩) w) := by
  obtain ⟨b1, off, rfl, hb1, c0, c1, c2, c3⟩ := h.node i hi
  rw [hx] at c0 c1 c2 c3
  have h1 := h.nodes
  have hg := h.g
  have hm := h.ln
  unfold maxLen at hm
  have hb0 : b < w.heap.size := Nat.lt_of_lt_of_le h.hb hBw
  have hb0' : b < w.heap.size + 1 := by omega
  have hb2 : b1 < w.heap.size := Nat.lt_of_lt_of_le hb1 hBw
  have hb2' : b1 < w.heap.size + 1 := by omega
  generalize N.nodes.length = n at *
  generalize N.given = g at *
  have hiI : (i : Int) < n := by omega
  have hi0 : (0 : Int) ≤ i := by omega
  simp only at c0 c1 c2 c3
  clear h hx
  have E : Hid (nodeRight g n i ⟨5, xa, xb, xn⟩ = (aheadB i xa && aheadB i xb)) := by unfold Hid; simp [nodeRight]
  cases ha : aheadB i xa
  all_goals
    have HA := hid ha
    clear ha
    go_enter Try.func28, Try.ntmps28
    go_wp2
    go_region
    all_goals go_wp2_with (first | (go_at_call 35; (with_reducible refine (ahead_is i xa w.heap.size _ _ HA (by simp [go_sem])).mono ?_); rintro e w' ⟨rfl, rfl⟩) | (go_at_call 35; refine (ahead_any i _ w.heap.size _ (by simp [go_sem])).mono ?_; rintro e w' ⟨rfl, rfl⟩))
    all_goals go_ret
    all_goals exact ⟨ret_bool (by rw [E.out, HA.out]; simp), (by repeat (first | exact Below.refl _ _ | assumption | refine below_drewN ?_ _ | refine Below.drew ?_ | refine Below.alloc ?_ (by simp) _ | refine Below.setCell ?_ (by simp) _))⟩

set_option maxHeartbeats 1600000 in
theorem right_op6 (B : Nat) (b : Nat) (a : Option Addr) (c : Nat) (a' : Option Addr) (c' : Nat) (N : Net) (w : World) (h : NetIn B w b a c a' c' N) (i : Nat) (hi : i < N.nodes.length) (xa xb xn : Int) (hx : N.nodes.getD i GN.zero = ⟨6, xa, xb, xn⟩) (hBw : B ≤ w.heap.size) :
    Calls Try.prog 28 #[.pointer (some ⟨b, 0, none⟩), .int .i64 i] w (Tells (nodeRight N.given N.nodes.length i ⟨6, xa, xb, xn⟩) w) := by
  obtain ⟨b1, off, rfl, hb1, c0, c1, c2, c3⟩ := h.node i hi
  rw [hx] at c0 c1 c2 c3
  have h1 := h.nodes
  have hg := h.g
  have hm := h.ln
  unfold maxLen at hm
  have hb0 : b < w.heap.size := Nat.lt_of_lt_of_le h.hb hBw
  have hb0' : b < w.heap.size + 1 := by omega
  have hb2 : b1 < w.heap.size := Nat.lt_of_lt_of_le hb1 hBw
  have hb2' : b1 < w.heap.size + 1 := by omega
  generalize N.nodes.length = n at *
  generalize N.given = g at *
  have hiI : (i : Int) < n := by omega
  have hi0 : (0 : Int) ≤ i := by omega
  simp only at c0 c1 c2 c3
  clear h hx
  have E : Hid (nodeRight g n i ⟨6, xa, xb, xn⟩ = (aheadB i xa && aheadB i xb)) := by unfold Hid; simp [nodeRight]
  cases ha : aheadB i xa
  all_goals
    have HA := hid ha
    clear ha
    go_enter Try.func28, Try.ntmps28
    go_wp2
    go_region
    all_goals go_wp2_with (first | (go_at_call 35; (with_reducible refine (ahead_is i xa w.heap.size _ _ HA (by simp [go_sem])).mono ?_); rintro e w' ⟨rfl, rfl⟩) | (go_at_call 35; refine (ahead_any i _ w.heap.size _ (by simp [go_sem])).mono ?_; rintro e w' ⟨rfl, rfl⟩))
    all_goals go_ret
    all_goals exact ⟨ret_bool (by rw [E.out, HA.out]; simp), (by repeat (first | exact Below.refl _ _ | assumption | refine below_drewN ?_ _ | refine Below.drew ?_ | refine Below.alloc ?_ (by simp) _ | refine Below.setCell ?_ (by simp) _))⟩

set_option maxHeartbeats 1600000 in
theorem right_op7 (B : Nat) (b : Nat) (a : Option Addr) (c : Nat) (a' : Option Addr) (c' : Nat) (N : Net) (w : World) (h : NetIn B w b a c a' c' N) (i : Nat) (hi : i < N.nodes.length) (xa xb xn : Int) (hx : N.nodes.getD i GN.zero = ⟨7, xa, xb, xn⟩) (hBw : B ≤ w.heap.size) :
    Calls Try.prog 28 #[.pointer (some ⟨b, 0, none⟩), .int .i64 i] w (Tells (nodeRight N.given N.nodes.length i ⟨7, xa, xb, xn⟩) w) := by
  obtain ⟨b1, off, rfl, hb1, c0, c1, c2, c3⟩ := h.node i hi
  rw [hx] at c0 c1 c2 c3
  have h1 := h.nodes
  have hg := h.g
  have hm := h.ln
  unfold maxLen at hm
  have hb0 : b < w.heap.size := Nat.lt_of_lt_of_le h.hb hBw
  have hb0' : b < w.heap.size + 1 := by omega
  have hb2 : b1 < w.heap.size := Nat.lt_of_lt_of_le hb1 hBw
  have hb2' : b1 < w.heap.size + 1 := by omega
  generalize N.nodes.length = n at *
  generalize N.given = g at *
  have hiI : (i : Int) < n := by omega
  have hi0 : (0 : Int) ≤ i := by omega
  simp only at c0 c1 c2 c3
  clear h hx
  have E : Hid (nodeRight g n i ⟨7, xa, xb, xn⟩ = (aheadB i xa && aheadB i xb)) := by unfold Hid; simp [nodeRight]
  cases ha : aheadB i xa
  all_goals
    have HA := hid ha
    clear ha
    go_enter Try.func28, Try.ntmps28
    go_wp2
    go_region
    all_goals go_wp2_with (first | (go_at_call 35; (with_reducible refine (ahead_is i xa w.heap.size _ _ HA (by simp [go_sem])).mono ?_); rintro e w' ⟨rfl, rfl⟩) | (go_at_call 35; refine (ahead_any i _ w.heap.size _ (by simp [go_sem])).mono ?_; rintro e w' ⟨rfl, rfl⟩))
    all_goals go_ret
    all_goals exact ⟨ret_bool (by rw [E.out, HA.out]; simp), (by repeat (first | exact Below.refl _ _ | assumption | refine below_drewN ?_ _ | refine Below.drew ?_ | refine Below.alloc ?_ (by simp) _ | refine Below.setCell ?_ (by simp) _))⟩

set_option maxHeartbeats 1600000 in
theorem right_other (B : Nat) (b : Nat) (a : Option Addr) (c : Nat) (a' : Option Addr) (c' : Nat) (N : Net) (w : World) (h : NetIn B w b a c a' c' N) (i : Nat) (hi : i < N.nodes.length) (op xa xb xn : Int) (hop : ¬ op = 1 ∧ ¬ op = 2 ∧ ¬ op = 3 ∧ ¬ op = 4 ∧ ¬ op = 5 ∧ ¬ op = 6 ∧ ¬ op = 7 ∧ ¬ op = 8) (hx : N.nodes.getD i GN.zero = ⟨op, xa, xb, xn⟩) (hBw : B ≤ w.heap.size) :
    Calls Try.prog 28 #[.pointer (some ⟨b, 0, none⟩), .int .i64 i] w (Tells (nodeRight N.given N.nodes.length i ⟨op, xa, xb, xn⟩) w) := by
  obtain ⟨b1, off, rfl, hb1, c0, c1, c2, c3⟩ := h.node i hi
  rw [hx] at c0 c1 c2 c3
  have h1 := h.nodes
  have hg := h.g
  have hm := h.ln
  unfold maxLen at hm
  have hb0 : b < w.heap.size := Nat.lt_of_lt_of_le h.hb hBw
  have hb0' : b < w.heap.size + 1 := by omega
  have hb2 : b1 < w.heap.size := Nat.lt_of_lt_of_le hb1 hBw
  have hb2' : b1 < w.heap.size + 1 := by omega
  generalize N.nodes.length = n at *
  generalize N.given = g at *
  have hiI : (i : Int) < n := by omega
  have hi0 : (0 : Int) ≤ i := by omega
  simp only at c0 c1 c2 c3
  clear h hx
  have E : Hid (nodeRight g n i ⟨op, xa, xb, xn⟩ = false) := by
    obtain ⟨p1, p2, p3, p4, p5, p6, p7, p8⟩ := hop
    unfold Hid
    simp [nodeRight, p1, p2, p3, p4, p5, p6, p7, p8]
  have d1 : (op == 1) = false := by rw [beq_eq_false_iff_ne]; omega
  have d2 : (op == 2) = false := by rw [beq_eq_false_iff_ne]; omega
  have d3 : (op == 3) = false := by rw [beq_eq_false_iff_ne]; omega
  have d4 : (op == 4) = false := by rw [beq_eq_false_iff_ne]; omega
  have d5 : (op == 5) = false := by rw [beq_eq_false_iff_ne]; omega
  have d6 : (op == 6) = false := by rw [beq_eq_false_iff_ne]; omega
  have d7 : (op == 7) = false := by rw [beq_eq_false_iff_ne]; omega
  have d8 : (op == 8) = false := by rw [beq_eq_false_iff_ne]; omega
  clear hop
  go_enter Try.func28, Try.ntmps28
  go_wp2
  go_region
  all_goals go_wp2
  all_goals go_ret
  all_goals exact ⟨ret_bool E.out.symm, (by repeat (first | exact Below.refl _ _ | assumption | refine below_drewN ?_ _ | refine Below.drew ?_ | refine Below.alloc ?_ (by simp) _ | refine Below.setCell ?_ (by simp) _))⟩

theorem right_any (B : Nat) (b : Nat) (a : Option Addr) (c : Nat) (a' : Option Addr) (c' : Nat) (N : Net) (w : World) (h : NetIn B w b a c a' c' N) (i : Nat) (hi : i < N.nodes.length) (hBw : B ≤ w.heap.size) :
    Calls Try.prog 28 #[.pointer (some ⟨b, 0, none⟩), .int .i64 i] w (Tells (nodeRight N.given N.nodes.length i (N.nodes.getD i GN.zero)) w) := by
  obtain ⟨x, hx⟩ : ∃ x, N.nodes.getD i GN.zero = x := ⟨_, rfl⟩
  rw [hx]
  obtain ⟨op, xa, xb, xn⟩ := x
  by_cases h1 : op = 1
  · subst h1; exact right_op1 B b a c a' c' N w h i hi xa xb xn hx hBw
  by_cases h2 : op = 2
  · subst h2; exact right_op2 B b a c a' c' N w h i hi xa xb xn hx hBw
  by_cases h3 : op = 3
  · subst h3; exact right_op3 B b a c a' c' N w h i hi xa xb xn hx hBw
  by_cases h4 : op = 4
  · subst h4; exact right_op4 B b a c a' c' N w h i hi xa xb xn hx hBw
  by_cases h5 : op = 5
  · subst h5; exact right_op5 B b a c a' c' N w h i hi xa xb xn hx hBw
  by_cases h6 : op = 6
  · subst h6; exact right_op6 B b a c a' c' N w h i hi xa xb xn hx hBw
  by_cases h7 : op = 7
  · subst h7; exact right_op7 B b a c a' c' N w h i hi xa xb xn hx hBw
  by_cases h8 : op = 8
  · subst h8; exact right_op8 B b a c a' c' N w h i hi xa xb xn hx hBw
  exact right_other B b a c a' c' N w h i hi op xa xb xn ⟨h1, h2, h3, h4, h5, h6, h7, h8⟩ hx hBw
end Go.Proofs.Ytlaeflpddehipab
