/- slices.IndexFunc and slices.ContainsFunc at luts, registers, ints and nodes: whatever predicate. -/
import Derived.Test.YtlaeflpddehipabBase
import Derived.Shelf.Abstract
set_option linter.unusedVariables false
namespace Go.Proofs.Ytlaeflpddehipab
open Go.RowKit

/-- The first index at which p holds, or -1. -/
def firstAt (p : Nat → Bool) (n : Nat) : Int := match (List.range n).find? p with | some i => (i : Int) | none => -1
theorem firstAt_hit (p : Nat → Bool) (n k : Nat) (hk : k < n) (hp : p k = true) (hb : ∀ j, j < k → p j = false) : firstAt p n = k := by
  unfold firstAt
  have h : (List.range n).find? p = some k := by
    rw [List.find?_eq_some_iff_append]
    refine ⟨hp, List.range k, (List.range (n - k - 1)).map (k + 1 + ·), ?_, ?_⟩
    · apply List.ext_getElem?
      intro i
      by_cases h1 : i < k
      · rw [List.getElem?_append_left (by simpa using h1), List.getElem?_range h1, List.getElem?_range (by omega)]
      · rw [List.getElem?_append_right (by simpa using h1), List.length_range]
        by_cases h2 : i = k
        · subst h2; simp [hk]
        · obtain ⟨m, hm⟩ : ∃ m, i - k = m + 1 := ⟨i - k - 1, by omega⟩
          rw [hm, List.getElem?_cons_succ, List.getElem?_map]
          by_cases h3 : i < n
          · rw [List.getElem?_range h3, List.getElem?_range (by omega)]
            simp
            omega
          · rw [List.getElem?_eq_none (by simp; omega), List.getElem?_eq_none (by simp; omega)]
            rfl
    · intro a ha
      simp at ha
      simp [hb a ha]
  rw [h]
theorem firstAt_miss (p : Nat → Bool) (n : Nat) (hb : ∀ j, j < n → p j = false) : firstAt p n = -1 := by
  unfold firstAt
  have h : (List.range n).find? p = none := by
    rw [List.find?_eq_none]
    intro a ha
    simp at ha
    simp [hb a ha]
  rw [h]
theorem firstAt_nonneg (p : Nat → Bool) (n : Nat) : decide (0 ≤ firstAt p n) = (List.range n).any p := by
  unfold firstAt
  cases h : (List.range n).find? p with
  | some i =>
    have h1 := List.find?_some h
    have h2 := List.mem_of_find?_eq_some h
    have : (List.range n).any p = true := List.any_eq_true.2 ⟨i, h2, h1⟩
    rw [this]
    simp
  | none =>
    rw [List.find?_eq_none] at h
    have : (List.range n).any p = false := by
      rw [List.any_eq_false]
      exact h
    rw [this]
    simp
def Misses (p : Nat → Bool) (k : Nat) : Prop := ∀ j, j < k → p j = false
theorem Misses.next {p : Nat → Bool} {k : Nat} (h : Misses p k) (hk : p k = false) : Misses p (k + 1) := by
  intro j hj
  by_cases e : j = k
  · subst e; exact hk
  · exact h j (by omega)
/-- What is asked of a predicate on the elements of a slice: at the i-th it hands back p i; what was there stays. -/
def PredOn (g : Nat) (lb : Array Value) (el : Nat → Value) (p : Nat → Bool) (n : Nat) (w : World) : Prop :=
  ∀ (W : World) (i : Nat), Below w.heap.size w W → i < n → Calls Try.prog g (#[el i] ++ lb) W fun e w' => e = .returned (.bool (p i)) ∧ Below w.heap.size w w'

set_option maxHeartbeats 800000 in
theorem index_lut (B g : Nat) (lb : Array Value) (eg : ∀ args w, (callFunc g args).run Try.prog w = .ok (.enter g args) w) (a : Option Addr) (n c : Nat) (f : Nat → Value) (p : Nat → Bool) (w : World) (hbig : n ≤ maxLen) (hc : Cells B w a (n * 2) f) (hB : B ≤ w.heap.size) (hp : PredOn g lb (fun i => .agg #[f (i * 2), f (i * 2 + 1)]) p n w) :
    Calls Try.prog 22 #[.slice a n c, .func (.func g) #[] lb] w fun e w' => e = .returned (.int .i64 (firstAt p n)) ∧ Below w.heap.size w w' := by
  unfold maxLen at hbig
  have HC := hid hc
  have HP := hid hp
  clear hc hp
  go_enter Try.func22, Try.ntmps22
  go_wp2
  go_loopw [5, 8] (fun _ s8 wr => ∃ k : Nat, k ≤ n ∧ s8 = .int .i64 k ∧ Below w.heap.size w wr ∧ Misses p k) (fun _ s8 _ => n - (intOf s8).toNat)
  case atStart => exact ⟨0, Nat.zero_le _, rfl, Below.refl _ _, fun j hj => absurd hj (Nat.not_lt_zero _)⟩
  case round =>
    obtain ⟨k, hk, rfl, hbe, hmi⟩ := hrel
    have HBE := hid hbe
    have HMI := hid hmi
    by_cases hlt : k < n
    · have hltz : (k : Int) < (n : Int) := by omega
      have hk0 : (0 : Int) ≤ (k : Int) := by omega
      have hcall := HP.out wr k hbe hlt
      obtain ⟨b, off, rfl, hb, hcell⟩ := (HC.out.stay (hbe.mono hB)).at (by omega)
      have n0 := hcell (k * 2) (by omega)
      have n1 := hcell (k * 2 + 1) (by omega)
      rw [← Nat.add_assoc] at n1
      clear hcell hbe hmi
      simp only at hcall
      generalize f (k * 2) = x0 at n0 hcall
      generalize f (k * 2 + 1) = x1 at n1 hcall
      cases hq : p k with
      | true =>
        have HQ := hid hq
        rw [hq] at hcall
        have HCALL := hid hcall
        clear hcall hq
        go_wp2_with (go_at_fn g; (with_reducible refine HCALL.out.mono ?_); rintro e w' ⟨rfl, hb'⟩)
        go_ret
        exact ⟨ret_int (firstAt_hit p n k hlt HQ.out HMI.out).symm, hb'⟩
      | false =>
        have HQ := hid hq
        rw [hq] at hcall
        have HCALL := hid hcall
        clear hcall hq
        go_wp2_with (go_at_fn g; (with_reducible refine HCALL.out.mono ?_); rintro e w' ⟨rfl, hb'⟩)
        go_roundw
        case rel => exact ⟨k + 1, by omega, by go_num, hb', HMI.out.next HQ.out⟩
        case measure => simp [intOf]; omega
    · obtain rfl : k = n := by omega
      clear hbe hmi
      go_wp2
      go_ret
      exact ⟨ret_int (firstAt_miss p k HMI.out).symm, HBE.out⟩

theorem contains_lut (B g : Nat) (lb : Array Value) (eg : ∀ args w, (callFunc g args).run Try.prog w = .ok (.enter g args) w) (a : Option Addr) (n c : Nat) (f : Nat → Value) (p : Nat → Bool) (w : World) (hbig : n ≤ maxLen) (hc : Cells B w a (n * 2) f) (hB : B ≤ w.heap.size) (hp : PredOn g lb (fun i => .agg #[f (i * 2), f (i * 2 + 1)]) p n w) :
    Calls Try.prog 12 #[.slice a n c, .func (.func g) #[] lb] w fun e w' => e = .returned (.bool ((List.range n).any p)) ∧ Below w.heap.size w w' := by
  have h := index_lut B g lb eg a n c f p w hbig hc hB hp
  have E : Hid (decide (0 ≤ firstAt p n) = (List.range n).any p) := firstAt_nonneg p n
  clear hc hp
  generalize firstAt p n = r at h E
  have H := hid h
  clear h
  go_enter Try.func12, Try.ntmps12
  go_wp2_with (go_at_call 22; (with_reducible refine H.out.mono ?_); rintro e w' ⟨rfl, hb'⟩)
  go_ret
  exact ⟨ret_bool E.out, hb'⟩

set_option maxHeartbeats 800000 in
theorem index_reg (B g : Nat) (lb : Array Value) (eg : ∀ args w, (callFunc g args).run Try.prog w = .ok (.enter g args) w) (a : Option Addr) (n c : Nat) (f : Nat → Value) (p : Nat → Bool) (w : World) (hbig : n ≤ maxLen) (hc : Cells B w a (n * 2) f) (hB : B ≤ w.heap.size) (hp : PredOn g lb (fun i => .agg #[f (i * 2), f (i * 2 + 1)]) p n w) :
    Calls Try.prog 27 #[.slice a n c, .func (.func g) #[] lb] w fun e w' => e = .returned (.int .i64 (firstAt p n)) ∧ Below w.heap.size w w' := by
  unfold maxLen at hbig
  have HC := hid hc
  have HP := hid hp
  clear hc hp
  go_enter Try.func27, Try.ntmps27
  go_wp2
  go_loopw [5, 8] (fun _ s8 wr => ∃ k : Nat, k ≤ n ∧ s8 = .int .i64 k ∧ Below w.heap.size w wr ∧ Misses p k) (fun _ s8 _ => n - (intOf s8).toNat)
  case atStart => exact ⟨0, Nat.zero_le _, rfl, Below.refl _ _, fun j hj => absurd hj (Nat.not_lt_zero _)⟩
  case round =>
    obtain ⟨k, hk, rfl, hbe, hmi⟩ := hrel
    have HBE := hid hbe
    have HMI := hid hmi
    by_cases hlt : k < n
    · have hltz : (k : Int) < (n : Int) := by omega
      have hk0 : (0 : Int) ≤ (k : Int) := by omega
      have hcall := HP.out wr k hbe hlt
      obtain ⟨b, off, rfl, hb, hcell⟩ := (HC.out.stay (hbe.mono hB)).at (by omega)
      have n0 := hcell (k * 2) (by omega)
      have n1 := hcell (k * 2 + 1) (by omega)
      rw [← Nat.add_assoc] at n1
      clear hcell hbe hmi
      simp only at hcall
      generalize f (k * 2) = x0 at n0 hcall
      generalize f (k * 2 + 1) = x1 at n1 hcall
      cases hq : p k with
      | true =>
        have HQ := hid hq
        rw [hq] at hcall
        have HCALL := hid hcall
        clear hcall hq
        go_wp2_with (go_at_fn g; (with_reducible refine HCALL.out.mono ?_); rintro e w' ⟨rfl, hb'⟩)
        go_ret
        exact ⟨ret_int (firstAt_hit p n k hlt HQ.out HMI.out).symm, hb'⟩
      | false =>
        have HQ := hid hq
        rw [hq] at hcall
        have HCALL := hid hcall
        clear hcall hq
        go_wp2_with (go_at_fn g; (with_reducible refine HCALL.out.mono ?_); rintro e w' ⟨rfl, hb'⟩)
        go_roundw
        case rel => exact ⟨k + 1, by omega, by go_num, hb', HMI.out.next HQ.out⟩
        case measure => simp [intOf]; omega
    · obtain rfl : k = n := by omega
      clear hbe hmi
      go_wp2
      go_ret
      exact ⟨ret_int (firstAt_miss p k HMI.out).symm, HBE.out⟩

theorem contains_reg (B g : Nat) (lb : Array Value) (eg : ∀ args w, (callFunc g args).run Try.prog w = .ok (.enter g args) w) (a : Option Addr) (n c : Nat) (f : Nat → Value) (p : Nat → Bool) (w : World) (hbig : n ≤ maxLen) (hc : Cells B w a (n * 2) f) (hB : B ≤ w.heap.size) (hp : PredOn g lb (fun i => .agg #[f (i * 2), f (i * 2 + 1)]) p n w) :
    Calls Try.prog 19 #[.slice a n c, .func (.func g) #[] lb] w fun e w' => e = .returned (.bool ((List.range n).any p)) ∧ Below w.heap.size w w' := by
  have h := index_reg B g lb eg a n c f p w hbig hc hB hp
  have E : Hid (decide (0 ≤ firstAt p n) = (List.range n).any p) := firstAt_nonneg p n
  clear hc hp
  generalize firstAt p n = r at h E
  have H := hid h
  clear h
  go_enter Try.func19, Try.ntmps19
  go_wp2_with (go_at_call 27; (with_reducible refine H.out.mono ?_); rintro e w' ⟨rfl, hb'⟩)
  go_ret
  exact ⟨ret_bool E.out, hb'⟩

set_option maxHeartbeats 800000 in
theorem index_int (B g : Nat) (lb : Array Value) (eg : ∀ args w, (callFunc g args).run Try.prog w = .ok (.enter g args) w) (a : Option Addr) (n c : Nat) (f : Nat → Value) (p : Nat → Bool) (w : World) (hbig : n ≤ maxLen) (hc : Cells B w a n f) (hB : B ≤ w.heap.size) (hp : PredOn g lb (fun i => f i) p n w) :
    Calls Try.prog 26 #[.slice a n c, .func (.func g) #[] lb] w fun e w' => e = .returned (.int .i64 (firstAt p n)) ∧ Below w.heap.size w w' := by
  unfold maxLen at hbig
  have HC := hid hc
  have HP := hid hp
  clear hc hp
  go_enter Try.func26, Try.ntmps26
  go_wp2
  go_loopw [5, 8] (fun _ s8 wr => ∃ k : Nat, k ≤ n ∧ s8 = .int .i64 k ∧ Below w.heap.size w wr ∧ Misses p k) (fun _ s8 _ => n - (intOf s8).toNat)
  case atStart => exact ⟨0, Nat.zero_le _, rfl, Below.refl _ _, fun j hj => absurd hj (Nat.not_lt_zero _)⟩
  case round =>
    obtain ⟨k, hk, rfl, hbe, hmi⟩ := hrel
    have HBE := hid hbe
    have HMI := hid hmi
    by_cases hlt : k < n
    · have hltz : (k : Int) < (n : Int) := by omega
      have hk0 : (0 : Int) ≤ (k : Int) := by omega
      have hcall := HP.out wr k hbe hlt
      obtain ⟨b, off, rfl, hb, hcell⟩ := (HC.out.stay (hbe.mono hB)).at (by omega)
      have n0 := hcell k hlt
      clear hcell hbe hmi
      simp only at hcall
      generalize f (k) = x0 at n0 hcall
      cases hq : p k with
      | true =>
        have HQ := hid hq
        rw [hq] at hcall
        have HCALL := hid hcall
        clear hcall hq
        go_wp2_with (go_at_fn g; (with_reducible refine HCALL.out.mono ?_); rintro e w' ⟨rfl, hb'⟩)
        go_ret
        exact ⟨ret_int (firstAt_hit p n k hlt HQ.out HMI.out).symm, hb'⟩
      | false =>
        have HQ := hid hq
        rw [hq] at hcall
        have HCALL := hid hcall
        clear hcall hq
        go_wp2_with (go_at_fn g; (with_reducible refine HCALL.out.mono ?_); rintro e w' ⟨rfl, hb'⟩)
        go_roundw
        case rel => exact ⟨k + 1, by omega, by go_num, hb', HMI.out.next HQ.out⟩
        case measure => simp [intOf]; omega
    · obtain rfl : k = n := by omega
      clear hbe hmi
      go_wp2
      go_ret
      exact ⟨ret_int (firstAt_miss p k HMI.out).symm, HBE.out⟩

theorem contains_int (B g : Nat) (lb : Array Value) (eg : ∀ args w, (callFunc g args).run Try.prog w = .ok (.enter g args) w) (a : Option Addr) (n c : Nat) (f : Nat → Value) (p : Nat → Bool) (w : World) (hbig : n ≤ maxLen) (hc : Cells B w a n f) (hB : B ≤ w.heap.size) (hp : PredOn g lb (fun i => f i) p n w) :
    Calls Try.prog 17 #[.slice a n c, .func (.func g) #[] lb] w fun e w' => e = .returned (.bool ((List.range n).any p)) ∧ Below w.heap.size w w' := by
  have h := index_int B g lb eg a n c f p w hbig hc hB hp
  have E : Hid (decide (0 ≤ firstAt p n) = (List.range n).any p) := firstAt_nonneg p n
  clear hc hp
  generalize firstAt p n = r at h E
  have H := hid h
  clear h
  go_enter Try.func17, Try.ntmps17
  go_wp2_with (go_at_call 26; (with_reducible refine H.out.mono ?_); rintro e w' ⟨rfl, hb'⟩)
  go_ret
  exact ⟨ret_bool E.out, hb'⟩


end Go.Proofs.Ytlaeflpddehipab
