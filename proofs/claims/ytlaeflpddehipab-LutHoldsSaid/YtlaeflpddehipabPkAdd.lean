/- lut.packer.best and add: a cut more. -/
import Derived.Test.YtlaeflpddehipabPkSig
import Derived.Deep.RegionHeld3
set_option linter.unusedVariables false
set_option linter.unusedSimpArgs false
set_option linter.unusedSectionVars false
namespace Go.Proofs.Ytlaeflpddehipab
open Go.RowKit

set_option maxHeartbeats 800000 in
theorem index_cut (B g : Nat) (lb : Array Value) (eg : ∀ args w, (callFunc g args).run Try.prog w = .ok (.enter g args) w) (a : Option Addr) (n c : Nat) (f : Nat → Value) (p : Nat → Bool) (w : World) (hbig : n ≤ maxLen) (hc : Cells B w a (n * 2) f) (hB : B ≤ w.heap.size) (hp : PredOn g lb (fun i => .agg #[f (i * 2), f (i * 2 + 1)]) p n w) :
    Calls Try.prog 48 #[.slice a n c, .func (.func g) #[] lb] w fun e w' => e = .returned (.int .i64 (firstAt p n)) ∧ Below w.heap.size w w' := by
  unfold maxLen at hbig
  have HC := hid hc
  have HP := hid hp
  clear hc hp
  go_enter Try.func48, Try.ntmps48
  go_wp2
  go_loopw [5, 8] (fun _ s8 wr => ∃ k : Nat, k ≤ n ∧ s8 = .int .i64 k ∧ Below w.heap.size w wr ∧ Misses p k) (fun _ s8 _ => n - (intOf s8).toNat)
  case atStart => exact ⟨0, Nat.zero_le _, rfl, Below.refl _ _, fun j hj => absurd hj (Nat.not_lt_zero _)⟩
  case round =>
    obtain ⟨k, hk, rfl, hbe, hmi⟩ := hrel
    have HBE := hid hbe
    have HMI := hid hmi
    by_cases hlt : k < n
    · have hltz : (k : Int) < (n : Int) := by omega
      have hk0 : (0 : Int) ≤ (k : Int) := by omega
      have hcall := HP.out wr k hbe hlt
      obtain ⟨b, off, rfl, hb, hcell⟩ := (HC.out.stay (hbe.mono hB)).at (by omega)
      have n0 := hcell (k * 2) (by omega)
      have n1 := hcell (k * 2 + 1) (by omega)
      rw [← Nat.add_assoc] at n1
      clear hcell hbe hmi
      simp only at hcall
      generalize f (k * 2) = x0 at n0 hcall
      generalize f (k * 2 + 1) = x1 at n1 hcall
      cases hq : p k with
      | true =>
        have HQ := hid hq
        rw [hq] at hcall
        have HCALL := hid hcall
        clear hcall hq
        go_wp2_with (go_at_fn g; (with_reducible refine HCALL.out.mono ?_); rintro e w' ⟨rfl, hb'⟩)
        go_ret
        exact ⟨ret_int (firstAt_hit p n k hlt HQ.out HMI.out).symm, hb'⟩
      | false =>
        have HQ := hid hq
        rw [hq] at hcall
        have HCALL := hid hcall
        clear hcall hq
        go_wp2_with (go_at_fn g; (with_reducible refine HCALL.out.mono ?_); rintro e w' ⟨rfl, hb'⟩)
        go_roundw
        case rel => exact ⟨k + 1, by omega, by go_num, hb', HMI.out.next HQ.out⟩
        case measure => simp [intOf]; omega
    · obtain rfl : k = n := by omega
      clear hbe hmi
      go_wp2
      go_ret
      exact ⟨ret_int (firstAt_miss p k HMI.out).symm, HBE.out⟩

theorem contains_cut (B g : Nat) (lb : Array Value) (eg : ∀ args w, (callFunc g args).run Try.prog w = .ok (.enter g args) w) (a : Option Addr) (n c : Nat) (f : Nat → Value) (p : Nat → Bool) (w : World) (hbig : n ≤ maxLen) (hc : Cells B w a (n * 2) f) (hB : B ≤ w.heap.size) (hp : PredOn g lb (fun i => .agg #[f (i * 2), f (i * 2 + 1)]) p n w) :
    Calls Try.prog 39 #[.slice a n c, .func (.func g) #[] lb] w fun e w' => e = .returned (.bool ((List.range n).any p)) ∧ Below w.heap.size w w' := by
  have h := index_cut B g lb eg a n c f p w hbig hc hB hp
  have E : Hid (decide (0 ≤ firstAt p n) = (List.range n).any p) := firstAt_nonneg p n
  clear hc hp
  generalize firstAt p n = r at h E
  have H := hid h
  clear h
  go_enter Try.func39, Try.ntmps39
  go_wp2_with (go_at_call 48; (with_reducible refine H.out.mono ?_); rintro e w' ⟨rfl, hb'⟩)
  go_ret
  exact ⟨ret_bool E.out, hb'⟩
attribute [local go_sem ↓] Go.wp_at_zero Go.wp_at_succ
theorem pk_enters : ∀ args w, (callFunc 40 args).run Try.prog w = .ok (.enter 40 args) w := enters_of Try.func40 (by kernel_rfl) rfl
set_option maxHeartbeats 800000 in
/-- slices.Equal, of slices that are not as long. -/
theorem PkEqLen (a a' : Option Addr) (n c n' c' : Nat) (w : World) (hne : n ≠ n') : Calls Try.prog 41 #[.slice a n c, .slice a' n' c'] w fun e w' => e = .returned (.bool false) ∧ w' = w := by
  have d1 : decide ((n : Int) = (n' : Int)) = false := decide_eq_false (by omega)
  go_enter Try.func41, Try.ntmps41
  go_wp2
  go_ret
  exact ⟨rfl, rfl⟩
set_option maxHeartbeats 800000 in
theorem PkAddFn (a a' : Option Addr) (n c n' c' bx : Nat) (d : Int) (w : World) (hne : n ≠ n') (hx : w.cell? ⟨bx, 0, none⟩ = some (.slice a' n' c')) (hl : bx < w.heap.size) :
    Calls Try.prog 40 #[.agg #[.slice a n c, .int .i64 d], .pointer (some ⟨bx, 0, none⟩)] w fun e w' => e = .returned (.bool false) ∧ Below w.heap.size w w' := by
  have HB := hid (show Below w.heap.size w (w.alloc (.cells #[.slice a n c, .int .i64 d] 83)) from (Below.refl _ _).alloc (Nat.le_refl _) _)
  have hx1 := (HB.out.cell (p := ⟨bx, 0, none⟩) hl).trans hx
  go_enter Try.func40, Try.ntmps40
  go_wp2_with (go_at_call 41; (with_reducible refine (PkEqLen a a' n c n' c' _ hne).mono ?_); rintro e w1 ⟨rfl, hw1⟩; subst w1)
  go_ret
  exact ⟨rfl, HB.out⟩
/-- No cut is there already: there is none, or one of other length. -/
theorem PkHas (a' : Option Addr) (n' c' bx g m c n1 c1 : Nat) (a1 : Option Addr) (d : Int) (w : World) (hm : m = 1) (hne : n1 ≠ n') (hx : w.cell? ⟨bx, 0, none⟩ = some (.slice a' n' c')) (hl : bx < w.heap.size) (h0 : w.cell? ⟨g, 0, none⟩ = some (.slice a1 n1 c1)) (h1 : w.cell? ⟨g, 1, none⟩ = some (.int .i64 d)) (hg : g < w.heap.size) :
    Calls Try.prog 39 #[.slice (some ⟨g, 0, none⟩) m c, .func (.func 40) #[] #[.pointer (some ⟨bx, 0, none⟩)]] w fun e w' => e = .returned (.bool false) ∧ Below w.heap.size w w' := by
  subst hm
  refine (contains_cut w.heap.size 40 #[.pointer (some ⟨bx, 0, none⟩)] pk_enters (some ⟨g, 0, none⟩) 1 c (fun j => if j = 0 then .slice a1 n1 c1 else .int .i64 d) (fun _ => false) w (by decide) ?_ (Nat.le_refl _) ?_).mono ?_
  · refine .inr ⟨g, 0, rfl, hg, fun j hj => ?_⟩
    rw [Nat.zero_add]
    rcases j with _ | _ | j
    · exact h0
    · exact h1
    · omega
  · intro W i hb hi
    obtain rfl : i = 0 := by omega
    refine (PkAddFn a1 a' n1 c1 n' c' bx d W hne ((hb.cell (p := ⟨bx, 0, none⟩) hl).trans hx) (Nat.lt_of_lt_of_le hl hb.size)).mono ?_
    rintro e w' ⟨rfl, hb'⟩
    exact ⟨rfl, hb.trans (hb'.mono hb.size)⟩
  · rintro e w' ⟨rfl, hb⟩
    exact ⟨by simp, hb⟩
set_option maxHeartbeats 800000 in
theorem PkHas0 (a' : Option Addr) (c bx : Nat) (w : World) :
    Calls Try.prog 39 #[.slice a' 0 c, .func (.func 40) #[] #[.pointer (some ⟨bx, 0, none⟩)]] w fun e w' => e = .returned (.bool false) ∧ Below w.heap.size w w' := by
  refine (contains_cut w.heap.size 40 #[.pointer (some ⟨bx, 0, none⟩)] pk_enters a' 0 c (fun _ => undef) (fun _ => false) w (by decide) (.inl rfl) (Nat.le_refl _) (fun W i hb hi => by omega)).mono ?_
  rintro e w' ⟨rfl, hb⟩
  exact ⟨by simp, hb⟩

section
variable (bp bc n ccap : Nat)
set_option maxHeartbeats 800000 in
theorem PkBest0 (W : World) (k : Nat) (hk : k < n) (x1 : W.cell? ⟨bp, 1, none⟩ = some (.slice (some ⟨bc, 0, none⟩) n ccap)) (y : W.cell? ⟨bc, k, none⟩ = some (.slice none 0 0)) :
    Calls Try.prog 42 #[.pointer (some ⟨bp, 0, none⟩), .int .i64 (k : Int)] W fun e w' => e = .returned (.int .i64 0) ∧ w' = W := by
  have hkI : (k : Int) < (n : Int) := by omega
  have hk0 : (0 : Int) ≤ (k : Int) := by omega
  go_enter Try.func42, Try.ntmps42
  go_wp2
  go_ret
  exact ⟨rfl, rfl⟩
set_option maxHeartbeats 800000 in
theorem PkBest1 (W : World) (k g m c : Nat) (d : Int) (hk : k < n) (x1 : W.cell? ⟨bp, 1, none⟩ = some (.slice (some ⟨bc, 0, none⟩) n ccap)) (y : W.cell? ⟨bc, k, none⟩ = some (.slice (some ⟨g, 0, none⟩) m c)) (hm : 0 < m) (z : W.cell? ⟨g, 1, none⟩ = some (.int .i64 d)) :
    Calls Try.prog 42 #[.pointer (some ⟨bp, 0, none⟩), .int .i64 (k : Int)] W fun e w' => e = .returned (.int .i64 d) ∧ w' = W := by
  have hkI : (k : Int) < (n : Int) := by omega
  have hk0 : (0 : Int) ≤ (k : Int) := by omega
  have hmI : (0 : Int) < (m : Int) := by omega
  have hm0 : ¬ ((m : Int) = 0) := by omega
  have hmd : decide ((m : Int) = 0) = false := decide_eq_false hm0
  go_enter Try.func42, Try.ntmps42
  go_wp2
  go_ret
  exact ⟨rfl, rfl⟩
end
end Go.Proofs.Ytlaeflpddehipab
