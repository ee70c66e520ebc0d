/- value.Two: what a mark of two comes to. -/
import Derived.Test.YtlaeflpddehipaaVal
set_option linter.unusedVariables false
namespace Go.Proofs.Ytlaeflpddehipaa
open Go.RowKit

def b01 (b : Bool) : Int := if b then 1 else 0
def twoBody (o : Nat) (k a b : Int) : Int :=
  match o with
  | 1 => bits .and .i64 (vcut k a) (vcut k b)
  | 2 => bits .or .i64 (vcut k a) (vcut k b)
  | 3 => bits .xor .i64 (vcut k a) (vcut k b)
  | 4 => b01 (vcut k a == vcut k b)
  | 5 => b01 (vcut k a != vcut k b)
  | 6 => b01 (decide (vcut k a < vcut k b))
  | 7 => b01 (decide (vcut k a ≤ vcut k b))
  | 8 => b01 (decide (vcut k b < vcut k a))
  | 9 => b01 (decide (vcut k b ≤ vcut k a))
  | 10 => vcut k (vcut k a + vcut k b)
  | _ => vcut k (vcut k a - vcut k b)
def twoOf (o : Nat) (k a b : Int) : Int := if resultOf o k k = 0 then 0 else twoBody o k a b
def vtwo (op : ByteArray) (k a b : Int) : Int := twoOf (opOf op) k a b

theorem vcut_bd (k n : Int) : 0 ≤ vcut k n ∧ vcut k n ≤ 255 := by
  unfold vcut vwidth
  split
  · simp; omega
  · split
    · simp; omega
    · simp

theorem one_b (b : Bool) (w : World) :
    Calls Try.prog 59 #[.bool b] w fun e w' => e = .returned (.int .i64 (b01 b)) ∧ w = w' := one_any b w

theorem twoOf_zero (o : Nat) (k a b : Int) (h : resultOf o k k = 0) : twoOf o k a b = 0 := by unfold twoOf; rw [if_pos h]
theorem twoOf_not (o : Nat) (k a b : Int) (h : ¬ resultOf o k k = 0) : o ≠ 0 := by
  intro e; subst e; apply h; unfold resultOf; split <;> rfl

theorem two_zero (op : ByteArray) (k a b : Int) (h : resultOf (opOf op) k k = 0) (w : World) :
    Calls Try.prog 19 #[.string op, .int .i64 k, .int .i64 a, .int .i64 b] w fun e w' => e = .returned (.int .i64 (twoOf (opOf op) k a b)) ∧ w = w' := by
  rw [twoOf_zero _ _ _ _ h]
  have hz : (vresult op k k == 0) = true := by simpa [vresult] using h
  clear h
  go_enter Try.func19, Try.ntmps19
  go_wp2_with (go_at_call 25; refine (result_any _ _ _ _).mono ?_; rintro e w' ⟨rfl, rfl⟩)
  go_ret
  exact ⟨rfl, rfl⟩

set_option maxHeartbeats 800000 in
theorem two_and (k a b : Int) (h : ¬ resultOf 1 k k = 0) (w : World) :
    Calls Try.prog 19 #[.string ⟨#[97, 110, 100]⟩, .int .i64 k, .int .i64 a, .int .i64 b] w fun e w' => e = .returned (.int .i64 (twoOf 1 k a b)) ∧ w = w' := by
  have hz : (vresult ⟨#[97, 110, 100]⟩ k k == 0) = false := by simpa [vresult, opOf_and] using h
  have hr : Hid (twoOf 1 k a b = bits .and .i64 (vcut k a) (vcut k b)) := if_neg h
  have ba := vcut_bd k a
  have bb := vcut_bd k b
  clear h
  go_enter Try.func19, Try.ntmps19
  go_wp2_with (first
    | (go_at_call 25; refine (result_any _ _ _ _).mono ?_; rintro e w' ⟨rfl, rfl⟩)
    | (go_at_call 20; refine (cut_any _ _ _).mono ?_; rintro e w' ⟨rfl, rfl⟩)
    | (go_at_call 59; refine (one_b _ _).mono ?_; rintro e w' ⟨rfl, rfl⟩))
  all_goals go_ret
  all_goals exact ⟨ret_int (by rw [hr.out]; try simp_all), rfl⟩

set_option maxHeartbeats 800000 in
theorem two_or (k a b : Int) (h : ¬ resultOf 2 k k = 0) (w : World) :
    Calls Try.prog 19 #[.string ⟨#[111, 114]⟩, .int .i64 k, .int .i64 a, .int .i64 b] w fun e w' => e = .returned (.int .i64 (twoOf 2 k a b)) ∧ w = w' := by
  have hz : (vresult ⟨#[111, 114]⟩ k k == 0) = false := by simpa [vresult, opOf_or] using h
  have hr : Hid (twoOf 2 k a b = bits .or .i64 (vcut k a) (vcut k b)) := if_neg h
  have ba := vcut_bd k a
  have bb := vcut_bd k b
  clear h
  go_enter Try.func19, Try.ntmps19
  go_wp2_with (first
    | (go_at_call 25; refine (result_any _ _ _ _).mono ?_; rintro e w' ⟨rfl, rfl⟩)
    | (go_at_call 20; refine (cut_any _ _ _).mono ?_; rintro e w' ⟨rfl, rfl⟩)
    | (go_at_call 59; refine (one_b _ _).mono ?_; rintro e w' ⟨rfl, rfl⟩))
  all_goals go_ret
  all_goals exact ⟨ret_int (by rw [hr.out]; try simp_all), rfl⟩

set_option maxHeartbeats 800000 in
theorem two_xor (k a b : Int) (h : ¬ resultOf 3 k k = 0) (w : World) :
    Calls Try.prog 19 #[.string ⟨#[120, 111, 114]⟩, .int .i64 k, .int .i64 a, .int .i64 b] w fun e w' => e = .returned (.int .i64 (twoOf 3 k a b)) ∧ w = w' := by
  have hz : (vresult ⟨#[120, 111, 114]⟩ k k == 0) = false := by simpa [vresult, opOf_xor] using h
  have hr : Hid (twoOf 3 k a b = bits .xor .i64 (vcut k a) (vcut k b)) := if_neg h
  have ba := vcut_bd k a
  have bb := vcut_bd k b
  clear h
  go_enter Try.func19, Try.ntmps19
  go_wp2_with (first
    | (go_at_call 25; refine (result_any _ _ _ _).mono ?_; rintro e w' ⟨rfl, rfl⟩)
    | (go_at_call 20; refine (cut_any _ _ _).mono ?_; rintro e w' ⟨rfl, rfl⟩)
    | (go_at_call 59; refine (one_b _ _).mono ?_; rintro e w' ⟨rfl, rfl⟩))
  all_goals go_ret
  all_goals exact ⟨ret_int (by rw [hr.out]; try simp_all), rfl⟩

set_option maxHeartbeats 800000 in
theorem two_eq (k a b : Int) (h : ¬ resultOf 4 k k = 0) (w : World) :
    Calls Try.prog 19 #[.string ⟨#[61]⟩, .int .i64 k, .int .i64 a, .int .i64 b] w fun e w' => e = .returned (.int .i64 (twoOf 4 k a b)) ∧ w = w' := by
  have hz : (vresult ⟨#[61]⟩ k k == 0) = false := by simpa [vresult, opOf_eq] using h
  have hr : Hid (twoOf 4 k a b = b01 (vcut k a == vcut k b)) := if_neg h
  have ba := vcut_bd k a
  have bb := vcut_bd k b
  clear h
  go_enter Try.func19, Try.ntmps19
  go_wp2_with (first
    | (go_at_call 25; refine (result_any _ _ _ _).mono ?_; rintro e w' ⟨rfl, rfl⟩)
    | (go_at_call 20; refine (cut_any _ _ _).mono ?_; rintro e w' ⟨rfl, rfl⟩)
    | (go_at_call 59; refine (one_b _ _).mono ?_; rintro e w' ⟨rfl, rfl⟩))
  all_goals go_ret
  all_goals exact ⟨ret_int (by rw [hr.out]; try simp_all), rfl⟩

set_option maxHeartbeats 800000 in
theorem two_ne (k a b : Int) (h : ¬ resultOf 5 k k = 0) (w : World) :
    Calls Try.prog 19 #[.string ⟨#[60, 62]⟩, .int .i64 k, .int .i64 a, .int .i64 b] w fun e w' => e = .returned (.int .i64 (twoOf 5 k a b)) ∧ w = w' := by
  have hz : (vresult ⟨#[60, 62]⟩ k k == 0) = false := by simpa [vresult, opOf_ne] using h
  have hr : Hid (twoOf 5 k a b = b01 (vcut k a != vcut k b)) := if_neg h
  have ba := vcut_bd k a
  have bb := vcut_bd k b
  clear h
  go_enter Try.func19, Try.ntmps19
  go_wp2_with (first
    | (go_at_call 25; refine (result_any _ _ _ _).mono ?_; rintro e w' ⟨rfl, rfl⟩)
    | (go_at_call 20; refine (cut_any _ _ _).mono ?_; rintro e w' ⟨rfl, rfl⟩)
    | (go_at_call 59; refine (one_b _ _).mono ?_; rintro e w' ⟨rfl, rfl⟩))
  all_goals go_ret
  all_goals exact ⟨ret_int (by rw [hr.out]; try simp_all), rfl⟩

set_option maxHeartbeats 800000 in
theorem two_lt (k a b : Int) (h : ¬ resultOf 6 k k = 0) (w : World) :
    Calls Try.prog 19 #[.string ⟨#[60]⟩, .int .i64 k, .int .i64 a, .int .i64 b] w fun e w' => e = .returned (.int .i64 (twoOf 6 k a b)) ∧ w = w' := by
  have hz : (vresult ⟨#[60]⟩ k k == 0) = false := by simpa [vresult, opOf_lt] using h
  have hr : Hid (twoOf 6 k a b = b01 (decide (vcut k a < vcut k b))) := if_neg h
  have ba := vcut_bd k a
  have bb := vcut_bd k b
  clear h
  go_enter Try.func19, Try.ntmps19
  go_wp2_with (first
    | (go_at_call 25; refine (result_any _ _ _ _).mono ?_; rintro e w' ⟨rfl, rfl⟩)
    | (go_at_call 20; refine (cut_any _ _ _).mono ?_; rintro e w' ⟨rfl, rfl⟩)
    | (go_at_call 59; refine (one_b _ _).mono ?_; rintro e w' ⟨rfl, rfl⟩))
  all_goals go_ret
  all_goals exact ⟨ret_int (by rw [hr.out]; try simp_all), rfl⟩

set_option maxHeartbeats 800000 in
theorem two_le (k a b : Int) (h : ¬ resultOf 7 k k = 0) (w : World) :
    Calls Try.prog 19 #[.string ⟨#[60, 61]⟩, .int .i64 k, .int .i64 a, .int .i64 b] w fun e w' => e = .returned (.int .i64 (twoOf 7 k a b)) ∧ w = w' := by
  have hz : (vresult ⟨#[60, 61]⟩ k k == 0) = false := by simpa [vresult, opOf_le] using h
  have hr : Hid (twoOf 7 k a b = b01 (decide (vcut k a ≤ vcut k b))) := if_neg h
  have ba := vcut_bd k a
  have bb := vcut_bd k b
  clear h
  go_enter Try.func19, Try.ntmps19
  go_wp2_with (first
    | (go_at_call 25; refine (result_any _ _ _ _).mono ?_; rintro e w' ⟨rfl, rfl⟩)
    | (go_at_call 20; refine (cut_any _ _ _).mono ?_; rintro e w' ⟨rfl, rfl⟩)
    | (go_at_call 59; refine (one_b _ _).mono ?_; rintro e w' ⟨rfl, rfl⟩))
  all_goals go_ret
  all_goals exact ⟨ret_int (by rw [hr.out]; try simp_all), rfl⟩

set_option maxHeartbeats 800000 in
theorem two_gt (k a b : Int) (h : ¬ resultOf 8 k k = 0) (w : World) :
    Calls Try.prog 19 #[.string ⟨#[62]⟩, .int .i64 k, .int .i64 a, .int .i64 b] w fun e w' => e = .returned (.int .i64 (twoOf 8 k a b)) ∧ w = w' := by
  have hz : (vresult ⟨#[62]⟩ k k == 0) = false := by simpa [vresult, opOf_gt] using h
  have hr : Hid (twoOf 8 k a b = b01 (decide (vcut k b < vcut k a))) := if_neg h
  have ba := vcut_bd k a
  have bb := vcut_bd k b
  clear h
  go_enter Try.func19, Try.ntmps19
  go_wp2_with (first
    | (go_at_call 25; refine (result_any _ _ _ _).mono ?_; rintro e w' ⟨rfl, rfl⟩)
    | (go_at_call 20; refine (cut_any _ _ _).mono ?_; rintro e w' ⟨rfl, rfl⟩)
    | (go_at_call 59; refine (one_b _ _).mono ?_; rintro e w' ⟨rfl, rfl⟩))
  all_goals go_ret
  all_goals exact ⟨ret_int (by rw [hr.out]; try simp_all), rfl⟩

set_option maxHeartbeats 800000 in
theorem two_ge (k a b : Int) (h : ¬ resultOf 9 k k = 0) (w : World) :
    Calls Try.prog 19 #[.string ⟨#[62, 61]⟩, .int .i64 k, .int .i64 a, .int .i64 b] w fun e w' => e = .returned (.int .i64 (twoOf 9 k a b)) ∧ w = w' := by
  have hz : (vresult ⟨#[62, 61]⟩ k k == 0) = false := by simpa [vresult, opOf_ge] using h
  have hr : Hid (twoOf 9 k a b = b01 (decide (vcut k b ≤ vcut k a))) := if_neg h
  have ba := vcut_bd k a
  have bb := vcut_bd k b
  clear h
  go_enter Try.func19, Try.ntmps19
  go_wp2_with (first
    | (go_at_call 25; refine (result_any _ _ _ _).mono ?_; rintro e w' ⟨rfl, rfl⟩)
    | (go_at_call 20; refine (cut_any _ _ _).mono ?_; rintro e w' ⟨rfl, rfl⟩)
    | (go_at_call 59; refine (one_b _ _).mono ?_; rintro e w' ⟨rfl, rfl⟩))
  all_goals go_ret
  all_goals exact ⟨ret_int (by rw [hr.out]; try simp_all), rfl⟩

set_option maxHeartbeats 800000 in
theorem two_plus (k a b : Int) (h : ¬ resultOf 10 k k = 0) (w : World) :
    Calls Try.prog 19 #[.string ⟨#[43]⟩, .int .i64 k, .int .i64 a, .int .i64 b] w fun e w' => e = .returned (.int .i64 (twoOf 10 k a b)) ∧ w = w' := by
  have hz : (vresult ⟨#[43]⟩ k k == 0) = false := by simpa [vresult, opOf_plus] using h
  have hr : Hid (twoOf 10 k a b = vcut k (vcut k a + vcut k b)) := if_neg h
  have ba := vcut_bd k a
  have bb := vcut_bd k b
  clear h
  go_enter Try.func19, Try.ntmps19
  go_wp2_with (first
    | (go_at_call 25; refine (result_any _ _ _ _).mono ?_; rintro e w' ⟨rfl, rfl⟩)
    | (go_at_call 20; refine (cut_any _ _ _).mono ?_; rintro e w' ⟨rfl, rfl⟩)
    | (go_at_call 59; refine (one_b _ _).mono ?_; rintro e w' ⟨rfl, rfl⟩))
  all_goals go_ret
  all_goals exact ⟨ret_int (by rw [hr.out]; try simp_all), rfl⟩

set_option maxHeartbeats 800000 in
theorem two_minus (k a b : Int) (h : ¬ resultOf 11 k k = 0) (w : World) :
    Calls Try.prog 19 #[.string ⟨#[45]⟩, .int .i64 k, .int .i64 a, .int .i64 b] w fun e w' => e = .returned (.int .i64 (twoOf 11 k a b)) ∧ w = w' := by
  have hz : (vresult ⟨#[45]⟩ k k == 0) = false := by simpa [vresult, opOf_minus] using h
  have hr : Hid (twoOf 11 k a b = vcut k (vcut k a - vcut k b)) := if_neg h
  have ba := vcut_bd k a
  have bb := vcut_bd k b
  clear h
  go_enter Try.func19, Try.ntmps19
  go_wp2_with (first
    | (go_at_call 25; refine (result_any _ _ _ _).mono ?_; rintro e w' ⟨rfl, rfl⟩)
    | (go_at_call 20; refine (cut_any _ _ _).mono ?_; rintro e w' ⟨rfl, rfl⟩)
    | (go_at_call 59; refine (one_b _ _).mono ?_; rintro e w' ⟨rfl, rfl⟩))
  all_goals go_ret
  all_goals exact ⟨ret_int (by rw [hr.out]; try simp_all), rfl⟩


theorem two_any (op : ByteArray) (k a b : Int) (w : World) :
    Calls Try.prog 19 #[.string op, .int .i64 k, .int .i64 a, .int .i64 b] w fun e w' => e = .returned (.int .i64 (vtwo op k a b)) ∧ w = w' := by
  unfold vtwo
  by_cases h : resultOf (opOf op) k k = 0
  · exact two_zero op k a b h w
  · rcases op_cases op with rfl | rfl | rfl | rfl | rfl | rfl | rfl | rfl | rfl | rfl | rfl | hn
    · rw [opOf_and] at h ⊢; exact two_and k a b h w
    · rw [opOf_or] at h ⊢; exact two_or k a b h w
    · rw [opOf_xor] at h ⊢; exact two_xor k a b h w
    · rw [opOf_eq] at h ⊢; exact two_eq k a b h w
    · rw [opOf_ne] at h ⊢; exact two_ne k a b h w
    · rw [opOf_lt] at h ⊢; exact two_lt k a b h w
    · rw [opOf_le] at h ⊢; exact two_le k a b h w
    · rw [opOf_gt] at h ⊢; exact two_gt k a b h w
    · rw [opOf_ge] at h ⊢; exact two_ge k a b h w
    · rw [opOf_plus] at h ⊢; exact two_plus k a b h w
    · rw [opOf_minus] at h ⊢; exact two_minus k a b h w
    · exact absurd hn.1 (twoOf_not _ k a b h)
end Go.Proofs.Ytlaeflpddehipaa
