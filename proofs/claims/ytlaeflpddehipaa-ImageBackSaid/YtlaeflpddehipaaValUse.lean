/- The contracts of package value in the form in which the laws meet them; the facts that the laws of package value look at first. -/
import Derived.Test.YtlaeflpddehipaaLaws
set_option linter.unusedVariables false
namespace Go.Proofs.Ytlaeflpddehipaa
open Go.RowKit

theorem two_is (op : ByteArray) (k a b r : Int) (h : Hid (vtwo op k a b = r)) (w : World) :
    Calls Try.prog 19 #[.string op, .int .i64 k, .int .i64 a, .int .i64 b] w fun e w' => e = .returned (.int .i64 r) ∧ w = w' := by
  have h' : vtwo op k a b = r := h
  rw [← h']; exact two_any op k a b w

theorem not_is (k n r : Int) (h : Hid (vnot k n = r)) (hn : -9223372036854775808 ≤ n ∧ n ≤ 9223372036854775807) (w : World) :
    Calls Try.prog 22 #[.int .i64 k, .int .i64 n] w fun e w' => e = .returned (.int .i64 r) ∧ w = w' := by
  have h' : vnot k n = r := h
  rw [← h']; exact not_any k n hn w

theorem cut_is (k n r : Int) (h : Hid (vcut k n = r)) (w : World) :
    Calls Try.prog 20 #[.int .i64 k, .int .i64 n] w fun e w' => e = .returned (.int .i64 r) ∧ w = w' := by
  have h' : vcut k n = r := h
  rw [← h']; exact cut_any k n w

theorem result_is (op : ByteArray) (a b r : Int) (h : Hid (vresult op a b = r)) (w : World) :
    Calls Try.prog 25 #[.string op, .int .i64 a, .int .i64 b] w fun e w' => e = .returned (.int .i64 r) ∧ w = w' := by
  have h' : vresult op a b = r := h
  rw [← h']; exact result_any op a b w

/-- Of what Bits gave: that number. -/
theorem of_row (base : Nat) (v : Value) (l : List Bool) (r : Int) (w : World) (hown : w.ownsRow base 4 1 v l.length (l.map .bool)) (h : Hid (vof l = r)) :
    Calls Try.prog 23 #[v] w fun e w' => e = .returned (.int .i64 r) ∧ w = w' := by
  have h' : vof l = r := h
  obtain ⟨a, c, rfl, hn, hc, hcells⟩ := Cells.of_owns hown
  rw [← h']
  refine of_any w.heap.size a l.length c l w rfl (Nat.le_trans hn hc) ?_
  rw [Nat.mul_one] at hcells
  rcases hcells with h0 | ⟨b, off, ha, hb, hcell⟩
  · exact .inl h0
  · refine .inr ⟨b, off, ha, hb, fun j hj => (hcell j hj).trans ?_⟩
    simp [List.getD_eq_getElem?_getD, hj]

set_option maxHeartbeats 800000 in
theorem reckoned_any (w : World) : Calls Try.prog 16 #[] w (Yes w) := by
  have h1 : Hid (vtwo ⟨#[43]⟩ 2 250 10 = 4) := by unfold Hid; decide +kernel
  have h2 : Hid (vtwo ⟨#[45]⟩ 2 3 5 = 254) := by unfold Hid; decide +kernel
  have h3 : Hid (vtwo ⟨#[60]⟩ 2 3 200 = 1) := by unfold Hid; decide +kernel
  have h4 : Hid (vnot 1 1 = 0) := by unfold Hid; decide +kernel
  have h5 : Hid (vof (vbits 2 77) = 77) := by unfold Hid; decide +kernel
  go_enter Try.func16, Try.ntmps16
  go_wp2_with (first
    | (go_at_call 19; refine (two_is _ _ _ _ _ (by with_reducible assumption) _).mono ?_; rintro e w' ⟨rfl, rfl⟩)
    | (go_at_call 22; refine (not_is _ _ _ (by with_reducible assumption) (by omega) _).mono ?_; rintro e w' ⟨rfl, rfl⟩)
    | (go_at_call 24; refine (bits_any _ _ _).mono ?_; rintro e w1 ⟨v, rfl, hown, hbel⟩)
    | (go_at_call 23; refine (of_row _ _ _ _ _ (by with_reducible assumption) (by with_reducible assumption)).mono ?_; rintro e w' ⟨rfl, rfl⟩))
  go_ret
  exact ⟨rfl, by assumption⟩

def vpick (a n : Int) : Int := (a % 18446744073709551616) % n
theorem vpick_bd (a n : Int) (hn : 0 < n) : 0 ≤ vpick a n ∧ vpick a n < n := ⟨Int.emod_nonneg _ (by omega), Int.emod_lt_of_pos _ hn⟩

theorem pick_any (a n : Int) (hn : 0 < n ∧ n ≤ 1000000) (w : World) :
    Calls Try.prog 17 #[.int .i64 a, .int .i64 n] w fun e w' => e = .returned (.int .i64 (vpick a n)) ∧ w = w' := by
  have hb := hid (vpick_bd a n hn.1)
  have he : Hid (wrap64 ((IntKind.u64.wrap a).tmod n) = vpick a n) := by
    have e1 : IntKind.u64.wrap a = a % 18446744073709551616 := by rw [IntKind.wrap_u64]
    unfold Hid
    rw [e1, Int.tmod_eq_emod_of_nonneg (by omega)]
    have h1 := hb.out
    unfold vpick at *
    unfold wrap64
    omega
  go_enter Try.func17, Try.ntmps17
  go_wp2
  go_ret
  exact ⟨ret_int he.out, rfl⟩

end Go.Proofs.Ytlaeflpddehipaa
