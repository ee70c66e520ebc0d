/- ValueReckons, walked. -/
import Derived.Test.YtlaeflpddehipaaRefTwo
set_option linter.unusedVariables false
namespace Go.Proofs.Ytlaeflpddehipaa
open Go.RowKit

theorem same_rows {w : World} {b1 b2 n : Nat} {v1 v2 : Value} {l : List Bool} (hn : l.length = n) (hm : n ≤ maxLen) (h1 : w.ownsRow b1 4 1 v1 n (l.map .bool)) (h2 : w.ownsRow b2 4 1 v2 n (l.map .bool)) :
    Calls Try.prog 44 #[v1, v2] w fun e w' => e = .returned (.bool true) ∧ Below w.heap.size w w' := by
  obtain ⟨a1, c1, rfl, hc1⟩ := row_bits hn h1
  obtain ⟨a2, c2, rfl, hc2⟩ := row_bits hn h2
  refine (sameBits_any w.heap.size a1 a2 n c1 n c2 l l w hn.symm hn.symm hm hc1 hc2).mono ?_
  rintro e w' h
  obtain ⟨rfl, hb⟩ := h.below
  exact ⟨by simp, hb⟩

section
variable (B : Nat) (op : ByteArray) (k o a b : Int) (al : Option Addr) (n c : Nat) (w : World)

theorem reckons_long (h : 20 < op.size ∨ 100 < n) :
    Calls Try.prog 10 #[.string op, .int .i64 k, .int .i64 o, .int .i64 a, .int .i64 b, .slice al n c] w (Yes w) := by
  by_cases h1 : 20 < op.size
  · have h1I : (20 : Int) < (op.size : Int) := by omega
    clear h
    go_enter Try.func10, Try.ntmps10
    go_wp2_with fail
    go_ret
    exact ⟨rfl, Below.refl _ _⟩
  · have h1I : decide ((20 : Int) < (op.size : Int)) = false := decide_eq_false (by omega)
    have h2I : (100 : Int) < (n : Int) := by omega
    clear h
    go_enter Try.func10, Try.ntmps10
    go_wp2_with fail
    go_ret
    exact ⟨rfl, Below.refl _ _⟩

set_option maxRecDepth 100000 in
set_option maxHeartbeats 1600000 in
theorem reckons_short (m : Int) (l : List Bool) (hn : n = l.length) (hmax : n ≤ 100) (hop : op.size ≤ 20) (hc : Cells B w al n (fun i => .bool (l.getD i false))) (hB : B ≤ w.heap.size) (ha : -9223372036854775808 ≤ a ∧ a ≤ 9223372036854775807) (hm : w.cell? ⟨0, 0, none⟩ = some (.int .i64 m)) :
    Calls Try.prog 10 #[.string op, .int .i64 k, .int .i64 o, .int .i64 a, .int .i64 b, .slice al n c] w (Yes w) := by
  have h1I : decide ((20 : Int) < (op.size : Int)) = false := decide_eq_false (by omega)
  have h2I : decide ((100 : Int) < (n : Int)) = false := decide_eq_false (by omega)
  have HN := hid hn
  have HM := hid hm
  have HC := hid hc
  obtain ⟨lb, hlb⟩ : ∃ lb, vbits k a = lb := ⟨_, rfl⟩
  have hl8 : lb.length ≤ maxLen := by
    rw [← hlb, vbits_len]
    have := vwidth_le k
    unfold maxLen
    omega
  have HLB := hid hlb
  have HL8 := hid hl8
  clear hn hm hc hlb hl8
  go_enter Try.func10, Try.ntmps10
  go_wp2_with (first
    | (go_at_call 41; (with_reducible refine (width_any _ _).mono ?_); rintro e w' ⟨rfl, rfl⟩)
    | (go_at_call 42; (with_reducible refine (rwidth_any _ _).mono ?_); rintro e w' ⟨rfl, rfl⟩)
    | (go_at_call 20; (with_reducible refine (cut_any _ _ _).mono ?_); rintro e w' ⟨rfl, rfl⟩)
    | (go_at_call 43; (with_reducible refine (rcut_any _ _ _).mono ?_); rintro e w' ⟨rfl, rfl⟩)
    | (go_at_call 24; (with_reducible refine (bits_any k a _).mono ?_); rintro e w1 ⟨v1, rfl, hown, hb1⟩; rw [HLB.out] at hown; have HO1 := hid hown; have HB1 := hid hb1; clear hown hb1)
    | (go_at_call 45; (with_reducible refine (rbits_any k a _).mono ?_); rintro e w2 ⟨v2, rfl, hown, hb2⟩; rw [HLB.out] at hown; have HO2 := hid hown; have HO12 := hid (ownsRow_below HO1.out hb2); have HB2 := hid (HB1.out.trans (hb2.mono HB1.out.size)); clear hown hb2)
    | (go_at_call 44; (with_reducible refine (same_rows rfl HL8.out HO12.out HO2.out).mono ?_); rintro e w3 ⟨rfl, hb3⟩; have HB3 := hid (HB2.out.trans (hb3.mono HB2.out.size)); have HC3 := hid (HC.out.stay (HB3.out.mono hB)); have HM3 := hid (glob_below HM.out HB3.out); clear hb3)
    | (go_at_call 23; (with_reducible refine (of_any B al n c l _ HN.out (by unfold maxLen; omega) HC3.out).mono ?_); rintro e w' ⟨rfl, rfl⟩)
    | (go_at_call 46; (with_reducible refine (rof_any B al n c l _ HN.out (by unfold maxLen; omega) HC3.out).mono ?_); rintro e w' ⟨rfl, rfl⟩)
    | (go_at_call 25; (with_reducible refine (result_any _ _ _ _).mono ?_); rintro e w' ⟨rfl, rfl⟩)
    | (go_at_call 47; (with_reducible refine (rresult_any op hop k o m _ HM3.out).mono ?_); rintro e w4 ⟨rfl, hb4⟩; have HB4 := hid (HB3.out.trans (hb4.mono HB3.out.size)); have HM4 := hid (glob_below HM3.out hb4); clear hb4)
    | (go_at_call 19; (with_reducible refine (two_any _ _ _ _ _).mono ?_); rintro e w' ⟨rfl, rfl⟩)
    | (go_at_call 48; (with_reducible refine (rtwo_any op hop k a b m _ HM4.out).mono ?_); rintro e w5 ⟨rfl, hb5⟩; have HB5 := hid (HB4.out.trans (hb5.mono HB4.out.size)); clear hb5)
    | (go_at_call 22; (with_reducible refine (not_any k a ha _).mono ?_); rintro e w' ⟨rfl, rfl⟩)
    | (go_at_call 49; (with_reducible refine (rturn_any k a _).mono ?_); rintro e w' ⟨rfl, rfl⟩))
  go_ret
  exact ⟨rfl, HB5.out⟩

theorem reckons_any (m : Int) (l : List Bool) (hn : n = l.length) (hc : Cells B w al n (fun i => .bool (l.getD i false))) (hB : B ≤ w.heap.size) (ha : -9223372036854775808 ≤ a ∧ a ≤ 9223372036854775807) (hm : w.cell? ⟨0, 0, none⟩ = some (.int .i64 m)) :
    Calls Try.prog 10 #[.string op, .int .i64 k, .int .i64 o, .int .i64 a, .int .i64 b, .slice al n c] w (Yes w) := by
  by_cases h : 20 < op.size ∨ 100 < n
  · exact reckons_long op k o a b al n c w h
  · exact reckons_short B op k o a b al n c w m l hn (by omega) (by omega) hc hB ha hm
end
end Go.Proofs.Ytlaeflpddehipaa
