/- lut.Net.Right's closures: what is no signal. -/
import Derived.Test.YtlaeflpddehipabLn
set_option linter.unusedVariables false
namespace Go.Proofs.Ytlaeflpddehipab
open Go.RowKit

theorem bad_any (B b B1 : Nat) (y : Lay) (L : LN) (w : World) (h : LnIn B w b y L) (hs : L.sizes = true) (h1 : w.cell? ⟨B1, 0, none⟩ = some (.pointer (some ⟨b, 0, none⟩))) (k : Int) :
    Calls Try.prog 15 #[.int .i64 k, .pointer (some ⟨B1, 0, none⟩)] w fun e w' => e = .returned (.bool (badB L.signals k)) ∧ Below w.heap.size w w' := by
  have HC := hid (signals_any B b y L w h hs)
  have E : Hid (badB L.signals k = (decide (k < 0) || decide (L.signals ≤ k))) := rfl
  clear h hs
  generalize L.signals = s at HC E
  generalize badB s k = r at E ⊢
  by_cases h0 : k < 0
  · have F : Hid (r = true) := by unfold Hid; rw [E.out]; simp [h0]
    go_enter Try.func15, Try.ntmps15
    go_wp2
    go_ret
    exact ⟨ret_bool F.out.symm, Below.refl _ _⟩
  · have F : Hid (r = decide (s ≤ k)) := by unfold Hid; rw [E.out]; simp [h0]
    have h0' : decide (k < 0) = false := decide_eq_false h0
    go_enter Try.func15, Try.ntmps15
    go_wp2_with (go_at_call 16; (with_reducible refine HC.out.mono ?_); rintro e w' ⟨rfl, q, rfl⟩)
    go_ret
    exact ⟨ret_bool F.out.symm, below_drewN (Below.refl _ _) q⟩

set_option maxHeartbeats 400000 in
theorem ahead_bad (B b B1 B2 : Nat) (y : Lay) (L : LN) (w : World) (h : LnIn B w b y L) (hs : L.sizes = true) (h1 : w.cell? ⟨B1, 0, none⟩ = some (.pointer (some ⟨b, 0, none⟩))) (i : Nat) (hi : i ≤ 20000) (h2 : w.cell? ⟨B2, 0, none⟩ = some (.int .i64 i)) (k : Int) :
    Calls Try.prog 18 #[.int .i64 k, .pointer (some ⟨B1, 0, none⟩), .pointer (some ⟨B2, 0, none⟩)] w fun e w' => e = .returned (.bool (badB (L.given + L.regs.length + i) k)) ∧ Below w.heap.size w w' := by
  have hz := LN.sizes_of hs
  have E : Hid (badB (L.given + L.regs.length + i) k = (decide (k < 0) || decide (L.given + L.regs.length + i ≤ k))) := rfl
  have c0 := h.g
  have c1 := h.regs
  clear h hs
  generalize L.given = g at *
  generalize L.regs.length = m at *
  obtain ⟨hz0, hz1, hz2, hz3, hz4⟩ := hz
  generalize badB (g + m + i) k = r at E ⊢
  have w1 : IntKind.i64.wrap (g + (m : Int)) = g + m := wrap_fit _ (by omega) (by omega)
  have w2 : IntKind.i64.wrap (g + (m : Int) + (i : Int)) = g + m + i := wrap_fit _ (by omega) (by omega)
  by_cases h0 : k < 0
  · have F : Hid (r = true) := by unfold Hid; rw [E.out]; simp [h0]
    go_enter Try.func18, Try.ntmps18
    go_wp2
    go_quiet (fail)
    go_wp2
    go_ret
    exact ⟨ret_bool F.out.symm, below_drewN (Below.refl _ _) _⟩
  · have F : Hid (r = decide (g + m + i ≤ k)) := by unfold Hid; rw [E.out]; simp [h0]
    have h0' : decide (k < 0) = false := decide_eq_false h0
    go_enter Try.func18, Try.ntmps18
    go_wp2
    go_quiet (fail)
    go_wp2
    go_ret
    exact ⟨ret_bool F.out.symm, below_drewN (Below.refl _ _) _⟩

theorem reg_bad (B b B1 B3 : Nat) (y : Lay) (L : LN) (w : World) (h : LnIn B w b y L) (hBw : B ≤ w.heap.size) (hs : L.sizes = true) (h1 : w.cell? ⟨B1, 0, none⟩ = some (.pointer (some ⟨b, 0, none⟩))) (h3 : w.cell? ⟨B3, 0, none⟩ = some (.func (.func 15) #[] #[.pointer (some ⟨B1, 0, none⟩)])) (hB1 : B1 < w.heap.size) (hB3 : B3 < w.heap.size) (x : LR) :
    Calls Try.prog 20 #[.agg #[.bool x.init, .int .i64 x.next], .pointer (some ⟨B3, 0, none⟩)] w fun e w' => e = .returned (.bool (badB L.signals x.next)) ∧ Below w.heap.size w w' := by
  obtain ⟨xi, k⟩ := x
  have hb1 := (Below.refl w.heap.size w).alloc (Nat.le_refl _) (.cells #[.bool xi, .int .i64 k] 58)
  have HC := hid (bad_any B b B1 y L _ (h.stay (hb1.mono hBw)) hs ((hb1.cell (p := ⟨B1, 0, none⟩) hB1).trans h1) k)
  have hB3' : B3 < w.heap.size + 1 := by omega
  clear h hs hb1 h1
  simp only
  go_enter Try.func20, Try.ntmps20
  go_wp2_with (go_at_call 15; (with_reducible refine HC.out.mono ?_); rintro e w' ⟨rfl, hb⟩)
  go_ret
  exact ⟨rfl, ((Below.refl _ _).alloc (Nat.le_refl _) _).trans (hb.mono (by simp))⟩
end Go.Proofs.Ytlaeflpddehipab
