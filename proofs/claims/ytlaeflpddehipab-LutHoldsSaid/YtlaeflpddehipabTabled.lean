/- keep.tabled: nets of tables few enough to be held. -/
import Derived.Test.YtlaeflpddehipabLnRight
set_option linter.unusedVariables false
namespace Go.Proofs.Ytlaeflpddehipab
open Go.RowKit

def LN.wide (L : LN) : Bool := (List.range L.luts.length).any fun i => decide (10 < (L.luts.getD i LT.zero).ins.length)
def LN.tabled (L : LN) : Bool := decide (L.regs.length ≤ 40) && decide (L.luts.length ≤ 60) && decide (L.outs.length ≤ 40) && decide (L.given ≤ 200) && !L.wide
theorem LN.tabled_parts {L : LN} (h : L.tabled = true) : L.regs.length ≤ 40 ∧ L.luts.length ≤ 60 ∧ L.outs.length ≤ 40 ∧ L.given ≤ 200 ∧ L.wide = false := by
  unfold LN.tabled at h
  simp only [Bool.and_eq_true, decide_eq_true_eq, Bool.not_eq_true'] at h
  exact ⟨h.1.1.1.1, h.1.1.1.2, h.1.1.2, h.1.2, h.2⟩

theorem enters51 : ∀ args w, (callFunc 13 args).run Try.prog w = .ok (.enter 13 args) w := enters_of Try.func13 (by kernel_rfl) rfl

theorem wide_one (a : Option Addr) (n c : Nat) (z : Int) (w : World) :
    Calls Try.prog 13 #[.agg #[.slice a n c, .int .i64 z]] w fun e w' => e = .returned (.bool (decide (10 < n))) ∧ Below w.heap.size w w' := by
  by_cases h : 10 < n
  · have h' : (10 : Int) < (n : Int) := by omega
    have E : Hid (decide (10 < n) = true) := decide_eq_true h
    go_enter Try.func13, Try.ntmps13
    go_wp2
    go_ret
    exact ⟨ret_bool E.out.symm, (Below.refl _ _).alloc (Nat.le_refl _) _⟩
  · have h' : decide ((10 : Int) < (n : Int)) = false := decide_eq_false (by omega)
    have E : Hid (decide (10 < n) = false) := decide_eq_false h
    go_enter Try.func13, Try.ntmps13
    go_wp2
    go_ret
    exact ⟨ret_bool E.out.symm, (Below.refl _ _).alloc (Nat.le_refl _) _⟩

theorem wide_any (B : Nat) (y : Lay) (L : LN) (w W : World) (h : LnRows B w y L) (hB : B ≤ w.heap.size) (hb : Below w.heap.size w W) :
    Calls Try.prog 12 #[.slice y.al L.luts.length y.cl, .func (.func 13) #[] #[]] W fun e w' => e = .returned (.bool L.wide) ∧ Below w.heap.size w w' := by
  refine (contains_lut B 13 #[] enters51 y.al L.luts.length y.cl (lutCell L.luts y.A y.C) (fun i => decide (10 < (L.luts.getD i LT.zero).ins.length)) W h.ll (h.rl.stay (hb.mono hB)) (Nat.le_trans hB hb.size) ?_).mono ?_
  · intro W' i hW' hi
    simp only [lutCell_0, lutCell_1]
    refine (wide_one _ _ _ _ W').mono ?_
    rintro e w' ⟨rfl, hb'⟩
    exact ⟨rfl, hW'.trans (hb'.mono hW'.size)⟩
  · rintro e w' ⟨rfl, hb'⟩
    exact ⟨rfl, hb.trans (hb'.mono hb.size)⟩

set_option maxHeartbeats 800000 in
theorem tabled_any (B : Nat) (y : Lay) (L : LN) (w : World) (h : LnRows B w y L) (hB : B ≤ w.heap.size) :
    Calls Try.prog 4 #[.agg #[.int .i64 L.given, .slice y.ar L.regs.length y.cr, .slice y.al L.luts.length y.cl, .slice y.ao L.outs.length y.co]] w (Tell L.tabled w) := by
  have HW := hid (fun W (hb : Below w.heap.size w W) => wide_any B y L w W h hB hb)
  have E : Hid (L.tabled = (decide (L.regs.length ≤ 40) && decide (L.luts.length ≤ 60) && decide (L.outs.length ≤ 40) && decide (L.given ≤ 200) && !L.wide)) := rfl
  clear h
  generalize L.tabled = r at E ⊢
  generalize L.wide = wd at *
  generalize L.given = g at *
  generalize L.regs.length = nr at *
  generalize L.luts.length = nl at *
  generalize L.outs.length = no at *
  by_cases h1 : 40 < nr
  · have h1' : (40 : Int) < (nr : Int) := by omega
    have F : Hid (r = false) := by unfold Hid; rw [E.out]; simp; omega
    go_enter Try.func4, Try.ntmps4
    go_wp2
    go_ret
    exact ⟨ret_bool F.out.symm, (Below.refl _ _).alloc (Nat.le_refl _) _⟩
  · have h1' : decide ((40 : Int) < (nr : Int)) = false := decide_eq_false (by omega)
    by_cases h2 : 60 < nl
    · have h2' : (60 : Int) < (nl : Int) := by omega
      have F : Hid (r = false) := by unfold Hid; rw [E.out]; simp; omega
      go_enter Try.func4, Try.ntmps4
      go_wp2
      go_ret
      exact ⟨ret_bool F.out.symm, (Below.refl _ _).alloc (Nat.le_refl _) _⟩
    · have h2' : decide ((60 : Int) < (nl : Int)) = false := decide_eq_false (by omega)
      by_cases h3 : 40 < no
      · have h3' : (40 : Int) < (no : Int) := by omega
        have F : Hid (r = false) := by unfold Hid; rw [E.out]; simp; omega
        go_enter Try.func4, Try.ntmps4
        go_wp2
        go_ret
        exact ⟨ret_bool F.out.symm, (Below.refl _ _).alloc (Nat.le_refl _) _⟩
      · have h3' : decide ((40 : Int) < (no : Int)) = false := decide_eq_false (by omega)
        by_cases h4 : 200 < g
        · have F : Hid (r = false) := by unfold Hid; rw [E.out]; simp; omega
          go_enter Try.func4, Try.ntmps4
          go_wp2
          go_ret
          exact ⟨ret_bool F.out.symm, (Below.refl _ _).alloc (Nat.le_refl _) _⟩
        · have h4' : decide (200 < g) = false := decide_eq_false h4
          have F : Hid (r = !wd) := by
            unfold Hid; rw [E.out]
            have e1 : decide (nr ≤ 40) = true := decide_eq_true (by omega)
            have e2 : decide (nl ≤ 60) = true := decide_eq_true (by omega)
            have e3 : decide (no ≤ 40) = true := decide_eq_true (by omega)
            have e4 : decide (g ≤ 200) = true := decide_eq_true (by omega)
            rw [e1, e2, e3, e4]; rfl
          go_enter Try.func4, Try.ntmps4
          go_wp2_with (go_at_call 12; (with_reducible refine (HW.out _ ((Below.refl _ _).alloc (Nat.le_refl _) _)).mono ?_); rintro e w1 ⟨rfl, hbel⟩; have HB := hid hbel; clear hbel)
          go_ret
          exact ⟨ret_bool F.out.symm, HB.out⟩
end Go.Proofs.Ytlaeflpddehipab
