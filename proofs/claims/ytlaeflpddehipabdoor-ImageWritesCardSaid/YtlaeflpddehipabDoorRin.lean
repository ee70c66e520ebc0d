/- The document's in. -/
import Derived.Test.YtlaeflpddehipabDoorBase
import Derived.Deep.DeepCutAuto
set_option linter.unusedVariables false
namespace Go.Proofs.YtlaeflpddehipabDoor
open Go.RowKit

theorem rin_at (x lo hi : Int) (r : Bool) (h : Hid (decide (lo ≤ x ∧ x ≤ hi) = r)) (w : World) : Calls Tryd.prog 69 #[.int .i64 x, .int .i64 lo, .int .i64 hi] w fun e w' => e = .returned (.bool r) ∧ w = w' := by
  by_cases h0 : lo ≤ x
  · by_cases h1 : x ≤ hi
    · have e : Hid (r = true) := by unfold Hid; rw [← h.out]; exact decide_eq_true ⟨h0, h1⟩
      clear h
      go_enter Tryd.func69, Tryd.ntmps69
      go_wp2
      go_ret
      exact ⟨ret_bool e.out.symm, rfl⟩
    · have e : Hid (r = false) := by unfold Hid; rw [← h.out]; exact decide_eq_false (fun h => h1 h.2)
      have d1 : decide (x ≤ hi) = false := decide_eq_false h1
      clear h
      go_enter Tryd.func69, Tryd.ntmps69
      go_wp2
      go_ret
      exact ⟨ret_bool e.out.symm, rfl⟩
  · have e : Hid (r = false) := by unfold Hid; rw [← h.out]; exact decide_eq_false (fun h => h0 h.1)
    have d1 : decide (lo ≤ x) = false := decide_eq_false h0
    clear h
    go_enter Tryd.func69, Tryd.ntmps69
    go_wp2
    go_ret
    exact ⟨ret_bool e.out.symm, rfl⟩
end Go.Proofs.YtlaeflpddehipabDoor
