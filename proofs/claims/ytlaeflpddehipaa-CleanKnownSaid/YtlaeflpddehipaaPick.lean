/- keep.pick. -/
import Derived.Test.YtlaeflpddehipaaBase
set_option linter.unusedVariables false
namespace Go.Proofs.Ytlaeflpddehipaa
open Go.RowKit

def vpick (a n : Int) : Int := (a % 18446744073709551616) % n
theorem vpick_bd (a n : Int) (hn : 0 < n) : 0 ≤ vpick a n ∧ vpick a n < n := ⟨Int.emod_nonneg _ (by omega), Int.emod_lt_of_pos _ hn⟩

theorem pick_any (a n : Int) (hn : 0 < n ∧ n ≤ 1000000) (w : World) :
    Calls Try.prog 17 #[.int .i64 a, .int .i64 n] w fun e w' => e = .returned (.int .i64 (vpick a n)) ∧ w = w' := by
  have hb := hid (vpick_bd a n hn.1)
  have he : Hid (wrap64 ((IntKind.u64.wrap a).tmod n) = vpick a n) := by
    have e1 : IntKind.u64.wrap a = a % 18446744073709551616 := by rw [IntKind.wrap_u64]
    unfold Hid
    rw [e1, Int.tmod_eq_emod_of_nonneg (by omega)]
    have h1 := hb.out
    unfold vpick at *
    unfold wrap64
    omega
  go_enter Try.func17, Try.ntmps17
  go_wp2
  go_ret
  exact ⟨ret_int he.out, rfl⟩
end Go.Proofs.Ytlaeflpddehipaa
