/- repeat: a text so many times. -/
import Derived.Test.YtlaeflpddehipabGreatDoorRfText
set_option linter.unusedVariables false
set_option linter.unusedSimpArgs false
namespace Go.Proofs.YtlaeflpddehipabGreatDoor
open Go.RowKit
attribute [local go_sem ↓] Go.wp_at_zero Go.wp_at_succ

def repB (s : Bs) : Nat → Bs
  | 0 => []
  | n + 1 => repB s n ++ s
theorem repB_len (s : Bs) : ∀ n, (repB s n).length = n * s.length
  | 0 => by simp [repB]
  | n + 1 => by rw [repB, List.length_append, repB_len s n, Nat.succ_mul]
theorem repeat_any (s : Bs) (hs : s.length ≤ 10) (n : Nat) (hn : n ≤ 40) (w : World) : Calls Tryz.prog 4 #[st s, .int .i64 (n : Int)] w fun e w' => e = .returned (st (repB s n)) ∧ w' = w := by
  go_enter Tryz.func4, Tryz.ntmps4
  go_upto_region 3 with fail
  go_loopw [5, 6] (fun o u wr => ∃ k : Nat, u = .int .i64 (k : Int) ∧ k ≤ n ∧ o = st (repB s k) ∧ wr = w) (fun _ u _ => n - (intOf u).toNat)
  case atStart => exact ⟨0, rfl, Nat.zero_le _, rfl, rfl⟩
  case round =>
    obtain ⟨k, rfl, hk, rfl, hwr⟩ := hrel
    subst wr
    have hl := repB_len s k
    have hl2 : k * s.length ≤ 40 * 10 := Nat.mul_le_mul (by omega) hs
    obtain ⟨S, hS⟩ : ∃ S, repB s k = S := ⟨_, rfl⟩
    have HS := hid hS
    rw [hS] at hl ⊢
    have hSl : S.length ≤ 400 := by omega
    clear hl hl2 hS
    by_cases h : k < n
    · have hkI : (k : Int) < (n : Int) := by omega
      have hq : ¬ 9223372036854775807 < S.length + s.length := by omega
      have hqs := st_size S
      have hqs2 := st_size s
      obtain ⟨y, hy⟩ : ∃ y, S ++ s = y := ⟨_, rfl⟩
      have e1 : (⟨S.toArray⟩ : ByteArray) ++ ⟨s.toArray⟩ = ⟨y.toArray⟩ := by rw [str_app, hy]
      have HY := hid (show repB s (k + 1) = y by rw [repB, HS.out, hy])
      have HK := hid (show k + 1 ≤ n from h)
      clear hy
      go_wp2_with fail
      go_roundw
      case rel => exact ⟨k + 1, by go_num, HK.out, by rw [HY.out], trivial⟩
      case measure => simp [intOf]; omega
    · have hkI : ¬ (k : Int) < (n : Int) := by omega
      have HE := hid (show repB s n = S by rw [show n = k by omega]; exact HS.out)
      go_wp2_with fail
      go_ret
      exact ⟨by rw [HE.out]; rfl, rfl⟩
end Go.Proofs.YtlaeflpddehipabGreatDoor
