/- ValueLaws, walked: both types. -/
import Derived.Test.YtlaeflpddehipaaLawVal2
import Derived.Test.YtlaeflpddehipaaLawVal3
import Derived.Test.YtlaeflpddehipaaLawVal4
set_option linter.unusedVariables false
namespace Go.Proofs.Ytlaeflpddehipaa
open Go.RowKit

theorem valueLaws_any (kind a b c : Int) (w : World) :
    Calls Try.prog 4 #[.int .i64 kind, .int .i64 a, .int .i64 b, .int .i64 c] w (Yes w) := by
  have hp := vpick_bd kind 2 (by omega)
  rcases (show vpick kind 2 = 0 ∨ vpick kind 2 = 1 by omega) with h | h
  · exact laws_bit kind a b c _ _ _ _ _ _ _ _ _ _ _ _ _ _ h (vcut_nb (.inl ⟨rfl, rfl⟩) a) (vcut_nb (.inl ⟨rfl, rfl⟩) b) (vcut_nb (.inl ⟨rfl, rfl⟩) c) (met (.inl ⟨rfl, rfl⟩) _ _ _) w
  · have hm := met fByte (BitVec.ofInt 8 a) (BitVec.ofInt 8 b) (BitVec.ofInt 8 c)
    have hb := metByte (BitVec.ofInt 8 a) (BitVec.ofInt 8 b) (BitVec.ofInt 8 c)
    have ha := vcut_nb fByte a
    have hbb := vcut_nb fByte b
    have hc := vcut_nb fByte c
    rcases hb.three with ⟨e1, e2, e3, e4⟩ | ⟨e1, e2, e3, e4⟩ | ⟨e1, e2, e3, e4⟩
    · rw [e2] at hm
      rw [e1, e2, e3, e4] at hb
      have e5 := hm.r12
      have e6 : b01 (nb (BitVec.ofInt 8 a) != nb (BitVec.ofInt 8 b)) = 1 := by omega
      rw [e6] at hm
      exact laws_byte0 kind a b c _ _ _ _ _ _ _ _ _ _ _ _ _ _ _ _ _ h ha hbb hc hm hb w
    · rw [e2] at hm
      rw [e1, e2, e3, e4] at hb
      have e5 := hm.r12
      have e6 : b01 (nb (BitVec.ofInt 8 a) != nb (BitVec.ofInt 8 b)) = 0 := by omega
      rw [e6] at hm
      exact laws_byte1 kind a b c _ _ _ _ _ _ _ _ _ _ _ _ _ _ _ _ _ h ha hbb hc hm hb w
    · rw [e2] at hm
      rw [e1, e2, e3, e4] at hb
      have e5 := hm.r12
      have e6 : b01 (nb (BitVec.ofInt 8 a) != nb (BitVec.ofInt 8 b)) = 1 := by omega
      rw [e6] at hm
      exact laws_byte2 kind a b c _ _ _ _ _ _ _ _ _ _ _ _ _ _ _ _ _ h ha hbb hc hm hb w
end Go.Proofs.Ytlaeflpddehipaa
