/- Numbers and their bits: what and, or, xor of 64-bit numbers come to. -/
import Derived.Test.YtlaeflpddehipabBase
set_option linter.unusedVariables false
namespace Go.Proofs.Ytlaeflpddehipab
open Go.RowKit

theorem and_def (x y : Int) : bits .and .i64 x y = IntKind.i64.wrap (((BitVec.ofInt 64 x) &&& (BitVec.ofInt 64 y)).toNat : Int) := rfl
theorem or_def (x y : Int) : bits .or .i64 x y = IntKind.i64.wrap (((BitVec.ofInt 64 x) ||| (BitVec.ofInt 64 y)).toNat : Int) := rfl
theorem xor_def (x y : Int) : bits .xor .i64 x y = IntKind.i64.wrap (((BitVec.ofInt 64 x) ^^^ (BitVec.ofInt 64 y)).toNat : Int) := rfl

theorem wrap_of (x : Nat) (h : x < 18446744073709551616) : IntKind.i64.wrap (x : Int) = if x < 9223372036854775808 then (x : Int) else (x : Int) - 18446744073709551616 := by
  rw [IntKind.wrap_i64]
  split <;> omega

theorem wrap_nat (x : Nat) (h : x < 9223372036854775808) : IntKind.i64.wrap (x : Int) = x := by
  rw [wrap_of x (by omega), if_pos h]

theorem ofInt_toNat (n : Int) : (BitVec.ofInt 64 n).toNat = (n % 18446744073709551616).toNat := by
  rw [BitVec.toNat_ofInt]; rfl

/-- The last m bits of a number. -/
theorem and_mask (n : Int) (m : Nat) (hm : m ≤ 62) : bits .and .i64 n (2 ^ m - 1) = n % 2 ^ m := by
  have hp : (2 : Nat) ^ m ≤ 2 ^ 62 := Nat.pow_le_pow_right (by omega) hm
  have hpos : 0 < (2 : Nat) ^ m := Nat.pow_pos (by omega)
  have hb : (BitVec.ofInt 64 ((2 : Int) ^ m - 1)).toNat = 2 ^ m - 1 := by
    rw [ofInt_toNat]
    have e : ((2 : Int) ^ m) = ((2 ^ m : Nat) : Int) := by simp
    rw [e]
    omega
  rw [and_def, BitVec.toNat_and, hb, ofInt_toNat, Nat.and_two_pow_sub_one_eq_mod]
  have h1 : (n % 18446744073709551616).toNat % 2 ^ m < 2 ^ m := Nat.mod_lt _ hpos
  rw [wrap_nat _ (by omega)]
  have h2 : ((n % 18446744073709551616).toNat : Int) = n % 18446744073709551616 := by omega
  rw [Int.natCast_emod, h2]
  have e : ((2 ^ m : Nat) : Int) = (2 : Int) ^ m := by simp
  rw [e]
  apply Int.emod_emod_of_dvd
  refine ⟨2 ^ (64 - m), ?_⟩
  rw [← Int.pow_add, show m + (64 - m) = 64 from by omega]
  rfl

/-- Each bit the other one. -/
theorem xor_ones (n : Int) (h : -9223372036854775808 ≤ n ∧ n ≤ 9223372036854775807) : bits .xor .i64 (-1) n = -n - 1 := by
  have e1 : BitVec.ofInt 64 (-1) = BitVec.allOnes 64 := by decide
  rw [xor_def, e1, BitVec.allOnes_xor, BitVec.toNat_not, ofInt_toNat]
  rw [wrap_of _ (by omega)]
  split <;> omega

/-- A bit more. -/
theorem or_bit (x : Nat) (m : Nat) (hm : m ≤ 62) (hx : x < 2 ^ m) : bits .or .i64 (x : Int) (2 ^ m) = x + 2 ^ m := by
  have hp : (2 : Nat) ^ m ≤ 2 ^ 62 := Nat.pow_le_pow_right (by omega) hm
  have e : ((2 : Int) ^ m) = ((2 ^ m : Nat) : Int) := by simp
  have hb : (BitVec.ofInt 64 ((2 : Int) ^ m)).toNat = 2 ^ m := by
    rw [ofInt_toNat, e]; omega
  have ha : (BitVec.ofInt 64 (x : Int)).toNat = x := by
    rw [ofInt_toNat]; omega
  rw [or_def, BitVec.toNat_or, ha, hb]
  have h2 : x ||| 2 ^ m = x + 2 ^ m := by
    have h := Nat.two_pow_add_eq_or_of_lt hx 1
    rw [Nat.mul_one] at h
    rw [Nat.or_comm, ← h]; omega
  rw [h2, wrap_nat _ (by omega)]
  simp
end Go.Proofs.Ytlaeflpddehipab
