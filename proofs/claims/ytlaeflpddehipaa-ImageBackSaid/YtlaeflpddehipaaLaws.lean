/- The plain laws of bits and bytes: what 'ValueLaws' asks of the numbers that 'Two' and 'Not' compute. -/
import Derived.Test.YtlaeflpddehipaaTwo
set_option linter.unusedVariables false
namespace Go.Proofs.Ytlaeflpddehipaa
open Go.RowKit

/-- A number of a type (1: a bit, 2: a byte) as a row of bits. -/
def Fits (k : Int) (d : Nat) : Prop := (k = 1 ∧ d = 1) ∨ (k = 2 ∧ d = 8)
def nb {d : Nat} (x : BitVec d) : Int := (x.toNat : Int)

theorem nb_bd {k : Int} {d : Nat} (h : Fits k d) (x : BitVec d) : 0 ≤ nb x ∧ nb x ≤ 255 := by
  have := x.isLt
  rcases h with ⟨_, rfl⟩ | ⟨_, rfl⟩ <;> unfold nb <;> omega

theorem nb_lt {d : Nat} (x : BitVec d) : (x.toNat : Int) < 2 ^ d := by have := x.isLt; exact_mod_cast this

theorem vcut_nb {k : Int} {d : Nat} (h : Fits k d) (n : Int) : vcut k n = nb (BitVec.ofInt d n) := by
  rcases h with ⟨rfl, rfl⟩ | ⟨rfl, rfl⟩
  · show n % 2 ^ 1 = _
    rw [nb, BitVec.toNat_ofInt]; omega
  · show n % 2 ^ 8 = _
    rw [nb, BitVec.toNat_ofInt]; omega

theorem ofInt_nb {d : Nat} (x : BitVec d) : BitVec.ofInt d (nb x) = x := by
  unfold nb
  rw [BitVec.ofInt_natCast]
  simp

theorem vcut_self {k : Int} {d : Nat} (h : Fits k d) (x : BitVec d) : vcut k (nb x) = nb x := by
  rw [vcut_nb h, ofInt_nb]

theorem vnot_nb {k : Int} {d : Nat} (h : Fits k d) (x : BitVec d) : vnot k (nb x) = nb (~~~ x) := by
  have hx := x.isLt
  unfold vnot nb
  rw [BitVec.toNat_not]
  rcases h with ⟨rfl, rfl⟩ | ⟨rfl, rfl⟩
  · show _ % 2 ^ 1 = _
    omega
  · show _ % 2 ^ 8 = _
    omega

theorem ofInt_64 {k : Int} {d : Nat} (h : Fits k d) (x : BitVec d) : (BitVec.ofInt 64 (nb x)).toNat = x.toNat := by
  have := nb_bd h x
  have hx := x.isLt
  rw [ofInt_toNat]
  unfold nb at *
  omega

theorem small_lt {k : Int} {d : Nat} (h : Fits k d) (x : BitVec d) : x.toNat < 9223372036854775808 := by
  have hx := x.isLt
  rcases h with ⟨_, rfl⟩ | ⟨_, rfl⟩ <;> omega

theorem and_nb {k : Int} {d : Nat} (h : Fits k d) (x y : BitVec d) : bits .and .i64 (nb x) (nb y) = nb (x &&& y) := by
  rw [and_def, BitVec.toNat_and, ofInt_64 h, ofInt_64 h, ← BitVec.toNat_and, wrap_nat _ (small_lt h _)]
  rfl
theorem or_nb {k : Int} {d : Nat} (h : Fits k d) (x y : BitVec d) : bits .or .i64 (nb x) (nb y) = nb (x ||| y) := by
  rw [or_def, BitVec.toNat_or, ofInt_64 h, ofInt_64 h, ← BitVec.toNat_or, wrap_nat _ (small_lt h _)]
  rfl
theorem xor_nb {k : Int} {d : Nat} (h : Fits k d) (x y : BitVec d) : bits .xor .i64 (nb x) (nb y) = nb (x ^^^ y) := by
  rw [xor_def, BitVec.toNat_xor, ofInt_64 h, ofInt_64 h, ← BitVec.toNat_xor, wrap_nat _ (small_lt h _)]
  rfl

theorem res_ne {k : Int} {d : Nat} (h : Fits k d) (o : Nat) (ho : 0 < o ∧ o ≤ 5) : ¬ resultOf o k k = 0 := by
  unfold resultOf vwidth
  rcases h with ⟨rfl, rfl⟩ | ⟨rfl, rfl⟩ <;> simp <;> split <;> (try split) <;> (try split) <;> omega

theorem twoOf_pos (o : Nat) (k a b : Int) (h : ¬ resultOf o k k = 0) : twoOf o k a b = twoBody o k a b := if_neg h

section
variable {k : Int} {d : Nat} (h : Fits k d) (x y : BitVec d)
include h
theorem t_and : vtwo ⟨#[97, 110, 100]⟩ k (nb x) (nb y) = nb (x &&& y) := by
  unfold vtwo
  rw [opOf_and, twoOf_pos _ _ _ _ (res_ne h 1 (by omega))]
  show bits .and .i64 _ _ = _
  rw [vcut_self h, vcut_self h, and_nb h]
theorem t_or : vtwo ⟨#[111, 114]⟩ k (nb x) (nb y) = nb (x ||| y) := by
  unfold vtwo
  rw [opOf_or, twoOf_pos _ _ _ _ (res_ne h 2 (by omega))]
  show bits .or .i64 _ _ = _
  rw [vcut_self h, vcut_self h, or_nb h]
theorem t_xor : vtwo ⟨#[120, 111, 114]⟩ k (nb x) (nb y) = nb (x ^^^ y) := by
  unfold vtwo
  rw [opOf_xor, twoOf_pos _ _ _ _ (res_ne h 3 (by omega))]
  show bits .xor .i64 _ _ = _
  rw [vcut_self h, vcut_self h, xor_nb h]
theorem t_eq : vtwo ⟨#[61]⟩ k (nb x) (nb y) = b01 (nb x == nb y) := by
  unfold vtwo
  rw [opOf_eq, twoOf_pos _ _ _ _ (res_ne h 4 (by omega))]
  show b01 _ = _
  rw [vcut_self h, vcut_self h]
theorem t_ne : vtwo ⟨#[60, 62]⟩ k (nb x) (nb y) = b01 (nb x != nb y) := by
  unfold vtwo
  rw [opOf_ne, twoOf_pos _ _ _ _ (res_ne h 5 (by omega))]
  show b01 _ = _
  rw [vcut_self h, vcut_self h]
end

theorem res_byte (o : Nat) (ho : 0 < o) : ¬ resultOf o 2 2 = 0 := by
  unfold resultOf vwidth
  simp
  split <;> (try split) <;> (try split) <;> omega
theorem fByte : Fits 2 8 := .inr ⟨rfl, rfl⟩
section
variable (x y : BitVec 8)
theorem t_lt : vtwo ⟨#[60]⟩ 2 (nb x) (nb y) = b01 (decide (nb x < nb y)) := by
  unfold vtwo
  rw [opOf_lt, twoOf_pos _ _ _ _ (res_byte 6 (by omega))]
  show b01 _ = _
  rw [vcut_self fByte, vcut_self fByte]
theorem t_le : vtwo ⟨#[60, 61]⟩ 2 (nb x) (nb y) = b01 (decide (nb x ≤ nb y)) := by
  unfold vtwo
  rw [opOf_le, twoOf_pos _ _ _ _ (res_byte 7 (by omega))]
  show b01 _ = _
  rw [vcut_self fByte, vcut_self fByte]
theorem t_gt : vtwo ⟨#[62]⟩ 2 (nb x) (nb y) = b01 (decide (nb y < nb x)) := by
  unfold vtwo
  rw [opOf_gt, twoOf_pos _ _ _ _ (res_byte 8 (by omega))]
  show b01 _ = _
  rw [vcut_self fByte, vcut_self fByte]
theorem t_ge : vtwo ⟨#[62, 61]⟩ 2 (nb x) (nb y) = b01 (decide (nb y ≤ nb x)) := by
  unfold vtwo
  rw [opOf_ge, twoOf_pos _ _ _ _ (res_byte 9 (by omega))]
  show b01 _ = _
  rw [vcut_self fByte, vcut_self fByte]
theorem t_plus : vtwo ⟨#[43]⟩ 2 (nb x) (nb y) = nb (x + y) := by
  unfold vtwo
  rw [opOf_plus, twoOf_pos _ _ _ _ (res_byte 10 (by omega))]
  show vcut _ (_ + _) = _
  rw [vcut_self fByte, vcut_self fByte, vcut_nb fByte, BitVec.ofInt_add, ofInt_nb, ofInt_nb]
theorem t_minus : vtwo ⟨#[45]⟩ 2 (nb x) (nb y) = nb (x - y) := by
  unfold vtwo
  rw [opOf_minus, twoOf_pos _ _ _ _ (res_byte 11 (by omega))]
  show vcut _ (_ - _) = _
  rw [vcut_self fByte, vcut_self fByte, vcut_nb fByte, Int.sub_eq_add_neg, BitVec.ofInt_add, BitVec.ofInt_neg, ofInt_nb, ofInt_nb, BitVec.sub_eq_add_neg]
end
theorem t_plus_bit (a b : Int) : vtwo ⟨#[43]⟩ 1 a b = 0 := by
  unfold vtwo
  rw [opOf_plus]
  rfl
theorem r_lt_bit : vresult ⟨#[60]⟩ 1 1 = 0 := by
  unfold vresult
  rw [opOf_lt]
  rfl

theorem bits_back {k : Int} {d : Nat} (h : Fits k d) (x : BitVec d) : vof (vbits k (nb x)) = nb x := by
  have key1 : ∀ n : Fin 2, vof (vbits 1 ((n.val : Nat) : Int)) = n.val := by decide +kernel
  have key8 : ∀ n : Fin 256, vof (vbits 2 ((n.val : Nat) : Int)) = n.val := by decide +kernel
  have hx := x.isLt
  rcases h with ⟨rfl, rfl⟩ | ⟨rfl, rfl⟩
  · exact key1 ⟨x.toNat, hx⟩
  · exact key8 ⟨x.toNat, hx⟩

theorem bv_demorgan {d : Nat} (x y : BitVec d) : ~~~ (x &&& y) = ~~~ x ||| ~~~ y := by ext i; simp
theorem bv_distrib {d : Nat} (x y z : BitVec d) : x &&& (y ||| z) = (x &&& y) ||| (x &&& z) := by ext i; simp [Bool.and_or_distrib_left]
theorem bv_xor {d : Nat} (x y : BitVec d) : (x ||| y) &&& ~~~ (x &&& y) = x ^^^ y := by
  ext i hi
  simp
  cases x[i] <;> cases y[i] <;> rfl

/-- What 'ValueLaws' asks of both types: the numbers that it meets on its way. -/
structure Met (k A B C n1 n3 r1 r2 r3 r4 r5 r6 r7 r8 r9 : Int) : Prop where
  bA : 0 ≤ A ∧ A ≤ 255
  bB : 0 ≤ B ∧ B ≤ 255
  bC : 0 ≤ C ∧ C ≤ 255
  bn1 : 0 ≤ n1 ∧ n1 ≤ 255
  bn3 : 0 ≤ n3 ∧ n3 ≤ 255
  b4 : 0 ≤ r4 ∧ r4 ≤ 255
  e0 : Hid (vof (vbits k A) = A)
  e1 : Hid (vnot k A = n1)
  e2 : Hid (vnot k n1 = A)
  e3 : Hid (vtwo ⟨#[61]⟩ k A B = r1)
  e4 : Hid (vtwo ⟨#[60, 62]⟩ k A B = r2)
  r12 : (r1 = 0 ∧ r2 = 1) ∨ (r1 = 1 ∧ r2 = 0)
  e5 : Hid (vtwo ⟨#[120, 111, 114]⟩ k A B = r3)
  e6 : Hid (vtwo ⟨#[120, 111, 114]⟩ k r3 B = A)
  e7 : Hid (vtwo ⟨#[97, 110, 100]⟩ k A B = r4)
  e8 : Hid (vnot k r4 = r5)
  e9 : Hid (vnot k B = n3)
  e10 : Hid (vtwo ⟨#[111, 114]⟩ k n1 n3 = r5)
  e11 : Hid (vtwo ⟨#[111, 114]⟩ k B C = r6)
  e12 : Hid (vtwo ⟨#[97, 110, 100]⟩ k A r6 = r7)
  e13 : Hid (vtwo ⟨#[97, 110, 100]⟩ k A C = r8)
  e14 : Hid (vtwo ⟨#[111, 114]⟩ k r4 r8 = r7)
  e15 : Hid (vtwo ⟨#[111, 114]⟩ k A B = r9)
  e16 : Hid (vtwo ⟨#[97, 110, 100]⟩ k r9 r5 = r3)

theorem met {k : Int} {d : Nat} (h : Fits k d) (x y z : BitVec d) :
    Met k (nb x) (nb y) (nb z) (nb (~~~ x)) (nb (~~~ y)) (b01 (nb x == nb y)) (b01 (nb x != nb y)) (nb (x ^^^ y)) (nb (x &&& y)) (nb (~~~ x ||| ~~~ y)) (nb (y ||| z)) (nb (x &&& (y ||| z))) (nb (x &&& z)) (nb (x ||| y)) where
  bA := nb_bd h _
  bB := nb_bd h _
  bC := nb_bd h _
  bn1 := nb_bd h _
  bn3 := nb_bd h _
  b4 := nb_bd h _
  e0 := bits_back h x
  e1 := vnot_nb h x
  e2 := (vnot_nb h _).trans (by rw [BitVec.not_not])
  e3 := t_eq h x y
  e4 := t_ne h x y
  r12 := by
    by_cases e : nb x = nb y
    · right; simp [b01, e]
    · left; simp [b01, e]
  e5 := t_xor h x y
  e6 := (t_xor h _ y).trans (by rw [BitVec.xor_assoc, BitVec.xor_self, BitVec.xor_zero])
  e7 := t_and h x y
  e8 := (vnot_nb h _).trans (by rw [bv_demorgan])
  e9 := vnot_nb h y
  e10 := t_or h _ _
  e11 := t_or h y z
  e12 := t_and h x _
  e13 := t_and h x z
  e14 := (t_or h _ _).trans (by rw [bv_distrib])
  e15 := t_or h x y
  e16 := (t_and h _ _).trans (by rw [← bv_demorgan, bv_xor])

/-- What it asks of bytes besides. -/
structure MetByte (A B C n1 r1 s1 l1 g1 t1 q s2 s3 m : Int) : Prop where
  f1 : Hid (vtwo ⟨#[43]⟩ 2 A B = s1)
  f2 : Hid (vtwo ⟨#[45]⟩ 2 s1 B = A)
  f3 : Hid (vtwo ⟨#[60]⟩ 2 A B = l1)
  f4 : Hid (vtwo ⟨#[62]⟩ 2 A B = g1)
  f5 : Hid (vtwo ⟨#[60, 61]⟩ 2 A B = t1)
  f6 : Hid (vtwo ⟨#[62, 61]⟩ 2 A B = q)
  f7 : Hid (vtwo ⟨#[60, 61]⟩ 2 B A = q)
  f8 : Hid (vtwo ⟨#[43]⟩ 2 s1 C = s2)
  f9 : Hid (vtwo ⟨#[43]⟩ 2 B C = s3)
  f10 : Hid (vtwo ⟨#[43]⟩ 2 A s3 = s2)
  f11 : Hid (vtwo ⟨#[45]⟩ 2 0 A = m)
  f12 : Hid (vtwo ⟨#[43]⟩ 2 n1 1 = m)
  three : (l1 = 1 ∧ r1 = 0 ∧ g1 = 0 ∧ t1 = 1) ∨ (l1 = 0 ∧ r1 = 1 ∧ g1 = 0 ∧ t1 = 1) ∨ (l1 = 0 ∧ r1 = 0 ∧ g1 = 1 ∧ t1 = 0)

theorem metByte (x y z : BitVec 8) :
    MetByte (nb x) (nb y) (nb z) (nb (~~~ x)) (b01 (nb x == nb y)) (nb (x + y)) (b01 (decide (nb x < nb y))) (b01 (decide (nb y < nb x))) (b01 (decide (nb x ≤ nb y))) (b01 (decide (nb y ≤ nb x))) (nb (x + y + z)) (nb (y + z)) (nb (-x)) where
  f1 := t_plus x y
  f2 := (t_minus _ y).trans (by rw [BitVec.add_sub_cancel])
  f3 := t_lt x y
  f4 := t_gt x y
  f5 := t_le x y
  f6 := t_ge x y
  f7 := t_le y x
  f8 := t_plus _ z
  f9 := t_plus y z
  f10 := (t_plus x _).trans (by rw [BitVec.add_assoc])
  f11 := (t_minus (0#8) x).trans (by rw [BitVec.zero_sub])
  f12 := (t_plus (~~~ x) (1#8)).trans (by rw [BitVec.neg_eq_not_add])
  three := by
    rcases Int.lt_trichotomy (nb x) (nb y) with e | e | e
    · left; simp [b01, e]; omega
    · right; left; simp [b01, e]
    · right; right; simp [b01, e]; omega
end Go.Proofs.Ytlaeflpddehipaa
