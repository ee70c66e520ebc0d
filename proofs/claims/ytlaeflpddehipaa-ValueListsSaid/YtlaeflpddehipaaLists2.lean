/- ValueLists: the plain facts on eight bits. -/
import Derived.Test.YtlaeflpddehipaaLists
set_option linter.unusedVariables false
namespace Go.Proofs.Ytlaeflpddehipaa
open Go.RowKit

/-- The first eight of some bits. -/
def first8 (l : List Bool) : List Bool := (List.range 8).map fun i => l.getD i false
theorem first8_len (l : List Bool) : (first8 l).length = 8 := by simp [first8]
theorem first8_get (l : List Bool) (j : Nat) (hj : j < 8) : (first8 l).getD j false = l.getD j false := by
  simp [first8, List.getD_eq_getElem?_getD, hj]

theorem vof8 (l : List Bool) : vof (first8 l) = (vofTo (first8 l) 8 : Nat) := by rw [vof, first8_len]
theorem vof8_lt (l : List Bool) : vofTo (first8 l) 8 < 256 := vofTo_lt (first8 l) 8

theorem vofTo_bit (l : List Bool) (k : Nat) (hk : k < 62) : vofTo l (k + 1) = vofTo l k + if l.getD k false = true then 2 ^ k else 0 := by
  show vofTo l k + _ = _
  simp [hk]

theorem bits_of8 (l : List Bool) : vbits 2 (vof (first8 l)) = first8 l := by
  have key : ∀ b0 b1 b2 b3 b4 b5 b6 b7 : Bool, vbits 2 (vof [b0, b1, b2, b3, b4, b5, b6, b7]) = [b0, b1, b2, b3, b4, b5, b6, b7] := by decide +kernel
  exact key _ _ _ _ _ _ _ _

theorem of8_inj (l m : List Bool) : vof (first8 l) = vof (first8 m) ↔ first8 l = first8 m := by
  constructor
  · intro h; rw [← bits_of8 l, h, bits_of8]
  · intro h; rw [h]

/-- Above place i the same. -/
def SameFrom (X Y : List Bool) (i : Nat) : Prop := ∀ j, i ≤ j → j < 8 → X.getD j false = Y.getD j false

theorem above (X Y : List Bool) (i : Nat) (hi : i ≤ 8) (h : SameFrom X Y i) : ∀ k, i + k ≤ 8 → (vofTo X (i + k) : Int) - vofTo Y (i + k) = vofTo X i - vofTo Y i := by
  intro k
  induction k with
  | zero => intro _; rfl
  | succ k ih =>
    intro hk
    have h1 := ih (by omega)
    rw [← Nat.add_assoc, vofTo_bit X (i + k) (by omega), vofTo_bit Y (i + k) (by omega), h (i + k) (by omega) (by omega)]
    omega

theorem lt_of_first (l m : List Bool) (i : Nat) (hi : i < 8) (h : SameFrom (first8 l) (first8 m) (i + 1)) (hne : (first8 l).getD i false ≠ (first8 m).getD i false) :
    (vofTo (first8 l) 8 < vofTo (first8 m) 8) ↔ (first8 m).getD i false = true := by
  have h1 := above (first8 l) (first8 m) (i + 1) (by omega) h (8 - (i + 1)) (by omega)
  rw [show i + 1 + (8 - (i + 1)) = 8 by omega, vofTo_bit _ i (by omega), vofTo_bit _ i (by omega)] at h1
  have b1 := vofTo_lt (first8 l) i
  have b2 := vofTo_lt (first8 m) i
  rw [show min i 62 = i by omega] at b1 b2
  generalize 2 ^ i = p at *
  cases hm : (first8 m).getD i false <;> cases hl : (first8 l).getD i false <;> simp only [hm, hl] at * <;> simp at * <;> omega

theorem vtwo_lt (a b : Nat) (ha : a < 256) (hb : b < 256) : vtwo ⟨#[60]⟩ 2 (a : Int) (b : Int) = b01 (decide (a < b)) := by
  have h := t_lt (BitVec.ofNat 8 a) (BitVec.ofNat 8 b)
  have e1 : nb (BitVec.ofNat 8 a) = a := by simp [nb]; omega
  have e2 : nb (BitVec.ofNat 8 b) = b := by simp [nb]; omega
  rw [e1, e2] at h
  rw [h]
  congr 1
  simp
theorem vtwo_eq (a b : Nat) (ha : a < 256) (hb : b < 256) : vtwo ⟨#[61]⟩ 2 (a : Int) (b : Int) = b01 (decide (a = b)) := by
  have h := t_eq fByte (BitVec.ofNat 8 a) (BitVec.ofNat 8 b)
  have e1 : nb (BitVec.ofNat 8 a) = a := by simp [nb]; omega
  have e2 : nb (BitVec.ofNat 8 b) = b := by simp [nb]; omega
  rw [e1, e2] at h
  rw [h]
  congr 1
  rw [Bool.eq_iff_iff]
  simp
  omega

theorem same_all (l m : List Bool) (h : SameFrom (first8 l) (first8 m) 0) : first8 l = first8 m := by
  apply List.ext_getElem
  · rw [first8_len, first8_len]
  · intro k h1 h2
    rw [first8_len] at h1
    have := h k (by omega) h1
    simpa [List.getD_eq_getElem?_getD, first8_len, h1] using this
end Go.Proofs.Ytlaeflpddehipaa
