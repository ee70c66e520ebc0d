/- CleanKnown, plain: the net that is built. -/
import Derived.Test.YtlaeflpddehipaaCleanConst
import Derived.Test.YtlaeflpddehipaaPick
set_option linter.unusedVariables false
namespace Go.Proofs.Ytlaeflpddehipaa
open Go.RowKit

def gateOf (v : Int) : Int := if v = 0 then 5 else if v = 1 then 6 else if v = 2 then 7 else 8
def knX (x : GN) (n : Nat) : GN := ⟨gateOf (vpick x.op 4), vpick x.a n, vpick x.b n, 0⟩
def knN (l : List GN) : Nat → List GN
  | 0 => [⟨1, 0, 0, 0⟩, ⟨2, 0, 0, 0⟩]
  | i + 1 => knN l i ++ [knX (l.getD i GN.zero) (knN l i).length]
def knO (outs : List Int) (n : Nat) (k : Nat) : List Int := (outs.take k).map fun z => vpick z n
def knNet (l : List GN) (outs : List Int) : Net := ⟨0, knN l l.length, knO outs (knN l l.length).length outs.length⟩
theorem knN_len (l : List GN) (i : Nat) : (knN l i).length = 2 + i := by
  induction i with
  | zero => rfl
  | succ i ih => unfold knN; rw [List.length_append, ih]; rfl
theorem knO_succ (outs : List Int) (n : Nat) {k : Nat} (h : k < outs.length) : knO outs n (k + 1) = knO outs n k ++ [vpick (outs.getD k 0) n] := by
  unfold knO
  have e : outs.getD k 0 = outs[k] := by simp [List.getD_eq_getElem?_getD, h]
  rw [List.take_succ_eq_append_getElem h, List.map_append, e]
  rfl
theorem gateOf_is (v : Int) : gateOf v = 5 ∨ gateOf v = 6 ∨ gateOf v = 7 ∨ gateOf v = 8 := by
  unfold gateOf
  split
  · exact .inl rfl
  · split
    · exact .inr (.inl rfl)
    · split
      · exact .inr (.inr (.inl rfl))
      · exact .inr (.inr (.inr rfl))
theorem knX_right (x : GN) {n : Nat} (hn : 0 < n) (g : Int) (m : Nat) : nodeRight g m n (knX x n) = true := by
  have ha := vpick_bd x.a (n : Int) (by omega)
  have hb := vpick_bd x.b (n : Int) (by omega)
  have e1 : aheadB n (vpick x.a n) = true := decide_eq_true ha
  have e2 : aheadB n (vpick x.b n) = true := decide_eq_true hb
  have ho := gateOf_is (vpick x.op 4)
  unfold knX
  generalize vpick x.a n = pa at *
  generalize vpick x.b n = pb at *
  generalize gateOf (vpick x.op 4) = o at *
  clear ha hb
  unfold nodeRight
  rcases ho with rfl | rfl | rfl | rfl <;> simp [e1, e2]
theorem knN_all (l : List GN) (i : Nat) : AllRight 0 (knN l l.length).length (knN l i) ∧ ∀ j : Nat, j < (knN l i).length → ((knN l i).getD j GN.zero).op ≠ 3 ∧ ((knN l i).getD j GN.zero).op ≠ 4 := by
  induction i with
  | zero =>
    refine ⟨?_, ?_⟩
    · intro j hj
      have hj' : j < 2 := hj
      have : j = 0 ∨ j = 1 := by omega
      rcases this with rfl | rfl <;> rfl
    · intro j hj
      have hj' : j < 2 := hj
      have : j = 0 ∨ j = 1 := by omega
      rcases this with rfl | rfl
      · exact show (1 : Int) ≠ 3 ∧ (1 : Int) ≠ 4 by decide
      · exact show (2 : Int) ≠ 3 ∧ (2 : Int) ≠ 4 by decide
  | succ i ih =>
    have hl := knN_len l i
    refine ⟨?_, ?_⟩
    · show AllRight _ _ (knN l i ++ [_])
      exact ih.1.push (knX_right _ (by omega) _ _)
    · intro j hj
      have hle : (knN l (i + 1)).length = (knN l i).length + 1 := by
        show (knN l i ++ [_]).length = _
        simp
      have hj' : j < (knN l i).length + 1 := by omega
      show ((knN l i ++ [_]).getD j GN.zero).op ≠ 3 ∧ ((knN l i ++ [_]).getD j GN.zero).op ≠ 4
      by_cases h : j < (knN l i).length
      · simp only [List.getD_eq_getElem?_getD, List.getElem?_append_left h]
        have := ih.2 j h
        simpa [List.getD_eq_getElem?_getD] using this
      · obtain rfl : j = (knN l i).length := by omega
        simp only [List.getD_eq_getElem?_getD, List.getElem?_append_right (Nat.le_refl _), Nat.sub_self]
        have := gateOf_is (vpick (l.getD i GN.zero).op 4)
        simp only [List.getElem?_cons_zero, Option.getD_some, knX]
        simp only [List.getD_eq_getElem?_getD] at this
        omega
theorem knO_len (outs : List Int) (n k : Nat) (h : k ≤ outs.length) : (knO outs n k).length = k := by
  unfold knO; simp; omega
theorem kn_right (l : List GN) (outs : List Int) (h1 : l.length ≤ 60) (h2 : outs.length ≤ 20) : (knNet l outs).right = true := by
  have ha := knN_all l l.length
  have hl := knN_len l l.length
  have ho := knO_len outs (knN l l.length).length outs.length (Nat.le_refl _)
  unfold Net.right
  simp only [Bool.and_eq_true]
  refine ⟨⟨?_, ?_⟩, ?_⟩
  · unfold Net.sizes knNet
    simp only
    exact decide_eq_true ⟨by omega, by omega, by omega, by omega⟩
  · unfold Net.rightTo knNet
    simp only
    rw [List.all_eq_true]
    intro i hi
    exact ha.1 i (by simpa using hi)
  · unfold Net.outsTo knNet
    simp only
    rw [List.all_eq_true]
    intro k hk
    have hk' : k < outs.length := by rw [ho] at hk; simpa using hk
    have hv := vpick_bd outs[k] ((knN l l.length).length : Int) (by omega)
    have e : (knO outs (knN l l.length).length outs.length).getD k 0 = vpick outs[k] ((knN l l.length).length : Int) := by
      unfold knO
      simp [List.getD_eq_getElem?_getD, hk']
    rw [e]
    exact decide_eq_true hv
theorem kn_known (l : List GN) (outs : List Int) : (knNet l outs).Known := by
  intro j hj
  have h := (knN_all l l.length).2 j hj
  exact h
end Go.Proofs.Ytlaeflpddehipaa
