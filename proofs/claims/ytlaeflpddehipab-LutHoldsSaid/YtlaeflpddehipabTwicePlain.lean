/- What is turned twice is itself: plain. -/
import Derived.Test.YtlaeflpddehipabNetVals
set_option linter.unusedVariables false
namespace Go.Proofs.Ytlaeflpddehipab
open Go.RowKit

/-- What is turned twice: two nodes for each out. -/
def dbl (n : Nat) (outs : List Int) : Nat → List GN
  | 0 => []
  | i + 1 => dbl n outs i ++ [⟨8, outs.getD i 0, 0, 0⟩, ⟨8, ((n + 2 * i : Nat) : Int), 0, 0⟩]
def dblO (n : Nat) : Nat → List Int
  | 0 => []
  | i + 1 => dblO n i ++ [((n + 2 * i + 1 : Nat) : Int)]
theorem dbl_len (n : Nat) (outs : List Int) (i : Nat) : (dbl n outs i).length = 2 * i := by
  induction i with
  | zero => rfl
  | succ i ih => simp [dbl, ih]; omega
theorem dblO_len (n i : Nat) : (dblO n i).length = i := by
  induction i with
  | zero => rfl
  | succ i ih => simp [dblO, ih]
theorem dbl_get (n : Nat) (outs : List Int) (m i : Nat) (h : i < m) : (dbl n outs m)[2 * i]? = some ⟨8, outs.getD i 0, 0, 0⟩ ∧ (dbl n outs m)[2 * i + 1]? = some ⟨8, ((n + 2 * i : Nat) : Int), 0, 0⟩ := by
  induction m with
  | zero => omega
  | succ m ih =>
    unfold dbl
    by_cases e : i = m
    · subst e
      rw [List.getElem?_append_right (by rw [dbl_len]; omega), List.getElem?_append_right (by rw [dbl_len]; omega), dbl_len]
      rw [Nat.sub_self, show 2 * i + 1 - 2 * i = 1 by omega]
      exact ⟨rfl, rfl⟩
    · rw [List.getElem?_append_left (by rw [dbl_len]; omega), List.getElem?_append_left (by rw [dbl_len]; omega)]
      exact ih (by omega)
theorem dblO_get (n m i : Nat) (h : i < m) : (dblO n m)[i]? = some ((n + 2 * i + 1 : Nat) : Int) := by
  induction m with
  | zero => omega
  | succ m ih =>
    unfold dblO
    by_cases e : i = m
    · subst e
      rw [List.getElem?_append_right (by rw [dblO_len]; omega), dblO_len, Nat.sub_self]
      rfl
    · rw [List.getElem?_append_left (by rw [dblO_len]; omega)]
      exact ih (by omega)

def Net.twice (N : Net) : Net := ⟨N.given, N.nodes ++ dbl N.nodes.length N.outs N.outs.length, dblO N.nodes.length N.outs.length⟩
theorem Net.twice_nodes (N : Net) : N.twice.nodes.length = N.nodes.length + 2 * N.outs.length := by simp [Net.twice, dbl_len]
theorem Net.twice_outs (N : Net) : N.twice.outs.length = N.outs.length := dblO_len _ _
theorem Net.twice_old (N : Net) {k : Nat} (h : k < N.nodes.length) : N.twice.nodes.getD k GN.zero = N.nodes.getD k GN.zero := by
  simp [Net.twice, List.getD_eq_getElem?_getD, List.getElem?_append_left h]
theorem Net.twice_new0 (N : Net) {i : Nat} (h : i < N.outs.length) : N.twice.nodes.getD (N.nodes.length + 2 * i) GN.zero = ⟨8, N.outs.getD i 0, 0, 0⟩ := by
  simp only [Net.twice, List.getD_eq_getElem?_getD]
  rw [List.getElem?_append_right (by omega), Nat.add_sub_cancel_left, (dbl_get _ _ _ _ h).1]
  simp [List.getD_eq_getElem?_getD]
theorem Net.twice_new1 (N : Net) {i : Nat} (h : i < N.outs.length) : N.twice.nodes.getD (N.nodes.length + 2 * i + 1) GN.zero = ⟨8, ((N.nodes.length + 2 * i : Nat) : Int), 0, 0⟩ := by
  simp only [Net.twice, List.getD_eq_getElem?_getD]
  rw [List.getElem?_append_right (by omega), show N.nodes.length + 2 * i + 1 - N.nodes.length = 2 * i + 1 by omega, (dbl_get _ _ _ _ h).2]
  rfl
theorem Net.twice_out (N : Net) {i : Nat} (h : i < N.outs.length) : N.twice.outs.getD i 0 = ((N.nodes.length + 2 * i + 1 : Nat) : Int) := by
  simp only [Net.twice, List.getD_eq_getElem?_getD]
  rw [dblO_get _ _ _ h]
  rfl

theorem Net.valsTo_get (N : Net) (regs given : List Bool) (k j : Nat) (h : j < k) : (N.valsTo regs given k).getD j false = valOf (N.nodes.getD j GN.zero) (regs.getD j false) given (N.valsTo regs given j) := by
  induction k with
  | zero => omega
  | succ k ih =>
    rw [show N.valsTo regs given (k + 1) = N.valsTo regs given k ++ [valOf (N.nodes.getD k GN.zero) (regs.getD k false) given (N.valsTo regs given k)] from rfl]
    by_cases e : j = k
    · subst e
      rw [List.getD_eq_getElem?_getD, List.getElem?_append_right (by rw [Net.valsTo_len]; omega), Net.valsTo_len, Nat.sub_self]
      rfl
    · rw [List.getD_eq_getElem?_getD, List.getElem?_append_left (by rw [Net.valsTo_len]; omega), ← List.getD_eq_getElem?_getD]
      exact ih (by omega)
theorem Net.valsTo_same (N : Net) (regs given : List Bool) (k k' j : Nat) (h : j < k) (h' : j < k') : (N.valsTo regs given k).getD j false = (N.valsTo regs given k').getD j false := by
  rw [N.valsTo_get _ _ _ _ h, N.valsTo_get _ _ _ _ h']

/-- The registers of the one are the first of the other's. -/
structure TwRegs (N : Net) (rn rm : List Bool) : Prop where
  ln : rn.length = N.nodes.length
  lm : rm.length = N.twice.nodes.length
  same : ∀ k, k < N.nodes.length → rm.getD k false = rn.getD k false

theorem TwRegs.vals {N : Net} {rn rm : List Bool} (h : TwRegs N rn rm) (given : List Bool) (k : Nat) (hk : k ≤ N.nodes.length) : N.twice.valsTo rm given k = N.valsTo rn given k := by
  induction k with
  | zero => rfl
  | succ k ih =>
    unfold Net.valsTo
    rw [ih (by omega), N.twice_old (by omega), h.same k (by omega)]

theorem TwRegs.outs {N : Net} {rn rm : List Bool} (h : TwRegs N rn rm) (hr : N.right = true) (given : List Bool) : N.twice.outVals rm given = N.outVals rn given := by
  apply List.ext_getElem?
  intro i
  by_cases hi : i < N.outs.length
  · have ho := Net.out_at hr hi
    have hv : (N.twice.vals rm given).getD (N.nodes.length + 2 * i + 1) false = (N.vals rn given).getD (N.outs.getD i 0).toNat false := by
      have hl := N.twice_nodes
      unfold Net.vals
      rw [N.twice.valsTo_get _ _ _ _ (by omega), N.twice_new1 hi]
      have e1 : (((N.nodes.length + 2 * i : Nat) : Int)).toNat = N.nodes.length + 2 * i := by omega
      simp only [valOf]
      rw [e1, N.twice.valsTo_get _ _ _ _ (by omega), N.twice_new0 hi]
      simp only [valOf]
      rw [N.twice.valsTo_same rm given (N.nodes.length + 2 * i) N.nodes.length _ (by omega) (by omega), h.vals given _ (Nat.le_refl _)]
      simp
    have e1 : N.twice.outs[i]? = some ((N.nodes.length + 2 * i + 1 : Nat) : Int) := dblO_get _ _ _ hi
    have e2 : N.outs[i]? = some (N.outs.getD i 0) := by simp [List.getD_eq_getElem?_getD, hi]
    unfold Net.outVals
    rw [List.getElem?_map, List.getElem?_map, e1, e2, Option.map_some, Option.map_some, Int.toNat_natCast, hv]
  · rw [List.getElem?_eq_none (by simp [Net.outVals, N.twice_outs]; omega), List.getElem?_eq_none (by simp [Net.outVals]; omega)]

theorem TwRegs.next {N : Net} {rn rm : List Bool} (h : TwRegs N rn rm) (hr : N.right = true) (given : List Bool) : TwRegs N (N.regs' rn given) (N.twice.regs' rm given) where
  ln := (N.regsTo_len _ _ _).trans h.ln
  lm := (N.twice.regsTo_len _ _ _).trans h.lm
  same := by
    intro k hk
    have hl := N.twice_nodes
    unfold Net.regs' Net.regsTo
    have hkn : k < rn.length := by rw [h.ln]; exact hk
    have hkm : k < rm.length := by rw [h.lm]; omega
    simp only [List.getD_eq_getElem?_getD, List.getElem?_map, List.getElem?_range hkn, List.getElem?_range hkm, Option.map_some, Option.getD_some]
    have hs := h.same k hk
    simp only [List.getD_eq_getElem?_getD] at hs
    have ho := N.twice_old hk
    simp only [List.getD_eq_getElem?_getD] at ho
    rw [ho, hs]
    by_cases h4 : (N.nodes[k]?.getD GN.zero).op = 4
    · rw [if_pos ⟨by omega, h4⟩, if_pos ⟨hk, h4⟩]
      have hn := Net.right_at hr hk
      have hn' : nodeRight N.given N.nodes.length k (N.nodes.getD k GN.zero) = true := hn
      simp only [List.getD_eq_getElem?_getD] at hn'
      simp only [nodeRight, h4] at hn'
      simp at hn'
      have := N.twice.valsTo_same rm given N.twice.nodes.length N.nodes.length (N.nodes[k]?.getD GN.zero).next.toNat (by omega) (by omega)
      rw [h.vals given _ (Nat.le_refl _)] at this
      simp only [List.getD_eq_getElem?_getD] at this
      exact this
    · rw [if_neg (fun h => h4 h.2), if_neg (fun h => h4 h.2)]

theorem TwRegs.first (N : Net) : TwRegs N N.first N.twice.first where
  ln := by simp [Net.first]
  lm := by simp [Net.first]
  same := by
    intro k hk
    simp only [Net.first, Net.twice, List.map_append, List.getD_eq_getElem?_getD]
    rw [List.getElem?_append_left (by simpa using hk)]

theorem Net.twice_right {N : Net} (hr : N.right = true) (h1 : N.nodes.length ≤ 60) (h2 : N.outs.length ≤ 30) : N.twice.right = true := by
  have hs := Net.right_sizes hr
  have hl := N.twice_nodes
  have hlo := N.twice_outs
  unfold Net.right
  simp only [Bool.and_eq_true]
  refine ⟨⟨?_, ?_⟩, ?_⟩
  · unfold Net.sizes
    rw [decide_eq_true_eq]
    have : N.twice.given = N.given := rfl
    omega
  · unfold Net.rightTo
    rw [List.all_eq_true]
    intro k hk
    rw [List.mem_range] at hk
    by_cases e : k < N.nodes.length
    · have hn := Net.right_at hr e
      rw [N.twice_old e]
      have hg : N.twice.given = N.given := rfl
      rw [hg]
      unfold nodeRight at hn ⊢
      split at hn
      · rename_i h; rw [if_pos h]
      · rename_i h; rw [if_neg h]
        split at hn
        · rename_i h; rw [if_pos h]; exact hn
        · rename_i h; rw [if_neg h]
          split at hn
          · rename_i h
            rw [if_pos h]
            rw [decide_eq_true_eq] at hn ⊢
            omega
          · rename_i h; rw [if_neg h]; exact hn
    · obtain ⟨j, hj⟩ : ∃ j, k = N.nodes.length + j := ⟨k - N.nodes.length, by omega⟩
      rcases Nat.mod_two_eq_zero_or_one j with hm | hm
      · have ho := Net.out_at hr (k := j / 2) (by omega)
        rw [show k = N.nodes.length + 2 * (j / 2) by omega, N.twice_new0 (by omega)]
        simp [nodeRight, aheadB]
        simp only [List.getD_eq_getElem?_getD] at ho
        omega
      · rw [show k = N.nodes.length + 2 * (j / 2) + 1 by omega, N.twice_new1 (by omega)]
        simp [nodeRight, aheadB]
        omega
  · unfold Net.outsTo
    rw [List.all_eq_true]
    intro i hi
    rw [List.mem_range, hlo] at hi
    rw [N.twice_out hi]
    simp
    omega

theorem dbl_gates (n : Nat) (outs : List Int) (i : Nat) : ((dbl n outs i).filter GN.isGate).length = 2 * i := by
  induction i with
  | zero => rfl
  | succ i ih =>
    unfold dbl
    rw [List.filter_append, List.length_append, ih]
    have e : [(⟨8, outs.getD i 0, 0, 0⟩ : GN), ⟨8, ((n + 2 * i : Nat) : Int), 0, 0⟩].filter GN.isGate = [⟨8, outs.getD i 0, 0, 0⟩, ⟨8, ((n + 2 * i : Nat) : Int), 0, 0⟩] := by
      simp [List.filter_cons, GN.isGate]
    rw [e]
    simp
    omega
theorem Net.twice_gates (N : Net) : N.twice.gates = N.gates + 2 * N.outs.length := by
  unfold Net.gates gatesTo
  rw [List.take_length, List.take_length]
  simp only [Net.twice]
  rw [List.filter_append, List.length_append, dbl_gates]

/-! ### what is given beyond is not seen -/
theorem valOf_given (x : GN) (reg : Bool) (g g' pre : List Bool) (h : ∀ j, g.getD j false = g'.getD j false) : valOf x reg g pre = valOf x reg g' pre := by
  unfold valOf
  rw [h]
theorem Net.valsTo_given (N : Net) (regs g g' : List Bool) (h : ∀ j, g.getD j false = g'.getD j false) (k : Nat) : N.valsTo regs g k = N.valsTo regs g' k := by
  induction k with
  | zero => rfl
  | succ k ih =>
    unfold Net.valsTo
    rw [ih, valOf_given _ _ g g' _ h]
theorem pad_given (g : List Bool) (m : Nat) (j : Nat) : (g ++ List.replicate m false).getD j false = g.getD j false := by
  simp only [List.getD_eq_getElem?_getD, List.getElem?_append]
  split
  · rfl
  · rename_i h
    rw [List.getElem?_eq_none (l := g) (by omega)]
    simp [List.getElem?_replicate]
    split <;> rfl
theorem Net.outVals_pad (N : Net) (regs g : List Bool) (m : Nat) : N.outVals regs (g ++ List.replicate m false) = N.outVals regs g := by
  unfold Net.outVals Net.vals
  rw [N.valsTo_given _ _ _ (pad_given g m)]
theorem Net.regs_pad (N : Net) (regs g : List Bool) (m : Nat) : N.regs' regs (g ++ List.replicate m false) = N.regs' regs g := by
  unfold Net.regs' Net.vals
  rw [N.valsTo_given _ _ _ (pad_given g m)]
end Go.Proofs.Ytlaeflpddehipab
