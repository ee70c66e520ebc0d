/- The document's Tables.Right, walked: the law of LN.right. -/
import Derived.Test.YtlaeflpddehipabLsPlain
import Derived.Deep.DeepCutAuto
set_option linter.unusedVariables false
set_option linter.unusedSimpArgs false
set_option linter.unusedSectionVars false
namespace Go.Proofs.Ytlaeflpddehipab
open Go.RowKit

/-- How many tables of j signals there are, as the document reckons it. -/
def mostN : Nat → Int
  | 0 => 2
  | j + 1 => if mostN j < 1048576 then mostN j * mostN j else mostN j
theorem mostN_big : ∀ j, mostN (j + 5) = 4294967296
  | 0 => by decide
  | j + 1 => by
    have h := mostN_big j
    show (if mostN (j + 5) < 1048576 then mostN (j + 5) * mostN (j + 5) else mostN (j + 5)) = _
    rw [h]
    rfl
theorem mostN_small (j : Nat) (h : j ≤ 4) : mostN j = 2 ^ (2 ^ j) := by
  rcases j with _ | _ | _ | _ | _ | j
  · rfl
  · rfl
  · rfl
  · rfl
  · rfl
  · omega
theorem mostN_fits (j : Nat) : 0 ≤ mostN j ∧ mostN j ≤ 4294967296 ∧ (mostN j < 1048576 → mostN j ≤ 65536) := by
  rcases Nat.lt_or_ge j 5 with h | h
  · rcases j with _ | _ | _ | _ | _ | j
    · decide
    · decide
    · decide
    · decide
    · decide
    · omega
  · obtain ⟨k, rfl⟩ : ∃ k, j = k + 5 := ⟨j - 5, by omega⟩
    rw [mostN_big]
    omega
theorem LN.four_sizes (L : LN) : L.sizes = true ↔ ∀ k, k < 4 → 0 ≤ [L.given, (L.regs.length : Int), (L.luts.length : Int), (L.outs.length : Int)].getD k 0 ∧ [L.given, (L.regs.length : Int), (L.luts.length : Int), (L.outs.length : Int)].getD k 0 ≤ 20000 := by
  unfold LN.sizes
  simp only [Bool.and_eq_true, decide_eq_true_eq]
  constructor
  · rintro ⟨h1, h2⟩ k hk
    rcases k with _ | _ | _ | _ | k
    · simp; omega
    · simp; omega
    · simp; omega
    · simp; omega
    · omega
  · intro h
    have h0 := h 0 (by omega)
    have h1 := h 1 (by omega)
    have h2 := h 2 (by omega)
    have h3 := h 3 (by omega)
    simp at h0 h1 h2 h3
    omega
theorem LN.right_no_lut {L : LN} {i : Nat} (hi : i < L.luts.length) (h : L.lutBad i = true) : L.right = false := by
  have : (List.range L.luts.length).all (fun i => !L.lutBad i) = false := by
    rw [List.all_eq_false]
    exact ⟨i, List.mem_range.2 hi, by simp [h]⟩
  unfold LN.right
  rw [this]
  simp
theorem LN.right_no_reg {L : LN} {i : Nat} (hi : i < L.regs.length) (h : badB L.signals (L.regs.getD i LR.zero).next = true) : L.right = false := by
  have : L.regsBad = true := by
    unfold LN.regsBad
    rw [List.any_eq_true]
    exact ⟨i, List.mem_range.2 hi, h⟩
  unfold LN.right
  rw [this]
  simp
theorem LN.right_no_out {L : LN} {i : Nat} (hi : i < L.outs.length) (h : badB L.signals (L.outs.getD i 0) = true) : L.right = false := by
  have : L.outsBad = true := by
    unfold LN.outsBad
    rw [List.any_eq_true]
    exact ⟨i, List.mem_range.2 hi, h⟩
  unfold LN.right
  rw [this]
  simp
theorem LN.right_yes {L : LN} (hs : L.sizes = true) (h1 : ∀ i, i < L.luts.length → L.lutBad i = false) (h2 : ∀ i, i < L.regs.length → badB L.signals (L.regs.getD i LR.zero).next = false)
    (h3 : ∀ i, i < L.outs.length → badB L.signals (L.outs.getD i 0) = false) : L.right = true := by
  have e1 : (List.range L.luts.length).all (fun i => !L.lutBad i) = true := by
    rw [List.all_eq_true]
    intro i hi
    simp [h1 i (List.mem_range.1 hi)]
  have e2 : L.regsBad = false := by
    unfold LN.regsBad
    rw [List.any_eq_false]
    intro i hi hc
    rw [h2 i (List.mem_range.1 hi)] at hc
    cases hc
  have e3 : L.outsBad = false := by
    unfold LN.outsBad
    rw [List.any_eq_false]
    intro i hi hc
    rw [h3 i (List.mem_range.1 hi)] at hc
    cases hc
  unfold LN.right
  rw [hs, e1, e2, e3]
  rfl
theorem badB_no {s k : Int} (h0 : 0 ≤ k) (h1 : k < s) : badB s k = false := by
  unfold badB
  rw [decide_eq_false (by omega), decide_eq_false (by omega)]
  rfl
theorem badB_low {s k : Int} (h0 : k < 0) : badB s k = true := by
  unfold badB
  rw [decide_eq_true h0]
  rfl
theorem badB_high {s k : Int} (h0 : s ≤ k) : badB s k = true := by
  unfold badB
  rw [decide_eq_true h0]
  simp
theorem LN.lutBad_ins {L : LN} {i j : Nat} (hj : j < (L.luts.getD i LT.zero).ins.length) (h : badB (L.given + L.regs.length + i) ((L.luts.getD i LT.zero).ins.getD j 0) = true) : L.lutBad i = true := by
  have : L.insBad i = true := by
    unfold LN.insBad
    rw [List.any_eq_true]
    exact ⟨j, List.mem_range.2 hj, h⟩
  unfold LN.lutBad
  rw [this]
  simp
theorem LN.lutBad_no {L : LN} {i : Nat} (h4 : (L.luts.getD i LT.zero).ins.length ≤ 4) (h0 : 0 ≤ (L.luts.getD i LT.zero).table) (h1 : (L.luts.getD i LT.zero).table < mostN (L.luts.getD i LT.zero).ins.length)
    (h : ∀ j, j < (L.luts.getD i LT.zero).ins.length → badB (L.given + L.regs.length + i) ((L.luts.getD i LT.zero).ins.getD j 0) = false) : L.lutBad i = false := by
  have e : L.insBad i = false := by
    unfold LN.insBad
    rw [List.any_eq_false]
    intro j hj hc
    rw [h j (List.mem_range.1 hj)] at hc
    cases hc
  rw [mostN_small _ h4] at h1
  unfold LN.lutBad
  dsimp only
  rw [e, decide_eq_false (Nat.not_lt.2 h4), decide_eq_false (Int.not_lt.2 h0), decide_eq_false (Int.not_le.2 h1)]
  rfl
theorem LN.lutBad_long {L : LN} {i : Nat} (h4 : 4 < (L.luts.getD i LT.zero).ins.length) : L.lutBad i = true := by
  unfold LN.lutBad
  dsimp only
  rw [decide_eq_true h4]
  simp
theorem LN.lutBad_low {L : LN} {i : Nat} (h4 : (L.luts.getD i LT.zero).table < 0) : L.lutBad i = true := by
  unfold LN.lutBad
  dsimp only
  rw [decide_eq_true h4]
  simp
theorem LN.lutBad_high {L : LN} {i : Nat} (h4 : (L.luts.getD i LT.zero).ins.length ≤ 4) (h1 : mostN (L.luts.getD i LT.zero).ins.length ≤ (L.luts.getD i LT.zero).table) : L.lutBad i = true := by
  rw [mostN_small _ h4] at h1
  unfold LN.lutBad
  dsimp only
  rw [decide_eq_true h1]
  simp
end Go.Proofs.Ytlaeflpddehipab
