/- clean.Clean, plain: what is there twice is there once. -/
import Derived.Test.YtlaeflpddehipaaCleanOnce
set_option linter.unusedVariables false
namespace Go.Proofs.Ytlaeflpddehipaa
open Go.RowKit

/-! ### a step done again -/
theorem mkN_again {M M2 : List GN} {x : GN} (hx : x.op ≠ 4) (hg : Grows (mkN M x).1 M2) (ho : Once M2) : mkN M2 x = (M2, (mkN M x).2) := by
  have hm := mkN_made M x
  have ha := mkN_at M x
  have hb := hg.at hm.lo hm.hi
  rw [ha] at hb
  have hlen := hg.len
  have hlo := hm.lo
  have hhi := hm.hi
  have hlt : (mkN M x).2.toNat < M2.length := by omega
  have hi := idx_is ho hx hlt hb
  have hmem : x ∈ M2 := by
    unfold nodeAt at hb
    rw [List.getD_eq_getElem?_getD, List.getElem?_eq_getElem hlt] at hb
    simp only [Option.getD_some] at hb
    rw [← hb]
    exact List.getElem_mem hlt
  have e : mkN M2 x = (M2, ((M2.idxOf x : Nat) : Int)) := by
    unfold mkN
    rw [if_pos ⟨hx, hmem⟩]
  rw [e, hi]
  have : (((mkN M x).2.toNat : Nat) : Int) = (mkN M x).2 := by omega
  rw [this]
theorem mNot_again {M M2 : List GN} (hA : Ahead M) {a : Int} (h0 : 0 ≤ a) (h1 : a < (M.length : Int)) (hg : Grows (mNot M a).1 M2) (ho : Once M2) : mNot M2 a = (M2, (mNot M a).2) := by
  have hgm := (mNot_made hA h0 h1).gr.trans hg
  have e := hgm.op h0 h1
  have e2 := hgm.at h0 h1
  unfold mNot at hg ⊢
  rw [e, e2]
  split at hg
  · rename_i h; rw [if_pos h, if_pos h]; exact mkN_again (by decide) hg ho
  · rename_i n1
    rw [if_neg n1, if_neg n1]
    split at hg
    · rename_i h; rw [if_pos h, if_pos h]; exact mkN_again (by decide) hg ho
    · rename_i n2
      rw [if_neg n2, if_neg n2]
      split at hg
      · rename_i h; rw [if_pos h, if_pos h]
      · rename_i n3; rw [if_neg n3, if_neg n3]; exact mkN_again (by simp) hg ho
theorem turned_again {M M2 : List GN} {a b : Int} (h0 : 0 ≤ a) (h1 : a < (M.length : Int)) (h2 : 0 ≤ b) (h3 : b < (M.length : Int)) (hg : Grows M M2) : turnedB M2 a b = turnedB M a b := by
  unfold turnedB
  rw [hg.op h0 h1, hg.op h2 h3, hg.at h0 h1, hg.at h2 h3]
theorem mTwo1_again {M M2 : List GN} (hA : Ahead M) {op a b : Int} (hop : op ≠ 4) (h0 : 0 ≤ a) (h1 : a < (M.length : Int)) (h2 : 0 ≤ b) (h3 : b < (M.length : Int)) (hg : Grows (mTwo1 M op a b).1 M2) (ho : Once M2) : mTwo1 M2 op a b = (M2, (mTwo1 M op a b).2) := by
  have hgm := (mTwo1_made hA (op := op) h0 h1 h2 h3).gr.trans hg
  have e := hgm.op h0 h1
  have et := turned_again h0 h1 h2 h3 hgm
  unfold mTwo1 at hg ⊢
  rw [e, et]
  split at hg
  · rename_i h; rw [if_pos h, if_pos h]
  · rename_i n1
    rw [if_neg n1, if_neg n1]
    split at hg
    · rename_i h; rw [if_pos h, if_pos h]
    · rename_i n2
      rw [if_neg n2, if_neg n2]
      split at hg
      · rename_i h; rw [if_pos h, if_pos h]; exact mNot_again hA h2 h3 hg ho
      · rename_i n3
        rw [if_neg n3, if_neg n3]
        split at hg
        · rename_i h; rw [if_pos h, if_pos h]; exact mkN_again (by decide) hg ho
        · rename_i n4
          rw [if_neg n4, if_neg n4]
          split at hg
          · rename_i h; rw [if_pos h, if_pos h]
          · rename_i n5
            rw [if_neg n5, if_neg n5]
            split at hg
            · rename_i h; rw [if_pos h, if_pos h]; exact mkN_again (by decide) hg ho
            · rename_i n6; rw [if_neg n6, if_neg n6]; exact mkN_again hop hg ho
theorem mTwo_again {M M2 : List GN} (hA : Ahead M) {op a b : Int} (hop : op ≠ 4) (h0 : 0 ≤ a) (h1 : a < (M.length : Int)) (h2 : 0 ≤ b) (h3 : b < (M.length : Int)) (hg : Grows (mTwo M op a b).1 M2) (ho : Once M2) : mTwo M2 op a b = (M2, (mTwo M op a b).2) := by
  have hgm := (mTwo_made hA (op := op) h0 h1 h2 h3).gr.trans hg
  have es : swapB M2 a b = swapB M a b := by
    unfold swapB
    rw [hgm.op h0 h1, hgm.op h2 h3]
  unfold mTwo at hg ⊢
  rw [es]
  split at hg
  · rename_i h; rw [if_pos h, if_pos h]; exact mTwo1_again hA hop h2 h3 h0 h1 hg ho
  · rename_i h; rw [if_neg h, if_neg h]; exact mTwo1_again hA hop h0 h1 h2 h3 hg ho

/-! ### nets that keep nothing -/
def NoReg (M : List GN) : Prop := ∀ j : Nat, j < M.length → (M.getD j GN.zero).op ≠ 4
/-- A net whose outs come out twice. -/
def Net.dup (N : Net) : Net := ⟨N.given, N.nodes, N.outs ++ N.outs⟩

theorem need_exists (N : Net) : ∃ need, IsNeed N need := by
  refine ⟨(List.range N.nodes.length).map fun i => @decide (Reach N i) (Classical.propDecidable _), by simp, fun i hi => ?_⟩
  simp [List.getD_eq_getElem?_getD, List.getElem?_map, List.getElem?_range hi]

theorem mkN_noReg {M : List GN} (h : NoReg M) {x : GN} (hx : x.op ≠ 4) : NoReg (mkN M x).1 := by
  unfold mkN
  split
  · exact h
  · intro i hi
    by_cases hl : i < M.length
    · have e : (M ++ [x]).getD i GN.zero = M.getD i GN.zero := by simp [List.getD_eq_getElem?_getD, List.getElem?_append_left hl]
      rw [e]
      exact h i hl
    · have : i = M.length := by simp at hi; omega
      subst this
      have e : (M ++ [x]).getD M.length GN.zero = x := by simp [List.getD_eq_getElem?_getD]
      rw [e]
      exact hx
theorem mNot_noReg {M : List GN} (h : NoReg M) (a : Int) : NoReg (mNot M a).1 := by
  unfold mNot
  split
  · exact mkN_noReg h (by decide)
  · split
    · exact mkN_noReg h (by decide)
    · split
      · exact h
      · exact mkN_noReg h (by simp)
theorem mTwo1_noReg {M : List GN} (h : NoReg M) {op : Int} (hop : op ≠ 4) (a b : Int) : NoReg (mTwo1 M op a b).1 := by
  unfold mTwo1
  split
  · exact h
  · split
    · exact h
    · split
      · exact mNot_noReg h _
      · split
        · exact mkN_noReg h (by decide)
        · split
          · exact h
          · split
            · exact mkN_noReg h (by decide)
            · exact mkN_noReg h hop
theorem mTwo_noReg {M : List GN} (h : NoReg M) {op : Int} (hop : op ≠ 4) (a b : Int) : NoReg (mTwo M op a b).1 := by
  unfold mTwo
  split
  · exact mTwo1_noReg h hop _ _
  · exact mTwo1_noReg h hop _ _
theorem nodeM_noReg {N : Net} {i : Nat} (hi : opAt N.nodes i ≠ 4) {M : List GN} (h : NoReg M) (of : List Int) : NoReg (nodeM N i M of).1 := by
  unfold nodeM
  have eo : opAt N.nodes i = (nodeAt N.nodes i).op := rfl
  rw [eo] at hi
  simp only
  split
  · exact mkN_noReg h (by decide)
  · split
    · exact mkN_noReg h (by decide)
    · split
      · exact mkN_noReg h (by simp)
      · split
        · exact mNot_noReg h _
        · exact mTwo_noReg h hi _ _
theorem steps_noReg {N : Net} (hr : NoReg N.nodes) (need : List Bool) (k : Nat) (hk : k ≤ N.nodes.length) : NoReg (stepsM N need k).1 := by
  induction k with
  | zero => intro i hi; simp [stepsM] at hi
  | succ k ih =>
    show NoReg (stepM N need k (stepsM N need k)).1
    unfold stepM
    split
    · exact nodeM_noReg (hr k (by omega)) (ih (by omega)) _
    · exact ih (by omega)
theorem fixN_noReg {M : List GN} (h : NoReg M) (of : List Int) : M.map (fixN of) = M := by
  conv => rhs; rw [← List.map_id M]
  refine List.map_congr_left fun x hx => ?_
  obtain ⟨i, hi, rfl⟩ := List.mem_iff_getElem.1 hx
  have := h i hi
  rw [List.getD_eq_getElem?_getD, List.getElem?_eq_getElem hi] at this
  simp only [Option.getD_some] at this
  unfold fixN
  rw [if_neg this]
  rfl
theorem once_noReg {N N' : Net} (hr : NoReg N.nodes) (h : OnceOf N N') : NoReg N'.nodes := by
  obtain ⟨need, hd, rfl⟩ := h
  have := steps_noReg hr need N.nodes.length (Nat.le_refl _)
  unfold onceN
  simp only
  rw [fixN_noReg this]
  exact this

/-! ### outs twice -/
theorem reach_dup (N : Net) (i : Nat) : Reach N.dup i ↔ Reach N i := by
  constructor
  · intro h
    induction h with
    | out k h =>
      by_cases hk : k < N.outs.length
      · have e : N.dup.outs.getD k 0 = N.outs.getD k 0 := by simp [Net.dup, List.getD_eq_getElem?_getD, List.getElem?_append_left hk]
        rw [e]
        exact Reach.out k hk
      · have hk2 : k - N.outs.length < N.outs.length := by simp [Net.dup] at h; omega
        have e : N.dup.outs.getD k 0 = N.outs.getD (k - N.outs.length) 0 := by
          simp only [Net.dup, List.getD_eq_getElem?_getD]
          rw [List.getElem?_append_right (by omega)]
        rw [e]
        exact Reach.out _ hk2
    | reg _ ho ih => exact Reach.reg ih ho
    | one _ ho ih => exact Reach.one ih ho
    | two _ ho ih => exact Reach.two ih ho
  · intro h
    induction h with
    | out k h =>
      have e : N.dup.outs.getD k 0 = N.outs.getD k 0 := by simp [Net.dup, List.getD_eq_getElem?_getD, List.getElem?_append_left h]
      rw [← e]
      exact Reach.out k (by simp [Net.dup]; omega)
    | reg _ ho ih => exact Reach.reg (N := N.dup) ih ho
    | one _ ho ih => exact Reach.one (N := N.dup) ih ho
    | two _ ho ih => exact Reach.two (N := N.dup) ih ho
theorem steps_dup (N : Net) (need : List Bool) (k : Nat) : stepsM N.dup need k = stepsM N need k := by
  induction k with
  | zero => rfl
  | succ k ih =>
    show stepM N.dup need k (stepsM N.dup need k) = stepM N need k (stepsM N need k)
    rw [ih]
    rfl
theorem once_dup {N A : Net} (h : OnceOf N A) : OnceOf N.dup A.dup := by
  obtain ⟨need, hd, rfl⟩ := h
  refine ⟨need, ⟨hd.len, fun i hi => (hd.is i hi).trans (reach_dup N i).symm⟩, ?_⟩
  unfold onceN
  have e : N.dup.nodes.length = N.nodes.length := rfl
  rw [e, steps_dup]
  simp [Net.dup]
end Go.Proofs.Ytlaeflpddehipaa
