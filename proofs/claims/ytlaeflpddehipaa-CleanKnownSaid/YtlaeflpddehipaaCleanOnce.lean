/- clean.Clean, plain: made anew once, and four times. -/
import Derived.Test.YtlaeflpddehipaaCleanSem
set_option linter.unusedVariables false
namespace Go.Proofs.Ytlaeflpddehipaa
open Go.RowKit

/-- The one net does what the other does, with no more of anything. -/
structure SameAs (N N' : Net) : Prop where
  right : N'.right = true
  given : N'.given = N.given
  outs : N'.outs.length = N.outs.length
  nodes : N'.nodes.length ≤ N.nodes.length
  gates : N'.gates ≤ N.gates
  sim : ∃ P : List Bool → List Bool → Prop, P N.first N'.first ∧ ∀ R R' g, P R R' → N.outVals R g = N'.outVals R' g ∧ P (N.regs' R g) (N'.regs' R' g)
theorem SameAs.refl {N : Net} (h : N.right = true) : SameAs N N := ⟨h, rfl, rfl, Nat.le_refl _, Nat.le_refl _, Eq, rfl, fun R R' g e => by subst e; exact ⟨rfl, rfl⟩⟩
theorem SameAs.trans {A B C : Net} (h : SameAs A B) (h' : SameAs B C) : SameAs A C := by
  obtain ⟨P, p0, p1⟩ := h.sim
  obtain ⟨Q, q0, q1⟩ := h'.sim
  refine ⟨h'.right, h'.given.trans h.given, h'.outs.trans h.outs, Nat.le_trans h'.nodes h.nodes, Nat.le_trans h'.gates h.gates, fun R R'' => ∃ R', P R R' ∧ Q R' R'', ⟨_, p0, q0⟩, ?_⟩
  rintro R R'' g ⟨R', hp, hq⟩
  have a := p1 R R' g hp
  have b := q1 R' R'' g hq
  exact ⟨a.1.trans b.1, _, a.2, b.2⟩

theorem fixN_get (M : List GN) (of : List Int) {i : Nat} (h : i < M.length) : (M.map (fixN of)).getD i GN.zero = fixN of (M.getD i GN.zero) := by
  simp [List.getD_eq_getElem?_getD, h]
theorem fixN_op (of : List Int) (x : GN) : (fixN of x).op = x.op := by unfold fixN; split <;> rfl
theorem fixN_val (of : List Int) (x : GN) (r : Bool) (g p : List Bool) : valOf (fixN of x) r g p = valOf x r g p := by
  unfold fixN
  split <;> rfl
theorem valsTo_fix (M : List GN) (of : List Int) (R g : List Bool) (k : Nat) (hk : k ≤ M.length) : (rowNet (M.map (fixN of))).valsTo R g k = (rowNet M).valsTo R g k := by
  induction k with
  | zero => rfl
  | succ k ih =>
    unfold Net.valsTo
    rw [ih (by omega)]
    show _ ++ [valOf ((M.map (fixN of)).getD k GN.zero) _ _ _] = _ ++ [valOf (M.getD k GN.zero) _ _ _]
    rw [fixN_get M of (by omega), fixN_val]
theorem vl_fix (M : List GN) (of : List Int) (R g : List Bool) (k : Int) : vl (M.map (fixN of)) R g k = vl M R g k := by
  unfold vl
  rw [List.length_map, valsTo_fix M of R g _ (Nat.le_refl _)]
theorem vals_vl (N : Net) (R g : List Bool) (k : Int) : (N.vals R g).getD k.toNat false = vl N.nodes R g k := by
  unfold Net.vals vl
  rw [valsTo_row]
theorem regs'_get (N : Net) (R g : List Bool) {j : Nat} (hj : j < R.length) (hl : R.length = N.nodes.length) : (N.regs' R g).getD j false = if opAt N.nodes j = 4 then vl N.nodes R g (nodeAt N.nodes j).next else R.getD j false := by
  unfold Net.regs' Net.regsTo
  have e : nodeAt N.nodes j = N.nodes.getD j GN.zero := rfl
  have e2 : opAt N.nodes j = (N.nodes.getD j GN.zero).op := rfl
  rw [e2, e, ← vals_vl]
  simp only [List.getD_eq_getElem?_getD, List.getElem?_map, List.getElem?_range hj, Option.map_some, Option.getD_some]
  by_cases h : ((N.nodes[j]?).getD GN.zero).op = 4
  · rw [if_pos ⟨by omega, h⟩, if_pos h]
  · rw [if_neg (fun h' => h h'.2), if_neg h]
theorem first_get (N : Net) {j : Nat} (hj : j < N.nodes.length) : N.first.getD j false = ((nodeAt N.nodes j).op == 4 && (nodeAt N.nodes j).a == 1) := by
  unfold Net.first nodeAt
  simp [List.getD_eq_getElem?_getD, List.getElem?_map, List.getElem?_eq_getElem hj, GN.first]

section
variable {N : Net} {need : List Bool} (hN : N.right = true) (hd : IsNeed N need)
include hN hd

theorem once_right : (onceN N need).right = true := by
  have h := inv_all hN hd N.nodes.length (Nat.le_refl _)
  have hsz := Net.right_sizes hN
  unfold onceN
  have hout : ∀ k, k < N.outs.length → 0 ≤ (stepsM N need N.nodes.length).2.getD (N.outs.getD k 0).toNat 0 ∧ (stepsM N need N.nodes.length).2.getD (N.outs.getD k 0).toNat 0 < ((stepsM N need N.nodes.length).1.length : Int) := by
    intro k hk
    have := Net.out_at hN hk
    exact h.of _ (by omega) (need_out hN hd hk)
  generalize stepsM N need N.nodes.length = S at *
  unfold Net.right
  simp only [Bool.and_eq_true]
  refine ⟨⟨?_, ?_⟩, ?_⟩
  · unfold Net.sizes
    simp only [List.length_map]
    have := h.len
    exact decide_eq_true ⟨hsz.1, hsz.2.1, by omega, hsz.2.2.2⟩
  · unfold Net.rightTo
    rw [List.all_eq_true]
    intro i hi
    have hi' : i < S.1.length := by simpa using hi
    simp only [List.length_map]
    rw [fixN_get _ _ hi']
    have hr := h.right i hi'
    have hg := h.regs i hi'
    generalize S.1.getD i GN.zero = x at *
    by_cases ho : x.op = 4
    · have hq := node_all hr
      have hn := hg ho
      obtain ⟨op, a, b, nx⟩ := x
      simp only at ho hq hn
      subst ho
      have hq2 : (a = 0 ∨ a = 1) ∧ 0 ≤ nx ∧ nx < (N.nodes.length : Int) := by omega
      have := h.of nx.toNat (by omega) hn
      show decide ((a = 0 ∨ a = 1) ∧ 0 ≤ S.2.getD nx.toNat 0 ∧ S.2.getD nx.toNat 0 < (S.1.length : Int)) = true
      exact decide_eq_true ⟨hq2.1, this.1, this.2⟩
    · have e : fixN S.2 x = x := by unfold fixN; rw [if_neg ho]
      rw [e]
      unfold nodeRight at hr ⊢
      rw [if_neg ho] at hr ⊢
      exact hr
  · unfold Net.outsTo
    rw [List.all_eq_true]
    intro k hk
    have hk' : k < N.outs.length := by simpa using hk
    simp only [List.length_map]
    have := hout k hk'
    simp only [List.getD_eq_getElem?_getD, List.getElem?_map, List.getElem?_eq_getElem hk', Option.map_some, Option.getD_some] at this ⊢
    exact decide_eq_true this

theorem once_same : SameAs N (onceN N need) := by
  have h := inv_all hN hd N.nodes.length (Nat.le_refl _)
  have hR := once_right hN hd
  have hsem := fun R R' g (hS : Still N R) => sem_all hN hd R R' g hS N.nodes.length (Nat.le_refl _)
  unfold onceN at hR ⊢
  have hout : ∀ k, k < N.outs.length → 0 ≤ N.outs.getD k 0 ∧ N.outs.getD k 0 < (N.nodes.length : Int) ∧ need.getD (N.outs.getD k 0).toNat false = true := fun k hk => ⟨(Net.out_at hN hk).1, (Net.out_at hN hk).2, need_out hN hd hk⟩
  generalize stepsM N need N.nodes.length = S at *
  have hgates : gateN (S.1.map (fixN S.2)) = gateN S.1 := by
    unfold gateN
    rw [List.filter_map, List.length_map]
    congr 2
    funext x
    unfold GN.isGate
    simp only [Function.comp]
    rw [fixN_op]
  refine ⟨hR, rfl, by simp, by simp only [List.length_map]; exact h.len, ?_, fun R R' => R.length = N.nodes.length ∧ R'.length = S.1.length ∧ Still N R ∧ RegRel N need N.nodes.length S.2 R R', ⟨by simp [Net.first], by simp [Net.first], ?_, ?_⟩, ?_⟩
  · unfold Net.gates
    simp only
    rw [gateN_gates, hgates]
    exact h.gates
  · intro j hj ho hs
    rw [first_get N hj]
    have : (nodeAt N.nodes j).op = 4 := ho
    rw [this]
    simp
    by_cases e : (nodeAt N.nodes j).a = 1 <;> simp [e]
  · intro j hj hn ho hs
    have h1 := h.of j hj hn
    have h2 := h.regAt j hj hn ho hs
    rw [first_get N hj, first_get _ (by simp only [List.length_map]; omega)]
    have e : nodeAt (S.1.map (fixN S.2)) ((S.2.getD j 0).toNat : Nat) = fixN S.2 (nodeAt S.1 (S.2.getD j 0)) := by
      unfold nodeAt
      rw [Int.toNat_natCast, fixN_get _ _ (by omega)]
    simp only
    rw [e, h2]
    have : (nodeAt N.nodes j).op = 4 := ho
    rw [this]
    rfl
  · rintro R R' g ⟨hl, hl', hS, hr⟩
    have hv := hsem R R' g hS hr
    refine ⟨?_, by simp [Net.regs', Net.regsTo, hl], by simp [Net.regs', Net.regsTo, hl'], ?_, ?_⟩
    · unfold Net.outVals
      rw [List.map_map]
      apply List.ext_getElem?
      intro k
      by_cases hk : k < N.outs.length
      · simp only [List.getElem?_map, List.getElem?_eq_getElem hk, Option.map_some, Function.comp]
        have ho := hout k hk
        have e : N.outs.getD k 0 = N.outs[k] := by simp [List.getD_eq_getElem?_getD, hk]
        rw [e] at ho
        have := hv N.outs[k].toNat (by omega) ho.2.2
        rw [vals_vl, vals_vl]
        simp only
        rw [vl_fix, this]
        have : ((N.outs[k].toNat : Nat) : Int) = N.outs[k] := by omega
        rw [this]
      · rw [List.getElem?_eq_none (by simp; omega), List.getElem?_eq_none (by simp; omega)]
    · intro j hj ho hs
      rw [regs'_get N R g (by omega) hl, if_pos ho]
      have hk := node_all (Net.right_at hN hj)
      have hh : (nodeAt N.nodes j).op = 4 := ho
      have e : N.nodes.getD j GN.zero = nodeAt N.nodes j := rfl
      rw [e] at hk
      have hnx : 0 ≤ (nodeAt N.nodes j).next ∧ (nodeAt N.nodes j).next < (N.nodes.length : Int) := by omega
      have hs0 := hs
      unfold stillB at hs
      simp only [Bool.or_eq_true, Bool.and_eq_true, beq_iff_eq] at hs
      rcases hs with (hs | ⟨hs, ha⟩) | ⟨hs, ha⟩
      · rw [hs, vl_reg (by omega) (by omega) ho, Int.toNat_natCast]
        exact hS j hj ho hs0
      · rw [vl_zero hnx.1 hnx.2 hs, ha]
        rfl
      · rw [vl_one hnx.1 hnx.2 hs, ha]
        rfl
    · intro j hj hn ho hs
      have h1 := h.of j hj hn
      have h2 := h.regAt j hj hn ho hs
      have hk := node_all (Net.right_at hN hj)
      have hh : (nodeAt N.nodes j).op = 4 := ho
      have e0 : N.nodes.getD j GN.zero = nodeAt N.nodes j := rfl
      rw [e0] at hk
      have hnx : 0 ≤ (nodeAt N.nodes j).next ∧ (nodeAt N.nodes j).next < (N.nodes.length : Int) := by omega
      have hnn := (need_closed hN hd hj hn).1 ho
      rw [regs'_get N R g (by omega) hl, if_pos ho]
      rw [regs'_get _ R' g (by omega) (by simp only [List.length_map]; exact hl')]
      have e : nodeAt (S.1.map (fixN S.2)) ((S.2.getD j 0).toNat : Nat) = fixN S.2 (nodeAt S.1 (S.2.getD j 0)) := by
        unfold nodeAt
        rw [Int.toNat_natCast, fixN_get _ _ (by omega)]
      have eo : opAt (S.1.map (fixN S.2)) ((S.2.getD j 0).toNat : Nat) = 4 := by
        unfold opAt; rw [e, h2]; rfl
      simp only
      rw [if_pos eo, vl_fix, e, h2]
      have := hv (nodeAt N.nodes j).next.toNat (by omega) hnn
      have e3 : (((nodeAt N.nodes j).next.toNat : Nat) : Int) = (nodeAt N.nodes j).next := by omega
      rw [e3] at this
      exact this
end

/-- Made anew, with whatever list of what is needed. -/
def OnceOf (N N' : Net) : Prop := ∃ need, IsNeed N need ∧ N' = onceN N need
def CleanOf (N N' : Net) : Prop := ∃ A B C, OnceOf N A ∧ OnceOf A B ∧ OnceOf B C ∧ OnceOf C N'
theorem OnceOf.same {N N' : Net} (hN : N.right = true) (h : OnceOf N N') : SameAs N N' := by
  obtain ⟨need, hd, rfl⟩ := h
  exact once_same hN hd
theorem CleanOf.same {N N' : Net} (hN : N.right = true) (h : CleanOf N N') : SameAs N N' := by
  obtain ⟨A, B, C, h1, h2, h3, h4⟩ := h
  have s1 := h1.same hN
  have s2 := h2.same s1.right
  have s3 := h3.same s2.right
  have s4 := h4.same s3.right
  exact ((s1.trans s2).trans s3).trans s4
theorem need_unique {N : Net} {l m : List Bool} (h : IsNeed N l) (h' : IsNeed N m) : l = m := by
  apply List.ext_getElem
  · rw [h.len, h'.len]
  · intro i h1 h2
    have hi : i < N.nodes.length := by rw [← h.len]; exact h1
    have a := h.is i hi
    have b := h'.is i hi
    simp only [List.getD_eq_getElem?_getD, List.getElem?_eq_getElem h1, List.getElem?_eq_getElem h2, Option.getD_some] at a b
    rw [Bool.eq_iff_iff]
    exact a.trans b.symm
theorem OnceOf.unique {N A B : Net} (h : OnceOf N A) (h' : OnceOf N B) : A = B := by
  obtain ⟨l, h1, rfl⟩ := h
  obtain ⟨m, h2, rfl⟩ := h'
  rw [need_unique h1 h2]
theorem CleanOf.unique {N A B : Net} (h : CleanOf N A) (h' : CleanOf N B) : A = B := by
  obtain ⟨A1, A2, A3, h1, h2, h3, h4⟩ := h
  obtain ⟨B1, B2, B3, k1, k2, k3, k4⟩ := h'
  obtain rfl := h1.unique k1
  obtain rfl := h2.unique k2
  obtain rfl := h3.unique k3
  exact h4.unique k4
end Go.Proofs.Ytlaeflpddehipaa
