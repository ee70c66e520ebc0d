/- clean.Clean, plain: a net that keeps nothing, beside itself. -/
import Derived.Test.YtlaeflpddehipaaCleanDup
set_option linter.unusedVariables false
set_option linter.unusedSectionVars false
namespace Go.Proofs.Ytlaeflpddehipaa
open Go.RowKit

section
variable {N : Net} (hN : N.right = true) (hr : NoReg N.nodes)

theorem bs_len : (N.beside N true).nodes.length = N.nodes.length + N.nodes.length := Net.beside_nodes N N true
theorem bs_old {k : Nat} (h : k < N.nodes.length) : nodeAt (N.beside N true).nodes k = nodeAt N.nodes k := by
  unfold nodeAt
  rw [Int.toNat_natCast]
  exact Net.beside_old N N true h
theorem bs_new {k : Nat} (h : k < N.nodes.length) : nodeAt (N.beside N true).nodes ((N.nodes.length + k : Nat) : Int) = (nodeAt N.nodes k).move N.nodes.length 0 := by
  unfold nodeAt
  rw [Int.toNat_natCast, Int.toNat_natCast]
  exact Net.beside_new N N true h
theorem move_op (k s : Int) (x : GN) : (x.move k s).op = x.op := by
  unfold GN.move
  split
  · rfl
  · split
    · rfl
    · split
      · rfl
      · split <;> rfl
theorem bs_op {k : Nat} (h : k < N.nodes.length) : opAt (N.beside N true).nodes ((N.nodes.length + k : Nat) : Int) = opAt N.nodes k := by
  unfold opAt
  rw [bs_new h, move_op]
theorem bs_opOld {k : Nat} (h : k < N.nodes.length) : opAt (N.beside N true).nodes k = opAt N.nodes k := by
  unfold opAt
  rw [bs_old h]
theorem move_a {x : GN} (k : Int) (h : 5 ≤ x.op ∧ x.op ≤ 8) : (x.move k 0).a = x.a + k := by
  unfold GN.move
  rw [if_neg (by omega), if_neg (by omega)]
  by_cases h8 : x.op = 8
  · rw [if_pos h8]
  · rw [if_neg h8, if_pos (by omega)]
theorem move_b {x : GN} (k : Int) (h : 5 ≤ x.op ∧ x.op ≤ 7) : (x.move k 0).b = x.b + k := by
  unfold GN.move
  rw [if_neg (by omega), if_neg (by omega), if_neg (by omega), if_pos (by omega)]

include hN hr
theorem node_ops {k : Nat} (hk : k < N.nodes.length) : ((opAt N.nodes k = 1 ∨ opAt N.nodes k = 2 ∨ opAt N.nodes k = 3) ∨ opAt N.nodes k = 8 ∨ opAt N.nodes k = 5 ∨ opAt N.nodes k = 6 ∨ opAt N.nodes k = 7) ∧
    (5 ≤ opAt N.nodes k ∧ opAt N.nodes k ≤ 8 → 0 ≤ (nodeAt N.nodes k).a ∧ (nodeAt N.nodes k).a < (k : Int)) ∧ (5 ≤ opAt N.nodes k ∧ opAt N.nodes k ≤ 7 → 0 ≤ (nodeAt N.nodes k).b ∧ (nodeAt N.nodes k).b < (k : Int)) := by
  have hq := node_all (Net.right_at hN hk)
  have h4 := hr k hk
  have e : N.nodes.getD k GN.zero = nodeAt N.nodes k := rfl
  rw [e] at hq h4
  show (((nodeAt N.nodes k).op = 1 ∨ (nodeAt N.nodes k).op = 2 ∨ (nodeAt N.nodes k).op = 3) ∨ (nodeAt N.nodes k).op = 8 ∨ (nodeAt N.nodes k).op = 5 ∨ (nodeAt N.nodes k).op = 6 ∨ (nodeAt N.nodes k).op = 7) ∧ (5 ≤ (nodeAt N.nodes k).op ∧ (nodeAt N.nodes k).op ≤ 8 → _) ∧ (5 ≤ (nodeAt N.nodes k).op ∧ (nodeAt N.nodes k).op ≤ 7 → _)
  omega

theorem reach_right {i : Nat} (h : Reach N i) : i < N.nodes.length ∧ Reach (N.beside N true) i ∧ Reach (N.beside N true) (N.nodes.length + i) := by
  induction h with
  | out k h =>
    have ho := Net.out_at hN h
    refine ⟨by omega, ?_, ?_⟩
    · have := Reach.out (N := N.beside N true) k (by rw [Net.beside_outs]; omega)
      rw [Net.beside_out_old N N true h] at this
      exact this
    · have := Reach.out (N := N.beside N true) (N.outs.length + k) (by rw [Net.beside_outs]; omega)
      rw [Net.beside_out_new N N true h] at this
      have e : (N.outs.getD k 0 + (N.nodes.length : Int)).toNat = N.nodes.length + (N.outs.getD k 0).toNat := by omega
      rw [e] at this
      exact this
  | @reg i _ ho ih =>
    have := (node_ops hN hr ih.1).1
    omega
  | @one i _ ho ih =>
    have hq := (node_ops hN hr ih.1).2.1 ho
    refine ⟨by omega, ?_, ?_⟩
    · have := Reach.one ih.2.1 (by rw [bs_opOld ih.1]; exact ho)
      rw [bs_old ih.1] at this
      exact this
    · have := Reach.one ih.2.2 (by rw [bs_op ih.1]; exact ho)
      rw [bs_new ih.1, move_a _ ho] at this
      have e : ((nodeAt N.nodes i).a + (N.nodes.length : Int)).toNat = N.nodes.length + (nodeAt N.nodes i).a.toNat := by omega
      rw [e] at this
      exact this
  | @two i _ ho ih =>
    have hq := (node_ops hN hr ih.1).2.2 ho
    refine ⟨by omega, ?_, ?_⟩
    · have := Reach.two ih.2.1 (by rw [bs_opOld ih.1]; exact ho)
      rw [bs_old ih.1] at this
      exact this
    · have := Reach.two ih.2.2 (by rw [bs_op ih.1]; exact ho)
      rw [bs_new ih.1, move_b _ ho] at this
      have e : ((nodeAt N.nodes i).b + (N.nodes.length : Int)).toNat = N.nodes.length + (nodeAt N.nodes i).b.toNat := by omega
      rw [e] at this
      exact this
/-- Where a place of the net beside itself comes from. -/
def From (N : Net) (i : Nat) : Prop := ∃ k, k < N.nodes.length ∧ (i = k ∨ i = N.nodes.length + k) ∧ Reach N k
theorem reach_left {i : Nat} (h : Reach (N.beside N true) i) : From N i := by
  induction h with
  | out k h =>
    rw [Net.beside_outs] at h
    by_cases hk : k < N.outs.length
    · have ho := Net.out_at hN hk
      rw [Net.beside_out_old N N true hk]
      exact ⟨_, by omega, .inl rfl, Reach.out k hk⟩
    · obtain ⟨j, rfl⟩ : ∃ j, k = N.outs.length + j := ⟨k - N.outs.length, by omega⟩
      have hj : j < N.outs.length := by omega
      have ho := Net.out_at hN hj
      rw [Net.beside_out_new N N true hj]
      exact ⟨(N.outs.getD j 0).toNat, by omega, .inr (by omega), Reach.out j hj⟩
  | @reg i _ ho ih =>
    obtain ⟨k, hk, hi, hR⟩ := ih
    have hq := (node_ops hN hr hk).1
    rcases hi with rfl | rfl
    · rw [bs_opOld hk] at ho; omega
    · rw [bs_op hk] at ho; omega
  | @one i _ ho ih =>
    obtain ⟨k, hk, hi, hR⟩ := ih
    have hq := (node_ops hN hr hk).2.1
    rcases hi with rfl | rfl
    · rw [bs_opOld hk] at ho
      rw [bs_old hk]
      have := hq ho
      exact ⟨_, by omega, .inl rfl, Reach.one hR ho⟩
    · rw [bs_op hk] at ho
      rw [bs_new hk, move_a _ ho]
      have := hq ho
      exact ⟨(nodeAt N.nodes k).a.toNat, by omega, .inr (by omega), Reach.one hR ho⟩
  | @two i _ ho ih =>
    obtain ⟨k, hk, hi, hR⟩ := ih
    have hq := (node_ops hN hr hk).2.2
    rcases hi with rfl | rfl
    · rw [bs_opOld hk] at ho
      rw [bs_old hk]
      have := hq ho
      exact ⟨_, by omega, .inl rfl, Reach.two hR ho⟩
    · rw [bs_op hk] at ho
      rw [bs_new hk, move_b _ ho]
      have := hq ho
      exact ⟨(nodeAt N.nodes k).b.toNat, by omega, .inr (by omega), Reach.two hR ho⟩

variable {need nb : List Bool} (hd : IsNeed N need) (hb : IsNeed (N.beside N true) nb)
include hd hb
theorem need_old {k : Nat} (hk : k < N.nodes.length) : (nb.getD k false = true ↔ need.getD k false = true) := by
  rw [hd.is k hk, hb.is k (by rw [bs_len]; omega)]
  constructor
  · intro h
    obtain ⟨j, hj, hi, hR⟩ := reach_left hN hr h
    rcases hi with rfl | rfl
    · exact hR
    · omega
  · intro h; exact (reach_right hN hr h).2.1
theorem need_new {k : Nat} (hk : k < N.nodes.length) : (nb.getD (N.nodes.length + k) false = true ↔ need.getD k false = true) := by
  rw [hd.is k hk, hb.is _ (by rw [bs_len]; omega)]
  constructor
  · intro h
    obtain ⟨j, hj, hi, hR⟩ := reach_left hN hr h
    rcases hi with e | e
    · omega
    · have : j = k := by omega
      subst this
      exact hR
  · intro h; exact (reach_right hN hr h).2.2

omit hb hr in
theorem steps_stable (k : Nat) : ∀ d : Nat, k + d ≤ N.nodes.length → Grows (stepsM N need k).1 (stepsM N need (k + d)).1 ∧ ∀ j : Nat, j < k → (stepsM N need (k + d)).2.getD j 0 = (stepsM N need k).2.getD j 0 := by
  intro d
  induction d with
  | zero => intro _; exact ⟨Grows.refl _, fun _ _ => rfl⟩
  | succ d ih =>
    intro hk
    obtain ⟨g, h⟩ := ih (by omega)
    have hinv := inv_all hN hd (k + d) (by omega)
    have e : stepsM N need (k + (d + 1)) = stepM N need (k + d) (stepsM N need (k + d)) := rfl
    rw [e]
    unfold stepM
    by_cases hn : need.getD (k + d) false = true
    · rw [if_pos hn]
      have hm := (nodeM_made hN hd hinv (by omega) hn).1
      refine ⟨g.trans hm.gr, fun j hj => ?_⟩
      simp only
      rw [← h j hj]
      simp [List.getD_eq_getElem?_getD, List.getElem?_set_ne (show k + d ≠ j by omega)]
    · rw [if_neg hn]; exact ⟨g, h⟩

omit hb in
/-- What a place is, once it was made. -/
theorem steps_place {i : Nat} (hi : i < N.nodes.length) (hn : need.getD i false = true) : (stepsM N need N.nodes.length).2.getD i 0 = (nodeM N i (stepsM N need i).1 (stepsM N need i).2).2 ∧ Grows (nodeM N i (stepsM N need i).1 (stepsM N need i).2).1 (stepsM N need N.nodes.length).1 := by
  have hs := steps_stable hN hd (i + 1) (N.nodes.length - (i + 1)) (by omega)
  rw [show i + 1 + (N.nodes.length - (i + 1)) = N.nodes.length by omega] at hs
  have hinv := inv_all hN hd i (by omega)
  have e : stepsM N need (i + 1) = stepM N need i (stepsM N need i) := rfl
  rw [e] at hs
  unfold stepM at hs
  rw [if_pos hn] at hs
  refine ⟨?_, hs.1⟩
  rw [hs.2 i (by omega)]
  have := hinv.olen
  simp [List.getD_eq_getElem?_getD, List.getElem?_set_self (show i < (stepsM N need i).2.length by omega)]

omit hb in
theorem nodeM_same {i : Nat} (hi : i < N.nodes.length) (hn : need.getD i false = true) (M : List GN) (of ofB : List Int) (h : ∀ j : Nat, j < i → need.getD j false = true → ofB.getD j 0 = of.getD j 0) :
    nodeM (N.beside N true) i M ofB = nodeM N i M of := by
  have ho := node_ops hN hr hi
  have hc := need_closed hN hd hi hn
  unfold nodeM
  rw [bs_old hi]
  have eo : opAt N.nodes i = (nodeAt N.nodes i).op := rfl
  rw [eo] at ho hc
  simp only
  split
  · rfl
  · split
    · rfl
    · split
      · rfl
      · split
        · omega
        · split
          · have := ho.2.1 (by omega)
            rw [h _ (by omega) (hc.2.1 (by omega))]
          · have h1 := ho.2.1 (by omega)
            have h2 := ho.2.2 (by omega)
            rw [h _ (by omega) (hc.2.1 (by omega)), h _ (by omega) (hc.2.2 (by omega))]
omit hb in
theorem nodeM_again {i : Nat} (hi : i < N.nodes.length) (hn : need.getD i false = true) {M2 : List GN} (hg : Grows (nodeM N i (stepsM N need i).1 (stepsM N need i).2).1 M2) (h2 : Once M2) (ofB : List Int) (h : ∀ j : Nat, j < i → need.getD j false = true → ofB.getD (N.nodes.length + j) 0 = (stepsM N need i).2.getD j 0) :
    nodeM (N.beside N true) (N.nodes.length + i) M2 ofB = (M2, (nodeM N i (stepsM N need i).1 (stepsM N need i).2).2) := by
  have ho := node_ops hN hr hi
  have hc := need_closed hN hd hi hn
  have hinv := inv_all hN hd i (by omega)
  have hA := hinv.right.ahead
  generalize stepsM N need i = S at *
  have eo : opAt N.nodes i = (nodeAt N.nodes i).op := rfl
  have hmo := move_op N.nodes.length 0 (nodeAt N.nodes i)
  unfold nodeM at hg ⊢
  rw [bs_new hi]
  rw [eo] at ho hc
  simp only at hg ⊢
  rw [hmo]
  by_cases o1 : (nodeAt N.nodes i).op = 1
  · rw [if_pos o1] at hg ⊢
    rw [if_pos o1]
    exact mkN_again (by decide) hg h2
  · rw [if_neg o1] at hg ⊢
    rw [if_neg o1]
    by_cases o2 : (nodeAt N.nodes i).op = 2
    · rw [if_pos o2] at hg ⊢
      rw [if_pos o2]
      exact mkN_again (by decide) hg h2
    · rw [if_neg o2] at hg ⊢
      rw [if_neg o2]
      by_cases o3 : (nodeAt N.nodes i).op = 3
      · rw [if_pos o3] at hg ⊢
        rw [if_pos o3]
        have e : ((nodeAt N.nodes i).move N.nodes.length 0).a = (nodeAt N.nodes i).a := by
          unfold GN.move
          rw [if_pos o3]
          simp
        rw [e]
        exact mkN_again (by simp) hg h2
      · rw [if_neg o3] at hg ⊢
        rw [if_neg o3]
        by_cases o4 : (nodeAt N.nodes i).op = 4
        · omega
        · rw [if_neg o4] at hg ⊢
          rw [if_neg o4]
          have h1 := ho.2.1 (by omega)
          have hca := hc.2.1 (by omega)
          have ha := hinv.of (nodeAt N.nodes i).a.toNat (by omega) hca
          have ea : ofB.getD ((nodeAt N.nodes i).move N.nodes.length 0).a.toNat 0 = S.2.getD (nodeAt N.nodes i).a.toNat 0 := by
            rw [move_a _ (by omega), ← h _ (by omega) hca]
            congr 1
            omega
          rw [ea]
          by_cases o8 : (nodeAt N.nodes i).op = 8
          · rw [if_pos o8] at hg ⊢
            rw [if_pos o8]
            exact mNot_again hA ha.1 ha.2 hg h2
          · rw [if_neg o8] at hg ⊢
            rw [if_neg o8]
            have h3 := ho.2.2 (by omega)
            have hcb := hc.2.2 (by omega)
            have hbb := hinv.of (nodeAt N.nodes i).b.toNat (by omega) hcb
            have eb : ofB.getD ((nodeAt N.nodes i).move N.nodes.length 0).b.toNat 0 = S.2.getD (nodeAt N.nodes i).b.toNat 0 := by
              rw [move_b _ (by omega), ← h _ (by omega) hcb]
              congr 1
              omega
            rw [eb]
            exact mTwo_again hA (by omega) ha.1 ha.2 hbb.1 hbb.2 hg h2

theorem first_half (k : Nat) (hk : k ≤ N.nodes.length) : (stepsM (N.beside N true) nb k).1 = (stepsM N need k).1 ∧ (stepsM (N.beside N true) nb k).2.length = N.nodes.length + N.nodes.length ∧ ∀ j : Nat, j < k → need.getD j false = true → (stepsM (N.beside N true) nb k).2.getD j 0 = (stepsM N need k).2.getD j 0 := by
  induction k with
  | zero => exact ⟨rfl, by simp [stepsM, bs_len], fun j hj => by omega⟩
  | succ k ih =>
    obtain ⟨h1, h2, h3⟩ := ih (by omega)
    have hno := need_old hN hr hd hb (show k < N.nodes.length by omega)
    have hol := (inv_all hN hd k (by omega)).olen
    have e1 : stepsM (N.beside N true) nb (k + 1) = stepM (N.beside N true) nb k (stepsM (N.beside N true) nb k) := rfl
    have e2 : stepsM N need (k + 1) = stepM N need k (stepsM N need k) := rfl
    rw [e1, e2]
    unfold stepM
    by_cases hn : need.getD k false = true
    · rw [if_pos hn, if_pos (hno.2 hn), h1, nodeM_same hN hr hd (by omega) hn _ (stepsM N need k).2 _ h3]
      refine ⟨rfl, by simpa using h2, fun j hj hnj => ?_⟩
      simp only
      by_cases e : j = k
      · subst e
        simp [List.getD_eq_getElem?_getD, List.getElem?_set_self (show j < (stepsM N need j).2.length by omega), List.getElem?_set_self (show j < (stepsM (N.beside N true) nb j).2.length by omega)]
      · have := h3 j (by omega) hnj
        simp only [List.getD_eq_getElem?_getD] at this
        simp [List.getD_eq_getElem?_getD, List.getElem?_set_ne (show k ≠ j by omega), this]
    · rw [if_neg hn, if_neg (fun h => hn (hno.1 h))]
      refine ⟨h1, h2, fun j hj hnj => ?_⟩
      by_cases e : j = k
      · subst e; exact absurd hnj hn
      · exact h3 j (by omega) hnj
theorem second_half (k : Nat) (hk : k ≤ N.nodes.length) : (stepsM (N.beside N true) nb (N.nodes.length + k)).1 = (stepsM N need N.nodes.length).1 ∧ (stepsM (N.beside N true) nb (N.nodes.length + k)).2.length = N.nodes.length + N.nodes.length ∧
    (∀ j : Nat, j < N.nodes.length → need.getD j false = true → (stepsM (N.beside N true) nb (N.nodes.length + k)).2.getD j 0 = (stepsM N need N.nodes.length).2.getD j 0) ∧
    ∀ j : Nat, j < k → need.getD j false = true → (stepsM (N.beside N true) nb (N.nodes.length + k)).2.getD (N.nodes.length + j) 0 = (stepsM N need N.nodes.length).2.getD j 0 := by
  induction k with
  | zero =>
    obtain ⟨h1, h2, h3⟩ := first_half hN hr hd hb N.nodes.length (Nat.le_refl _)
    exact ⟨h1, h2, h3, fun j hj => by omega⟩
  | succ k ih =>
    obtain ⟨h1, h2, h3, h4⟩ := ih (by omega)
    have hk' : k < N.nodes.length := by omega
    have hno := need_new hN hr hd hb hk'
    have hinv := inv_all hN hd N.nodes.length (Nat.le_refl _)
    have e1 : stepsM (N.beside N true) nb (N.nodes.length + (k + 1)) = stepM (N.beside N true) nb (N.nodes.length + k) (stepsM (N.beside N true) nb (N.nodes.length + k)) := rfl
    rw [e1]
    unfold stepM
    by_cases hn : need.getD k false = true
    · obtain ⟨p1, p2⟩ := steps_place hN hr hd hk' hn
      have hst := steps_stable hN hd k (N.nodes.length - k) (by omega)
      rw [show k + (N.nodes.length - k) = N.nodes.length by omega] at hst
      rw [if_pos (hno.2 hn), h1, nodeM_again hN hr hd hk' hn p2 hinv.once _ (fun j hj hnj => by rw [h4 j hj hnj, hst.2 j hj])]
      refine ⟨rfl, by simpa using h2, fun j hj hnj => ?_, fun j hj hnj => ?_⟩
      · have := h3 j hj hnj
        simp only [List.getD_eq_getElem?_getD] at this ⊢
        rw [List.getElem?_set_ne (by omega), this]
      · by_cases e : j = k
        · subst e
          rw [p1]
          simp [List.getD_eq_getElem?_getD, List.getElem?_set_self (show N.nodes.length + j < (stepsM (N.beside N true) nb (N.nodes.length + j)).2.length by omega)]
        · have := h4 j (by omega) hnj
          simp only [List.getD_eq_getElem?_getD] at this ⊢
          rw [List.getElem?_set_ne (by omega), this]
    · rw [if_neg (fun h => hn (hno.1 h))]
      refine ⟨h1, h2, h3, fun j hj hnj => ?_⟩
      by_cases e : j = k
      · subst e; exact absurd hnj hn
      · exact h4 j (by omega) hnj
theorem once_beside : onceN (N.beside N true) nb = (onceN N need).dup := by
  obtain ⟨h1, h2, h3, h4⟩ := second_half hN hr hd hb N.nodes.length (Nat.le_refl _)
  have hnr := steps_noReg hr need N.nodes.length (Nat.le_refl _)
  unfold onceN
  rw [bs_len, h1, fixN_noReg hnr, fixN_noReg hnr]
  unfold Net.dup
  simp only [Net.mk.injEq]
  refine ⟨?_, trivial, ?_⟩
  · show max N.given N.given = N.given
    omega
  · show (N.outs ++ N.outs.map (· + (N.nodes.length : Int))).map _ = _
    rw [List.map_append, List.map_map]
    congr 1
    · refine List.map_congr_left fun k hk => ?_
      obtain ⟨i, hi, rfl⟩ := List.mem_iff_getElem.1 hk
      have ho := Net.out_at hN hi
      have hn := need_out hN hd hi
      have e : N.outs.getD i 0 = N.outs[i] := by simp [List.getD_eq_getElem?_getD, hi]
      rw [e] at ho hn
      exact h3 _ (by omega) hn
    · refine List.map_congr_left fun k hk => ?_
      obtain ⟨i, hi, rfl⟩ := List.mem_iff_getElem.1 hk
      have ho := Net.out_at hN hi
      have hn := need_out hN hd hi
      have e : N.outs.getD i 0 = N.outs[i] := by simp [List.getD_eq_getElem?_getD, hi]
      rw [e] at ho hn
      have := h4 N.outs[i].toNat (by omega) hn
      simp only [Function.comp]
      rw [← this]
      congr 1
      omega
end

theorem dup_gates (N : Net) : N.dup.gates = N.gates := rfl
theorem dup_outs (N : Net) : N.dup.outs.length = 2 * N.outs.length := by simp [Net.dup]; omega
/-- WHAT IS THERE TWICE IS THERE ONCE. -/
theorem clean_beside {N A B : Net} (hN : N.right = true) (hr : NoReg N.nodes) (ha : CleanOf N A) (hb : CleanOf (N.beside N true) B) : B.gates = A.gates ∧ B.outs.length = 2 * N.outs.length := by
  have hs := ha.same hN
  obtain ⟨A1, A2, A3, h1, h2, h3, h4⟩ := ha
  have hc : CleanOf (N.beside N true) A.dup := by
    refine ⟨A1.dup, A2.dup, A3.dup, ?_, once_dup h2, once_dup h3, once_dup h4⟩
    obtain ⟨need, hd, rfl⟩ := h1
    obtain ⟨nb, hnb⟩ := need_exists (N.beside N true)
    exact ⟨nb, hnb, (once_beside hN hr hd hnb).symm⟩
  have e := hb.unique hc
  subst e
  refine ⟨dup_gates A, ?_⟩
  rw [dup_outs, hs.outs]
end Go.Proofs.Ytlaeflpddehipaa
