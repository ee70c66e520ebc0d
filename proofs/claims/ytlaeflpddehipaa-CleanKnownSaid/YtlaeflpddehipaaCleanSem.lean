/- clean.Clean, plain: a net that is made anew lets out the same. -/
import Derived.Test.YtlaeflpddehipaaCleanInv
set_option linter.unusedVariables false
namespace Go.Proofs.Ytlaeflpddehipaa
open Go.RowKit

/-! ### values of a row of nodes -/
def rowNet (M : List GN) : Net := ⟨0, M, []⟩
def vl (M : List GN) (R g : List Bool) (k : Int) : Bool := ((rowNet M).valsTo R g M.length).getD k.toNat false
theorem valsTo_row (N : Net) (R g : List Bool) (k : Nat) : N.valsTo R g k = (rowNet N.nodes).valsTo R g k := by
  induction k with
  | zero => rfl
  | succ k ih => unfold Net.valsTo; rw [ih]; rfl
theorem vl_eq {M : List GN} {R g : List Bool} {k : Int} (h0 : 0 ≤ k) (hk : k < (M.length : Int)) : vl M R g k = valOf (nodeAt M k) (R.getD k.toNat false) g ((rowNet M).valsTo R g k.toNat) := by
  unfold vl
  rw [Net.valsTo_get _ _ _ _ _ (by omega)]
  rfl
theorem pre_eq {M : List GN} {R g : List Bool} {k a : Int} (h0 : 0 ≤ a) (ha : a < k) (hk : k < (M.length : Int)) : ((rowNet M).valsTo R g k.toNat).getD a.toNat false = vl M R g a := by
  unfold vl
  exact Net.valsTo_same _ _ _ _ _ _ (by omega) (by omega)
theorem valsTo_grows {M M' : List GN} (h : Grows M M') (R g : List Bool) (k : Nat) (hk : k ≤ M.length) : (rowNet M').valsTo R g k = (rowNet M).valsTo R g k := by
  induction k with
  | zero => rfl
  | succ k ih =>
    unfold Net.valsTo
    rw [ih (by omega)]
    have := h.at (k := (k : Int)) (by omega) (by omega)
    unfold nodeAt at this
    simp only [Int.toNat_natCast] at this
    show _ ++ [valOf (M'.getD k GN.zero) _ _ _] = _ ++ [valOf (M.getD k GN.zero) _ _ _]
    rw [this]
theorem vl_grows {M M' : List GN} (h : Grows M M') (R g : List Bool) {k : Int} (h0 : 0 ≤ k) (hk : k < (M.length : Int)) : vl M' R g k = vl M R g k := by
  have := h.len
  unfold vl
  rw [← valsTo_grows h R g M.length (Nat.le_refl _)]
  exact Net.valsTo_same _ _ _ _ _ _ (by omega) (by omega)

section
variable {M : List GN} {R g : List Bool} {k : Int} (h0 : 0 ≤ k) (hk : k < (M.length : Int))
include h0 hk
theorem vl_zero (h : opAt M k = 1) : vl M R g k = false := by
  rw [vl_eq h0 hk]; unfold opAt at h; unfold valOf; simp [h]
theorem vl_one (h : opAt M k = 2) : vl M R g k = true := by
  rw [vl_eq h0 hk]; unfold opAt at h; unfold valOf; simp [h]
theorem vl_in (h : opAt M k = 3) : vl M R g k = g.getD (nodeAt M k).a.toNat false := by
  rw [vl_eq h0 hk]; unfold opAt at h; unfold valOf; simp [h]
theorem vl_reg (h : opAt M k = 4) : vl M R g k = R.getD k.toNat false := by
  rw [vl_eq h0 hk]; unfold opAt at h; unfold valOf; simp [h]
theorem vl_not (h : opAt M k = 8) (ha : 0 ≤ (nodeAt M k).a ∧ (nodeAt M k).a < k) : vl M R g k = !vl M R g (nodeAt M k).a := by
  rw [vl_eq h0 hk, ← pre_eq ha.1 ha.2 hk]; unfold opAt at h; unfold valOf; simp [h]
/-- What a gate of two does. -/
def gv (op : Int) (x y : Bool) : Bool := if op = 5 then x && y else if op = 6 then x || y else x != y
theorem vl_two (h : opAt M k = 5 ∨ opAt M k = 6 ∨ opAt M k = 7) (ha : 0 ≤ (nodeAt M k).a ∧ (nodeAt M k).a < k) (hb : 0 ≤ (nodeAt M k).b ∧ (nodeAt M k).b < k) : vl M R g k = gv (opAt M k) (vl M R g (nodeAt M k).a) (vl M R g (nodeAt M k).b) := by
  rw [vl_eq h0 hk, ← pre_eq ha.1 ha.2 hk, ← pre_eq hb.1 hb.2 hk]
  unfold opAt at h ⊢
  unfold valOf gv
  rcases h with h | h | h <;> simp [h]
end
theorem gv_comm (op : Int) (x y : Bool) : gv op x y = gv op y x := by
  unfold gv
  split
  · cases x <;> cases y <;> rfl
  · split <;> cases x <;> cases y <;> rfl

theorem op_of {r : List GN × Int} {x : GN} (h : nodeAt r.1 r.2 = x) : opAt r.1 r.2 = x.op := by unfold opAt; rw [h]
theorem mkN_zero_vl (M : List GN) (R g : List Bool) : vl (mkN M zeroN).1 R g (mkN M zeroN).2 = false :=
  vl_zero (mkN_made M zeroN).lo (mkN_made M zeroN).hi (op_of (mkN_at M zeroN))
theorem mkN_one_vl (M : List GN) (R g : List Bool) : vl (mkN M oneN).1 R g (mkN M oneN).2 = true :=
  vl_one (mkN_made M oneN).lo (mkN_made M oneN).hi (op_of (mkN_at M oneN))
theorem mkN_not_vl {M : List GN} (R g : List Bool) {G : Int} {m : Nat} (hR : AllRight G m M) {a : Int} (h0 : 0 ≤ a) (h1 : a < (M.length : Int)) : vl (mkN M ⟨8, a, 0, 0⟩).1 R g (mkN M ⟨8, a, 0, 0⟩).2 = !vl M R g a := by
  have hm := mkN_made M ⟨8, a, 0, 0⟩
  have ha := mkN_at M ⟨8, a, 0, 0⟩
  have hA := (hR.mkN (right_not (g := G) (m := m) h0 h1)).ahead
  have := hA.not hm.lo hm.hi (op_of ha)
  rw [vl_not hm.lo hm.hi (op_of ha) this, ha]
  simp only
  rw [vl_grows hm.gr R g h0 h1]
theorem mNot_vl {M : List GN} (R g : List Bool) {G : Int} {m : Nat} (hR : AllRight G m M) {a : Int} (h0 : 0 ≤ a) (h1 : a < (M.length : Int)) : vl (mNot M a).1 R g (mNot M a).2 = !vl M R g a := by
  unfold mNot
  split
  · rename_i h; rw [mkN_one_vl, vl_zero h0 h1 h]; rfl
  · split
    · rename_i h; rw [mkN_zero_vl, vl_one h0 h1 h]; rfl
    · split
      · rename_i h
        have := hR.ahead.not h0 h1 h
        rw [vl_not h0 h1 h this, Bool.not_not]
      · exact mkN_not_vl R g hR h0 h1
theorem turned_vl {M : List GN} (R g : List Bool) {G : Int} {m : Nat} (hR : AllRight G m M) {a b : Int} (h0 : 0 ≤ a) (h1 : a < (M.length : Int)) (h2 : 0 ≤ b) (h3 : b < (M.length : Int)) (h : turnedB M a b = true) : vl M R g a = !vl M R g b := by
  unfold turnedB at h
  simp only [Bool.or_eq_true, Bool.and_eq_true, beq_iff_eq] at h
  rcases h with ⟨ho, e⟩ | ⟨ho, e⟩
  · rw [vl_not h0 h1 ho (hR.ahead.not h0 h1 ho), e]
  · rw [vl_not h2 h3 ho (hR.ahead.not h2 h3 ho), e, Bool.not_not]
theorem mTwo1_vl {M : List GN} (R g : List Bool) {G : Int} {m : Nat} (hR : AllRight G m M) {op a b : Int} (ho : op = 5 ∨ op = 6 ∨ op = 7) (h0 : 0 ≤ a) (h1 : a < (M.length : Int)) (h2 : 0 ≤ b) (h3 : b < (M.length : Int)) :
    vl (mTwo1 M op a b).1 R g (mTwo1 M op a b).2 = gv op (vl M R g a) (vl M R g b) := by
  unfold mTwo1
  split
  · rename_i h
    rcases h with ⟨hc, rfl⟩ | ⟨hc, rfl⟩
    · rw [vl_zero h0 h1 hc]; rfl
    · rw [vl_one h0 h1 hc]; rfl
  · rename_i n1
    split
    · rename_i h
      rcases h with ⟨hc, rfl⟩ | ⟨hc, hne⟩
      · rw [vl_one h0 h1 hc]; simp [gv]
      · rw [vl_zero h0 h1 hc]
        rcases ho with rfl | rfl | rfl
        · exact absurd rfl hne
        · simp [gv]
        · simp [gv]
    · rename_i n2
      split
      · rename_i hc
        have h7 : op = 7 := by
          rcases ho with rfl | rfl | rfl
          · exact absurd (.inl ⟨hc, rfl⟩) n2
          · exact absurd (.inr ⟨hc, rfl⟩) n1
          · rfl
        subst h7
        rw [mNot_vl R g hR h2 h3, vl_one h0 h1 hc]
        simp [gv]
      · split
        · rename_i h
          rw [mkN_zero_vl]
          rcases h with ⟨rfl, rfl⟩ | ⟨ht, rfl⟩
          · simp [gv]
          · rw [turned_vl R g hR h0 h1 h2 h3 ht]
            simp [gv]
        · rename_i n4
          split
          · rename_i e
            subst e
            rcases ho with rfl | rfl | rfl
            · simp [gv]
            · simp [gv]
            · exact absurd (.inl ⟨rfl, rfl⟩) n4
          · split
            · rename_i ht
              rw [mkN_one_vl, turned_vl R g hR h0 h1 h2 h3 ht]
              rcases ho with rfl | rfl | rfl
              · exact absurd (.inr ⟨ht, rfl⟩) n4
              · simp [gv]
              · simp [gv]
            · have hm := mkN_made M ⟨op, a, b, 0⟩
              have ha := mkN_at M ⟨op, a, b, 0⟩
              have hA := (hR.mkN (right_two (g := G) (m := m) ho h0 h1 h2 h3)).ahead
              have hlt := hm.lo
              have hi := hm.hi
              have hq := hA (mkN M ⟨op, a, b, 0⟩).2.toNat (by omega) (by
                have : (mkN M ⟨op, a, b, 0⟩).1.getD (mkN M ⟨op, a, b, 0⟩).2.toNat GN.zero = ⟨op, a, b, 0⟩ := ha
                rw [this]; simp only; omega)
              have e : (mkN M ⟨op, a, b, 0⟩).1.getD (mkN M ⟨op, a, b, 0⟩).2.toNat GN.zero = ⟨op, a, b, 0⟩ := ha
              rw [e] at hq
              simp only at hq
              have hop := op_of ha
              simp only at hop
              rw [vl_two hlt hi (by rw [hop]; exact ho) (by rw [ha]; simp only; omega) (by rw [ha]; simp only; have := hq.2 (by omega); omega), hop, ha]
              simp only
              rw [vl_grows hm.gr R g h0 h1, vl_grows hm.gr R g h2 h3]
theorem mTwo_vl {M : List GN} (R g : List Bool) {G : Int} {m : Nat} (hR : AllRight G m M) {op a b : Int} (ho : op = 5 ∨ op = 6 ∨ op = 7) (h0 : 0 ≤ a) (h1 : a < (M.length : Int)) (h2 : 0 ≤ b) (h3 : b < (M.length : Int)) :
    vl (mTwo M op a b).1 R g (mTwo M op a b).2 = gv op (vl M R g a) (vl M R g b) := by
  unfold mTwo
  split
  · rw [mTwo1_vl R g hR ho h2 h3 h0 h1, gv_comm]
  · exact mTwo1_vl R g hR ho h0 h1 h2 h3

/-! ### registers, of the old and of the new -/
def Still (N : Net) (R : List Bool) : Prop := ∀ j : Nat, j < N.nodes.length → opAt N.nodes j = 4 → stillB N j = true → R.getD j false = decide ((nodeAt N.nodes j).a = 1)
def RegRel (N : Net) (need : List Bool) (k : Nat) (of : List Int) (R R' : List Bool) : Prop :=
  ∀ j : Nat, j < k → need.getD j false = true → opAt N.nodes j = 4 → stillB N j = false → R'.getD (of.getD j 0).toNat false = R.getD j false

section
variable {N : Net} {need : List Bool} (hN : N.right = true) (hd : IsNeed N need)
include hN hd
theorem nodeM_vl {i : Nat} {S : List GN × List Int} (h : Inv N need i S) (hi : i < N.nodes.length) (hn : need.getD i false = true) (R R' g : List Bool) (hS : Still N R)
    (hR : opAt N.nodes i = 4 → stillB N i = false → R'.getD (nodeM N i S.1 S.2).2.toNat false = R.getD i false)
    (hv : ∀ j : Nat, j < i → need.getD j false = true → vl S.1 R' g (S.2.getD j 0) = vl N.nodes R g j) :
    vl (nodeM N i S.1 S.2).1 R' g (nodeM N i S.1 S.2).2 = vl N.nodes R g i := by
  have hk := node_all (Net.right_at hN hi)
  have hc := need_closed hN hd hi hn
  have hq := nodeM_made hN hd h hi hn
  have e : N.nodes.getD i GN.zero = nodeAt N.nodes i := rfl
  have eo : opAt N.nodes i = (nodeAt N.nodes i).op := rfl
  have hiI : (i : Int) < (N.nodes.length : Int) := by omega
  have hi0 : (0 : Int) ≤ (i : Int) := by omega
  rw [e] at hk
  have hA := h.right.ahead
  rcases hk with (ho | ho) | ⟨ho, h1, h2⟩ | ⟨ho, h1, h2, h3⟩ | ⟨ho, h1, h2⟩ | ⟨ho, h1, h2, h3, h4⟩
  · rw [vl_zero (M := N.nodes) hi0 hiI (eo.trans ho)]
    unfold nodeM
    simp only [if_pos ho]
    exact mkN_zero_vl _ _ _
  · rw [vl_one (M := N.nodes) hi0 hiI (eo.trans ho)]
    unfold nodeM
    simp only [if_neg (show ¬ (nodeAt N.nodes i).op = 1 by omega), if_pos ho]
    exact mkN_one_vl _ _ _
  · rw [vl_in (M := N.nodes) hi0 hiI (eo.trans ho)]
    unfold nodeM
    simp only [if_neg (show ¬ (nodeAt N.nodes i).op = 1 by omega), if_neg (show ¬ (nodeAt N.nodes i).op = 2 by omega), if_pos ho]
    have hm := mkN_made S.1 ⟨3, (nodeAt N.nodes i).a, 0, 0⟩
    have ha := mkN_at S.1 ⟨3, (nodeAt N.nodes i).a, 0, 0⟩
    rw [vl_in hm.lo hm.hi (op_of ha), ha]
  · rw [vl_reg (M := N.nodes) hi0 hiI (eo.trans ho), Int.toNat_natCast]
    by_cases hs : stillB N i = false
    · have h5 := hq.2.2.2.2 (eo.trans ho) hs
      rw [vl_reg hq.1.lo hq.1.hi (op_of h5)]
      exact hR (eo.trans ho) hs
    · have hst : stillB N i = true := by simpa using hs
      rw [hS i hi (eo.trans ho) hst]
      unfold nodeM
      simp only [if_neg (show ¬ (nodeAt N.nodes i).op = 1 by omega), if_neg (show ¬ (nodeAt N.nodes i).op = 2 by omega), if_neg (show ¬ (nodeAt N.nodes i).op = 3 by omega), if_pos ho, if_neg hs]
      split
      · rename_i ha; rw [mkN_one_vl, decide_eq_true ha]
      · rename_i ha; rw [mkN_zero_vl, decide_eq_false ha]
  · have hca := hc.2.1 (by rw [eo]; omega)
    have ha := h.of (nodeAt N.nodes i).a.toNat (by omega) hca
    have hva := hv (nodeAt N.nodes i).a.toNat (by omega) hca
    rw [vl_not (M := N.nodes) hi0 hiI (eo.trans ho) ⟨h1, h2⟩]
    unfold nodeM
    simp only [if_neg (show ¬ (nodeAt N.nodes i).op = 1 by omega), if_neg (show ¬ (nodeAt N.nodes i).op = 2 by omega), if_neg (show ¬ (nodeAt N.nodes i).op = 3 by omega), if_neg (show ¬ (nodeAt N.nodes i).op = 4 by omega), if_pos ho]
    rw [mNot_vl R' g h.right ha.1 ha.2, hva]
    have : (((nodeAt N.nodes i).a.toNat : Nat) : Int) = (nodeAt N.nodes i).a := by omega
    rw [this]
  · have hca := hc.2.1 (by rw [eo]; omega)
    have hcb := hc.2.2 (by rw [eo]; omega)
    have ha := h.of (nodeAt N.nodes i).a.toNat (by omega) hca
    have hb := h.of (nodeAt N.nodes i).b.toNat (by omega) hcb
    have hva := hv (nodeAt N.nodes i).a.toNat (by omega) hca
    have hvb := hv (nodeAt N.nodes i).b.toNat (by omega) hcb
    rw [vl_two (M := N.nodes) hi0 hiI (by rw [eo]; exact ho) ⟨h1, h2⟩ ⟨h3, h4⟩, eo]
    unfold nodeM
    simp only [if_neg (show ¬ (nodeAt N.nodes i).op = 1 by omega), if_neg (show ¬ (nodeAt N.nodes i).op = 2 by omega), if_neg (show ¬ (nodeAt N.nodes i).op = 3 by omega), if_neg (show ¬ (nodeAt N.nodes i).op = 4 by omega), if_neg (show ¬ (nodeAt N.nodes i).op = 8 by omega)]
    rw [mTwo_vl R' g h.right ho ha.1 ha.2 hb.1 hb.2, hva, hvb]
    have e1 : (((nodeAt N.nodes i).a.toNat : Nat) : Int) = (nodeAt N.nodes i).a := by omega
    have e2 : (((nodeAt N.nodes i).b.toNat : Nat) : Int) = (nodeAt N.nodes i).b := by omega
    rw [e1, e2]

theorem sem_all (R R' g : List Bool) (hS : Still N R) (k : Nat) (hk : k ≤ N.nodes.length) (hR : RegRel N need k (stepsM N need k).2 R R') :
    ∀ j : Nat, j < k → need.getD j false = true → vl (stepsM N need k).1 R' g ((stepsM N need k).2.getD j 0) = vl N.nodes R g j := by
  induction k with
  | zero => intro j hj; omega
  | succ k ih =>
    have hinv := inv_all hN hd k (by omega)
    have hstep : stepsM N need (k + 1) = stepM N need k (stepsM N need k) := rfl
    rw [hstep] at hR ⊢
    unfold stepM at hR ⊢
    by_cases hn : need.getD k false = true
    · rw [if_pos hn] at hR ⊢
      have hol := hinv.olen
      have hmade := (nodeM_made hN hd hinv (by omega) hn).1
      have hval := nodeM_vl hN hd hinv (by omega) hn R R' g hS
      generalize nodeM N k (stepsM N need k).1 (stepsM N need k).2 = r at *
      generalize stepsM N need k = S at *
      have hset : ∀ j : Nat, j ≠ k → (S.2.set k r.2).getD j 0 = S.2.getD j 0 := fun j hj => by simp [List.getD_eq_getElem?_getD, List.getElem?_set_ne (fun e => hj e.symm)]
      have hsame : (S.2.set k r.2).getD k 0 = r.2 := by simp [List.getD_eq_getElem?_getD, List.getElem?_set_self (show k < S.2.length by omega)]
      have hR0 : RegRel N need k S.2 R R' := fun j hj h1 h2 h3 => by
        have := hR j (by omega) h1 h2 h3
        simp only [hset j (by omega)] at this
        exact this
      have hih := ih (by omega) hR0
      intro j hj hnj
      by_cases e : j = k
      · subst e
        simp only [hsame]
        refine hval (fun h1 h2 => ?_) hih
        have := hR j (by omega) hnj h1 h2
        simp only [hsame] at this
        exact this
      · simp only [hset j e]
        have := hinv.of j (by omega) hnj
        rw [vl_grows hmade.gr R' g this.1 this.2]
        exact hih j (by omega) hnj
    · rw [if_neg hn] at hR ⊢
      intro j hj hnj
      have : j ≠ k := by intro e; subst e; exact hn hnj
      exact ih (by omega) (fun j hj => hR j (by omega)) j (by omega) hnj
end
end Go.Proofs.Ytlaeflpddehipaa
