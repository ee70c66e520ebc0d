/- clean.Clean, plain: what holds of a net on its way to be made anew. -/
import Derived.Test.YtlaeflpddehipaaCleanPlain
import Derived.Test.YtlaeflpddehipaaJoinsPlain
set_option linter.unusedVariables false
namespace Go.Proofs.Ytlaeflpddehipaa
open Go.RowKit

/-! ### each node may be -/
def AllRight (g : Int) (m : Nat) (M : List GN) : Prop := ∀ i : Nat, i < M.length → nodeRight g m i (M.getD i GN.zero) = true
theorem AllRight.push {g : Int} {m : Nat} {M : List GN} (h : AllRight g m M) {x : GN} (hx : nodeRight g m M.length x = true) : AllRight g m (M ++ [x]) := by
  intro i hi
  by_cases hl : i < M.length
  · have := h i hl
    simp only [List.getD_eq_getElem?_getD, List.getElem?_append_left hl] at this ⊢
    exact this
  · have : i = M.length := by simp at hi; omega
    subst this
    have e : (M ++ [x]).getD M.length GN.zero = x := by simp [List.getD_eq_getElem?_getD]
    rw [e]
    exact hx
theorem AllRight.mkN {g : Int} {m : Nat} {M : List GN} (h : AllRight g m M) {x : GN} (hx : nodeRight g m M.length x = true) : AllRight g m (mkN M x).1 := by
  unfold Go.Proofs.Ytlaeflpddehipaa.mkN
  split
  · exact h
  · exact h.push hx
theorem right_zero (g : Int) (m k : Nat) : nodeRight g m k zeroN = true := rfl
theorem right_one (g : Int) (m k : Nat) : nodeRight g m k oneN = true := rfl
theorem right_not {g : Int} {m k : Nat} {a : Int} (h0 : 0 ≤ a) (h1 : a < (k : Int)) : nodeRight g m k ⟨8, a, 0, 0⟩ = true := by
  show aheadB k a = true
  unfold aheadB
  exact decide_eq_true ⟨h0, h1⟩
theorem right_two {g : Int} {m k : Nat} {op a b : Int} (ho : op = 5 ∨ op = 6 ∨ op = 7) (h0 : 0 ≤ a) (h1 : a < (k : Int)) (h2 : 0 ≤ b) (h3 : b < (k : Int)) : nodeRight g m k ⟨op, a, b, 0⟩ = true := by
  have e : (aheadB k a && aheadB k b) = true := by
    unfold aheadB
    simp [h0, h1, h2, h3]
  rcases ho with rfl | rfl | rfl <;> exact e
theorem AllRight.ahead {g : Int} {m : Nat} {M : List GN} (h : AllRight g m M) : Ahead M := by
  intro k hk ho
  have := node_all (h k hk)
  rcases this with (h1 | h1) | h1 | h1 | h1 | h1
  · omega
  · omega
  · omega
  · omega
  · exact ⟨⟨h1.2.1, h1.2.2⟩, fun hne => absurd h1.1 hne⟩
  · exact ⟨⟨h1.2.1, h1.2.2.1⟩, fun _ => ⟨h1.2.2.2.1, h1.2.2.2.2⟩⟩
theorem AllRight.mNot {g : Int} {m : Nat} {M : List GN} (h : AllRight g m M) {a : Int} (h0 : 0 ≤ a) (h1 : a < (M.length : Int)) : AllRight g m (mNot M a).1 := by
  unfold Go.Proofs.Ytlaeflpddehipaa.mNot
  split
  · exact h.mkN (right_one _ _ _)
  · split
    · exact h.mkN (right_zero _ _ _)
    · split
      · exact h
      · exact h.mkN (right_not h0 h1)
theorem AllRight.mTwo1 {g : Int} {m : Nat} {M : List GN} (h : AllRight g m M) {op a b : Int} (ho : op = 5 ∨ op = 6 ∨ op = 7) (h0 : 0 ≤ a) (h1 : a < (M.length : Int)) (h2 : 0 ≤ b) (h3 : b < (M.length : Int)) : AllRight g m (mTwo1 M op a b).1 := by
  unfold Go.Proofs.Ytlaeflpddehipaa.mTwo1
  split
  · exact h
  · split
    · exact h
    · split
      · exact h.mNot h2 h3
      · split
        · exact h.mkN (right_zero _ _ _)
        · split
          · exact h
          · split
            · exact h.mkN (right_one _ _ _)
            · exact h.mkN (right_two ho h0 h1 h2 h3)
theorem AllRight.mTwo {g : Int} {m : Nat} {M : List GN} (h : AllRight g m M) {op a b : Int} (ho : op = 5 ∨ op = 6 ∨ op = 7) (h0 : 0 ≤ a) (h1 : a < (M.length : Int)) (h2 : 0 ≤ b) (h3 : b < (M.length : Int)) : AllRight g m (mTwo M op a b).1 := by
  unfold Go.Proofs.Ytlaeflpddehipaa.mTwo
  split
  · exact h.mTwo1 ho h2 h3 h0 h1
  · exact h.mTwo1 ho h0 h1 h2 h3

/-! ### how many gates -/
def gateN (M : List GN) : Nat := (M.filter GN.isGate).length
theorem gateN_gates (M : List GN) : gatesTo M M.length = gateN M := by unfold gatesTo gateN; rw [List.take_length]
theorem gateN_push (M : List GN) (x : GN) : gateN (M ++ [x]) = gateN M + if x.isGate then 1 else 0 := by
  unfold gateN
  rw [List.filter_append, List.length_append]
  simp [List.filter_cons]
  split <;> simp
theorem gateN_mkN (M : List GN) (x : GN) : gateN (mkN M x).1 ≤ gateN M + if x.isGate then 1 else 0 := by
  unfold mkN
  split
  · exact Nat.le_add_right _ _
  · rw [gateN_push]; exact Nat.le_refl _
theorem gateN_mkN0 (M : List GN) (x : GN) (h : x.isGate = false) : gateN (mkN M x).1 ≤ gateN M := by
  have := gateN_mkN M x
  rw [h] at this
  simpa using this
theorem gateN_mkN1 (M : List GN) (x : GN) : gateN (mkN M x).1 ≤ gateN M + 1 := by
  have := gateN_mkN M x
  split at this <;> omega
theorem gateN_mNot (M : List GN) (a : Int) : gateN (mNot M a).1 ≤ gateN M + 1 := by
  unfold mNot
  split
  · exact gateN_mkN1 _ _
  · split
    · exact gateN_mkN1 _ _
    · split
      · exact Nat.le_succ _
      · exact gateN_mkN1 _ _
theorem gateN_mTwo1 (M : List GN) (op a b : Int) : gateN (mTwo1 M op a b).1 ≤ gateN M + 1 := by
  unfold mTwo1
  split
  · exact Nat.le_succ _
  · split
    · exact Nat.le_succ _
    · split
      · exact gateN_mNot _ _
      · split
        · exact gateN_mkN1 _ _
        · split
          · exact Nat.le_succ _
          · split
            · exact gateN_mkN1 _ _
            · exact gateN_mkN1 _ _
theorem gateN_mTwo (M : List GN) (op a b : Int) : gateN (mTwo M op a b).1 ≤ gateN M + 1 := by
  unfold mTwo
  split
  · exact gateN_mTwo1 _ _ _ _
  · exact gateN_mTwo1 _ _ _ _

/-! ### registers: what is pushed -/
def RegsFrom (need : List Bool) (M : List GN) : Prop := ∀ i : Nat, i < M.length → (M.getD i GN.zero).op = 4 → need.getD (M.getD i GN.zero).next.toNat false = true
theorem RegsFrom.push {need : List Bool} {M : List GN} (h : RegsFrom need M) {x : GN} (hx : x.op = 4 → need.getD x.next.toNat false = true) : RegsFrom need (M ++ [x]) := by
  intro i hi ho
  by_cases hl : i < M.length
  · have e : (M ++ [x]).getD i GN.zero = M.getD i GN.zero := by simp [List.getD_eq_getElem?_getD, List.getElem?_append_left hl]
    rw [e] at ho ⊢
    exact h i hl ho
  · have : i = M.length := by simp at hi; omega
    subst this
    have e : (M ++ [x]).getD M.length GN.zero = x := by simp [List.getD_eq_getElem?_getD]
    rw [e] at ho ⊢
    exact hx ho
theorem RegsFrom.mkN {need : List Bool} {M : List GN} (h : RegsFrom need M) {x : GN} (hx : x.op = 4 → need.getD x.next.toNat false = true) : RegsFrom need (mkN M x).1 := by
  unfold Go.Proofs.Ytlaeflpddehipaa.mkN
  split
  · exact h
  · exact h.push hx
theorem RegsFrom.mNot {need : List Bool} {M : List GN} (h : RegsFrom need M) (a : Int) : RegsFrom need (mNot M a).1 := by
  unfold Go.Proofs.Ytlaeflpddehipaa.mNot
  split
  · exact h.mkN (fun e => by cases e)
  · split
    · exact h.mkN (fun e => by cases e)
    · split
      · exact h
      · exact h.mkN (fun e => by cases e)
theorem RegsFrom.mTwo1 {need : List Bool} {M : List GN} (h : RegsFrom need M) {op : Int} (ho : op ≠ 4) (a b : Int) : RegsFrom need (mTwo1 M op a b).1 := by
  unfold Go.Proofs.Ytlaeflpddehipaa.mTwo1
  split
  · exact h
  · split
    · exact h
    · split
      · exact h.mNot _
      · split
        · exact h.mkN (fun e => by cases e)
        · split
          · exact h
          · split
            · exact h.mkN (fun e => by cases e)
            · exact h.mkN (fun e => absurd e ho)
theorem RegsFrom.mTwo {need : List Bool} {M : List GN} (h : RegsFrom need M) {op : Int} (ho : op ≠ 4) (a b : Int) : RegsFrom need (mTwo M op a b).1 := by
  unfold Go.Proofs.Ytlaeflpddehipaa.mTwo
  split
  · exact h.mTwo1 ho _ _
  · exact h.mTwo1 ho _ _

/-! ### all together -/
structure Inv (N : Net) (need : List Bool) (k : Nat) (S : List GN × List Int) : Prop where
  olen : S.2.length = N.nodes.length
  of : ∀ j : Nat, j < k → need.getD j false = true → 0 ≤ S.2.getD j 0 ∧ S.2.getD j 0 < (S.1.length : Int)
  once : Once S.1
  right : AllRight N.given N.nodes.length S.1
  len : S.1.length ≤ k
  gates : gateN S.1 ≤ gatesTo N.nodes k
  regs : RegsFrom need S.1
  regAt : ∀ j : Nat, j < k → need.getD j false = true → opAt N.nodes j = 4 → stillB N j = false → nodeAt S.1 (S.2.getD j 0) = ⟨4, (nodeAt N.nodes j).a, 0, (nodeAt N.nodes j).next⟩

section
variable {N : Net} {need : List Bool} (hN : N.right = true) (hd : IsNeed N need)
include hN hd
theorem need_closed {i : Nat} (hi : i < N.nodes.length) (h : need.getD i false = true) :
    (opAt N.nodes i = 4 → need.getD (nodeAt N.nodes i).next.toNat false = true) ∧ (5 ≤ opAt N.nodes i ∧ opAt N.nodes i ≤ 8 → need.getD (nodeAt N.nodes i).a.toNat false = true) ∧ (5 ≤ opAt N.nodes i ∧ opAt N.nodes i ≤ 7 → need.getD (nodeAt N.nodes i).b.toNat false = true) := by
  have hr := (hd.is i hi).1 h
  have hk := node_all (Net.right_at hN hi)
  have e : N.nodes.getD i GN.zero = nodeAt N.nodes i := rfl
  rw [e] at hk
  have eo : opAt N.nodes i = (nodeAt N.nodes i).op := rfl
  refine ⟨fun ho => ?_, fun ho => ?_, fun ho => ?_⟩
  · have := Reach.reg hr ho
    refine (hd.is _ ?_).2 this
    rw [eo] at ho
    omega
  · have := Reach.one hr ho
    refine (hd.is _ ?_).2 this
    rw [eo] at ho
    omega
  · have := Reach.two hr ho
    refine (hd.is _ ?_).2 this
    rw [eo] at ho
    omega
theorem need_out {k : Nat} (hk : k < N.outs.length) : need.getD (N.outs.getD k 0).toNat false = true := by
  have := Net.out_at hN hk
  exact (hd.is _ (by omega)).2 (Reach.out k hk)

/-- What is needed of the operands at i. -/
theorem nodeM_made {i : Nat} {S : List GN × List Int} (h : Inv N need i S) (hi : i < N.nodes.length) (hn : need.getD i false = true) :
    Made S.1 (nodeM N i S.1 S.2) ∧ AllRight N.given N.nodes.length (nodeM N i S.1 S.2).1 ∧ RegsFrom need (nodeM N i S.1 S.2).1 ∧ gateN (nodeM N i S.1 S.2).1 ≤ gateN S.1 + (if (nodeAt N.nodes i).isGate then 1 else 0) ∧
      (opAt N.nodes i = 4 → stillB N i = false → nodeAt (nodeM N i S.1 S.2).1 (nodeM N i S.1 S.2).2 = ⟨4, (nodeAt N.nodes i).a, 0, (nodeAt N.nodes i).next⟩) := by
  have hk := node_all (Net.right_at hN hi)
  have hc := need_closed hN hd hi hn
  have eo : opAt N.nodes i = (nodeAt N.nodes i).op := rfl
  have e : N.nodes.getD i GN.zero = nodeAt N.nodes i := rfl
  rw [e] at hk
  rw [eo] at hc ⊢
  unfold nodeM
  generalize nodeAt N.nodes i = x at *
  obtain ⟨op, a, b, nx⟩ := x
  simp only at hk hc ⊢
  have hA := h.right.ahead
  rcases hk with (rfl | rfl) | ⟨rfl, h1, h2⟩ | ⟨rfl, h1, h2, h3⟩ | ⟨rfl, h1, h2⟩ | ⟨ho, h1, h2, h3, h4⟩
  · exact ⟨mkN_made _ _, h.right.mkN (right_zero _ _ _), h.regs.mkN (fun e => by cases e), Nat.le_trans (gateN_mkN0 _ _ rfl) (Nat.le_add_right _ _), fun e => by cases e⟩
  · exact ⟨mkN_made _ _, h.right.mkN (right_one _ _ _), h.regs.mkN (fun e => by cases e), Nat.le_trans (gateN_mkN0 _ _ rfl) (Nat.le_add_right _ _), fun e => by cases e⟩
  · refine ⟨mkN_made _ _, h.right.mkN ?_, h.regs.mkN (fun e => by cases e), Nat.le_trans (gateN_mkN0 _ _ rfl) (Nat.le_add_right _ _), fun e => by cases e⟩
    show decide (0 ≤ a ∧ a < N.given) = true
    exact decide_eq_true ⟨h1, h2⟩
  · simp only [if_neg (show ¬ (4 : Int) = 1 by decide), if_neg (show ¬ (4 : Int) = 2 by decide), if_neg (show ¬ (4 : Int) = 3 by decide), if_pos]
    by_cases hs : stillB N i = false
    · rw [if_pos hs]
      refine ⟨mkN_made _ _, h.right.mkN ?_, h.regs.mkN (fun _ => hc.1 rfl), Nat.le_trans (gateN_mkN0 _ _ rfl) (Nat.le_add_right _ _), fun _ _ => mkN_at _ _⟩
      show decide ((a = 0 ∨ a = 1) ∧ 0 ≤ nx ∧ nx < (N.nodes.length : Int)) = true
      exact decide_eq_true ⟨h1, h2, h3⟩
    · rw [if_neg hs]
      split
      · exact ⟨mkN_made _ _, h.right.mkN (right_one _ _ _), h.regs.mkN (fun e => by cases e), Nat.le_trans (gateN_mkN0 _ _ rfl) (Nat.le_add_right _ _), fun _ e => absurd e hs⟩
      · exact ⟨mkN_made _ _, h.right.mkN (right_zero _ _ _), h.regs.mkN (fun e => by cases e), Nat.le_trans (gateN_mkN0 _ _ rfl) (Nat.le_add_right _ _), fun _ e => absurd e hs⟩
  · have ha := h.of a.toNat (by omega) (hc.2.1 (by omega))
    simp only [if_neg (show ¬ (8 : Int) = 1 by decide), if_neg (show ¬ (8 : Int) = 2 by decide), if_neg (show ¬ (8 : Int) = 3 by decide), if_neg (show ¬ (8 : Int) = 4 by decide), if_pos]
    exact ⟨mNot_made hA ha.1 ha.2, h.right.mNot ha.1 ha.2, h.regs.mNot _, gateN_mNot _ _, fun e => by cases e⟩
  · have ha := h.of a.toNat (by omega) (hc.2.1 (by omega))
    have hb := h.of b.toNat (by omega) (hc.2.2 (by omega))
    rw [if_neg (by omega), if_neg (by omega), if_neg (by omega), if_neg (by omega), if_neg (by omega)]
    have hg : (⟨op, a, b, nx⟩ : GN).isGate = true := by unfold GN.isGate; exact decide_eq_true (by simp only; omega)
    rw [hg]
    exact ⟨mTwo_made hA ha.1 ha.2 hb.1 hb.2, h.right.mTwo ho ha.1 ha.2 hb.1 hb.2, h.regs.mTwo (by omega) _ _, gateN_mTwo _ _ _ _, fun e => by omega⟩

theorem inv_step {i : Nat} {S : List GN × List Int} (h : Inv N need i S) (hi : i < N.nodes.length) : Inv N need (i + 1) (stepM N need i S) := by
  have hg1 := gatesTo_succ N.nodes i hi
  unfold stepM
  by_cases hn : need.getD i false = true
  · rw [if_pos hn]
    obtain ⟨q1, q2, q3, q4, q5⟩ := nodeM_made hN hd h hi hn
    generalize nodeM N i S.1 S.2 = r at *
    have hol := h.olen
    have hset : ∀ j : Nat, j ≠ i → (S.2.set i r.2).getD j 0 = S.2.getD j 0 := fun j hj => by simp [List.getD_eq_getElem?_getD, List.getElem?_set_ne (fun e => hj e.symm)]
    have hsame : (S.2.set i r.2).getD i 0 = r.2 := by simp [List.getD_eq_getElem?_getD, List.getElem?_set_self (show i < S.2.length by omega)]
    refine ⟨by simpa using hol, ?_, q1.on h.once, q2, Nat.le_trans q1.one (by have := h.len; omega), ?_, q3, ?_⟩
    · intro j hj hnj
      by_cases e : j = i
      · subst e
        simp only [hsame]
        exact ⟨q1.lo, q1.hi⟩
      · simp only [hset j e]
        have := h.of j (by omega) hnj
        have := q1.gr.len
        omega
    · have := h.gates
      have e : N.nodes.getD i GN.zero = nodeAt N.nodes i := rfl
      rw [hg1, e]
      simp only
      omega
    · intro j hj hnj ho hs
      by_cases e : j = i
      · subst e
        simp only [hsame]
        exact q5 ho hs
      · simp only [hset j e]
        have := h.of j (by omega) hnj
        rw [q1.gr.at this.1 this.2]
        exact h.regAt j (by omega) hnj ho hs
  · rw [if_neg hn]
    refine ⟨h.olen, ?_, h.once, h.right, Nat.le_trans h.len (Nat.le_succ _), ?_, h.regs, ?_⟩
    · intro j hj hnj
      by_cases e : j = i
      · subst e; exact absurd hnj hn
      · exact h.of j (by omega) hnj
    · have := h.gates; omega
    · intro j hj hnj ho hs
      by_cases e : j = i
      · subst e; exact absurd hnj hn
      · exact h.regAt j (by omega) hnj ho hs
theorem inv_all (k : Nat) (hk : k ≤ N.nodes.length) : Inv N need k (stepsM N need k) := by
  induction k with
  | zero => exact ⟨by simp [stepsM], fun j hj => by omega, fun i j _ hj => by simp [stepsM] at hj, fun i hi => by simp [stepsM] at hi, Nat.le_refl _, by simp [stepsM, gateN], fun i hi => by simp [stepsM] at hi, fun j hj => by omega⟩
  | succ k ih => exact inv_step hN hd (ih (by omega)) (by omega)
end
end Go.Proofs.Ytlaeflpddehipaa
