/- clean.Clean, plain: a net in which nothing is given and nothing is kept has no gate left. -/
import Derived.Test.YtlaeflpddehipaaCleanOnce
set_option linter.unusedVariables false
namespace Go.Proofs.Ytlaeflpddehipaa
open Go.RowKit

def Consts (M : List GN) : Prop := ∀ i : Nat, i < M.length → (M.getD i GN.zero).op = 1 ∨ (M.getD i GN.zero).op = 2
theorem Consts.op {M : List GN} (h : Consts M) {a : Int} (h0 : 0 ≤ a) (h1 : a < (M.length : Int)) : opAt M a = 1 ∨ opAt M a = 2 := h a.toNat (by omega)
theorem Consts.mkN {M : List GN} (h : Consts M) {x : GN} (hx : x.op = 1 ∨ x.op = 2) : Consts (mkN M x).1 := by
  unfold Go.Proofs.Ytlaeflpddehipaa.mkN
  split
  · exact h
  · intro i hi
    by_cases hl : i < M.length
    · have e : (M ++ [x]).getD i GN.zero = M.getD i GN.zero := by simp [List.getD_eq_getElem?_getD, List.getElem?_append_left hl]
      rw [e]
      exact h i hl
    · have : i = M.length := by simp at hi; omega
      subst this
      have e : (M ++ [x]).getD M.length GN.zero = x := by simp [List.getD_eq_getElem?_getD]
      rw [e]
      exact hx
theorem Consts.mNot {M : List GN} (h : Consts M) {a : Int} (h0 : 0 ≤ a) (h1 : a < (M.length : Int)) : Consts (mNot M a).1 := by
  unfold Go.Proofs.Ytlaeflpddehipaa.mNot
  rcases h.op h0 h1 with e | e
  · rw [if_pos e]; exact h.mkN (.inr rfl)
  · rw [if_neg (by omega), if_pos e]; exact h.mkN (.inl rfl)
theorem Consts.mTwo1 {M : List GN} (h : Consts M) {op a b : Int} (h0 : 0 ≤ a) (h1 : a < (M.length : Int)) (h2 : 0 ≤ b) (h3 : b < (M.length : Int)) : Consts (mTwo1 M op a b).1 := by
  unfold Go.Proofs.Ytlaeflpddehipaa.mTwo1
  split
  · exact h
  · split
    · exact h
    · split
      · exact h.mNot h2 h3
      · rename_i n1 n2 n3
        rcases h.op h0 h1 with e | e
        · exfalso
          by_cases h5 : op = 5
          · exact n1 (.inl ⟨e, h5⟩)
          · exact n2 (.inr ⟨e, h5⟩)
        · exact absurd e n3
theorem Consts.mTwo {M : List GN} (h : Consts M) {op a b : Int} (h0 : 0 ≤ a) (h1 : a < (M.length : Int)) (h2 : 0 ≤ b) (h3 : b < (M.length : Int)) : Consts (mTwo M op a b).1 := by
  unfold Go.Proofs.Ytlaeflpddehipaa.mTwo
  split
  · exact h.mTwo1 h2 h3 h0 h1
  · exact h.mTwo1 h0 h1 h2 h3

/-- Nothing is given, nothing is kept. -/
def Net.Known (N : Net) : Prop := ∀ j : Nat, j < N.nodes.length → opAt N.nodes j ≠ 3 ∧ opAt N.nodes j ≠ 4
theorem known_steps {N : Net} {need : List Bool} (hN : N.right = true) (hd : IsNeed N need) (hK : N.Known) (k : Nat) (hk : k ≤ N.nodes.length) : Consts (stepsM N need k).1 := by
  induction k with
  | zero => intro i hi; simp [stepsM] at hi
  | succ k ih =>
    have hinv := inv_all hN hd k (by omega)
    have hc := ih (by omega)
    show Consts (stepM N need k (stepsM N need k)).1
    unfold stepM
    by_cases hn : need.getD k false = true
    · rw [if_pos hn]
      have hcl := need_closed hN hd (by omega) hn
      have hq := node_all (Net.right_at hN (show k < N.nodes.length by omega))
      have e : N.nodes.getD k GN.zero = nodeAt N.nodes k := rfl
      rw [e] at hq
      have hkn := hK k (by omega)
      have eo : opAt N.nodes k = (nodeAt N.nodes k).op := rfl
      rw [eo] at hkn hcl
      generalize stepsM N need k = S at *
      unfold nodeM
      simp only
      rcases hq with (ho | ho) | ⟨ho, h1, h2⟩ | ⟨ho, h1, h2, h3⟩ | ⟨ho, h1, h2⟩ | ⟨ho, h1, h2, h3, h4⟩
      · rw [if_pos ho]; exact hc.mkN (.inl rfl)
      · rw [if_neg (by omega), if_pos ho]; exact hc.mkN (.inr rfl)
      · exact absurd ho hkn.1
      · exact absurd ho hkn.2
      · have ha := hinv.of (nodeAt N.nodes k).a.toNat (by omega) (hcl.2.1 (by omega))
        rw [if_neg (by omega), if_neg (by omega), if_neg (by omega), if_neg (by omega), if_pos ho]
        exact hc.mNot ha.1 ha.2
      · have ha := hinv.of (nodeAt N.nodes k).a.toNat (by omega) (hcl.2.1 (by omega))
        have hb := hinv.of (nodeAt N.nodes k).b.toNat (by omega) (hcl.2.2 (by omega))
        rw [if_neg (by omega), if_neg (by omega), if_neg (by omega), if_neg (by omega), if_neg (by omega)]
        exact hc.mTwo ha.1 ha.2 hb.1 hb.2
    · rw [if_neg hn]; exact hc
theorem gateN_consts {M : List GN} (h : Consts M) : gateN M = 0 := by
  unfold gateN
  rw [List.length_eq_zero_iff, List.filter_eq_nil_iff]
  intro x hx
  obtain ⟨i, hi, rfl⟩ := List.mem_iff_getElem.1 hx
  have := h i hi
  rw [List.getD_eq_getElem?_getD, List.getElem?_eq_getElem hi] at this
  simp only [Option.getD_some] at this
  unfold GN.isGate
  simp
  omega
theorem known_once {N N' : Net} (hN : N.right = true) (hK : N.Known) (h : OnceOf N N') : Consts N'.nodes := by
  obtain ⟨need, hd, rfl⟩ := h
  have hc := known_steps hN hd hK N.nodes.length (Nat.le_refl _)
  unfold onceN
  intro i hi
  have hi' : i < (stepsM N need N.nodes.length).1.length := by simpa using hi
  simp only
  rw [fixN_get _ _ hi', fixN_op]
  exact hc i hi'
theorem Consts.known {N : Net} (h : Consts N.nodes) : N.Known := by
  intro j hj
  have := h j hj
  show (N.nodes.getD j GN.zero).op ≠ 3 ∧ (N.nodes.getD j GN.zero).op ≠ 4
  omega
theorem known_clean {N N' : Net} (hN : N.right = true) (hK : N.Known) (h : CleanOf N N') : N'.gates = 0 := by
  obtain ⟨A, B, C, h1, h2, h3, h4⟩ := h
  have s1 := h1.same hN
  have s2 := h2.same s1.right
  have s3 := h3.same s2.right
  have c1 := known_once hN hK h1
  have c2 := known_once s1.right c1.known h2
  have c3 := known_once s2.right c2.known h3
  have c4 := known_once s3.right c3.known h4
  unfold Net.gates
  rw [gateN_gates]
  exact gateN_consts c4
end Go.Proofs.Ytlaeflpddehipaa
