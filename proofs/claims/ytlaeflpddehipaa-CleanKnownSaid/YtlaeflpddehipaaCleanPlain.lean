/- clean.Clean, plain: how a net is made anew. -/
import Derived.Test.YtlaeflpddehipaaNetVals
set_option linter.unusedVariables false
namespace Go.Proofs.Ytlaeflpddehipaa
open Go.RowKit

/-! ### the maker's steps -/
def nodeAt (M : List GN) (k : Int) : GN := M.getD k.toNat GN.zero
def opAt (M : List GN) (k : Int) : Int := (nodeAt M k).op
def mkN (M : List GN) (x : GN) : List GN × Int := if x.op ≠ 4 ∧ x ∈ M then (M, ((M.idxOf x : Nat) : Int)) else (M ++ [x], (M.length : Int))
def zeroN : GN := ⟨1, 0, 0, 0⟩
def oneN : GN := ⟨2, 0, 0, 0⟩
def mNot (M : List GN) (a : Int) : List GN × Int :=
  if opAt M a = 1 then mkN M oneN else if opAt M a = 2 then mkN M zeroN else if opAt M a = 8 then (M, (nodeAt M a).a) else mkN M ⟨8, a, 0, 0⟩
def turnedB (M : List GN) (a b : Int) : Bool := (opAt M a == 8 && (nodeAt M a).a == b) || (opAt M b == 8 && (nodeAt M b).a == a)
def swapB (M : List GN) (a b : Int) : Bool := opAt M b == 1 || opAt M b == 2 || (decide (b < a) && opAt M a != 1 && opAt M a != 2)
def mTwo1 (M : List GN) (op a b : Int) : List GN × Int :=
  if (opAt M a = 1 ∧ op = 5) ∨ (opAt M a = 2 ∧ op = 6) then (M, a)
  else if (opAt M a = 2 ∧ op = 5) ∨ (opAt M a = 1 ∧ op ≠ 5) then (M, b)
  else if opAt M a = 2 then mNot M b
  else if (a = b ∧ op = 7) ∨ (turnedB M a b = true ∧ op = 5) then mkN M zeroN
  else if a = b then (M, a)
  else if turnedB M a b = true then mkN M oneN
  else mkN M ⟨op, a, b, 0⟩
def mTwo (M : List GN) (op a b : Int) : List GN × Int := if swapB M a b = true then mTwo1 M op b a else mTwo1 M op a b

def stillB (N : Net) (k : Nat) : Bool :=
  (nodeAt N.nodes k).next == (k : Int) || (opAt N.nodes (nodeAt N.nodes k).next == 1 && (nodeAt N.nodes k).a == 0) || (opAt N.nodes (nodeAt N.nodes k).next == 2 && (nodeAt N.nodes k).a == 1)
/-- What the i-th node becomes. -/
def nodeM (N : Net) (i : Nat) (M : List GN) (of : List Int) : List GN × Int :=
  let x := nodeAt N.nodes i
  if x.op = 1 then mkN M zeroN
  else if x.op = 2 then mkN M oneN
  else if x.op = 3 then mkN M ⟨3, x.a, 0, 0⟩
  else if x.op = 4 then (if stillB N i = false then mkN M ⟨4, x.a, 0, x.next⟩ else if x.a = 1 then mkN M oneN else mkN M zeroN)
  else if x.op = 8 then mNot M (of.getD x.a.toNat 0)
  else mTwo M x.op (of.getD x.a.toNat 0) (of.getD x.b.toNat 0)
def stepM (N : Net) (need : List Bool) (i : Nat) (S : List GN × List Int) : List GN × List Int :=
  if need.getD i false = true then ((nodeM N i S.1 S.2).1, S.2.set i (nodeM N i S.1 S.2).2) else S
def stepsM (N : Net) (need : List Bool) : Nat → List GN × List Int
  | 0 => ([], List.replicate N.nodes.length 0)
  | k + 1 => stepM N need k (stepsM N need k)
def fixN (of : List Int) (x : GN) : GN := if x.op = 4 then { x with next := of.getD x.next.toNat 0 } else x
def onceN (N : Net) (need : List Bool) : Net :=
  ⟨N.given, (stepsM N need N.nodes.length).1.map (fixN (stepsM N need N.nodes.length).2), N.outs.map fun k => (stepsM N need N.nodes.length).2.getD k.toNat 0⟩

/-- What what comes out hangs on. -/
inductive Reach (N : Net) : Nat → Prop
  | out (k : Nat) (h : k < N.outs.length) : Reach N (N.outs.getD k 0).toNat
  | reg {i : Nat} (h : Reach N i) (ho : opAt N.nodes i = 4) : Reach N (nodeAt N.nodes i).next.toNat
  | one {i : Nat} (h : Reach N i) (ho : 5 ≤ opAt N.nodes i ∧ opAt N.nodes i ≤ 8) : Reach N (nodeAt N.nodes i).a.toNat
  | two {i : Nat} (h : Reach N i) (ho : 5 ≤ opAt N.nodes i ∧ opAt N.nodes i ≤ 7) : Reach N (nodeAt N.nodes i).b.toNat
structure IsNeed (N : Net) (need : List Bool) : Prop where
  len : need.length = N.nodes.length
  is : ∀ i, i < N.nodes.length → (need.getD i false = true ↔ Reach N i)

/-! ### lists that grow -/
def Grows (M M' : List GN) : Prop := ∃ t, M' = M ++ t
theorem Grows.refl (M : List GN) : Grows M M := ⟨[], by simp⟩
theorem Grows.trans {A B C : List GN} (h : Grows A B) (h' : Grows B C) : Grows A C := by
  obtain ⟨t, rfl⟩ := h
  obtain ⟨u, rfl⟩ := h'
  exact ⟨t ++ u, by simp⟩
theorem Grows.at {M M' : List GN} (h : Grows M M') {k : Int} (h0 : 0 ≤ k) (hk : k < (M.length : Int)) : nodeAt M' k = nodeAt M k := by
  obtain ⟨t, rfl⟩ := h
  unfold nodeAt
  have : k.toNat < M.length := by omega
  simp [List.getD_eq_getElem?_getD, List.getElem?_append_left this]
theorem Grows.op {M M' : List GN} (h : Grows M M') {k : Int} (h0 : 0 ≤ k) (hk : k < (M.length : Int)) : opAt M' k = opAt M k := by
  unfold opAt; rw [h.at h0 hk]
theorem Grows.len {M M' : List GN} (h : Grows M M') : M.length ≤ M'.length := by
  obtain ⟨t, rfl⟩ := h
  simp
/-- Those that are no registers are there once. -/
def Once (M : List GN) : Prop := ∀ i j, i < j → j < M.length → M.getD i GN.zero = M.getD j GN.zero → (M.getD j GN.zero).op = 4
theorem idx_is {M : List GN} (hM : Once M) {x : GN} (hx : x.op ≠ 4) {k : Nat} (hk : k < M.length) (he : M.getD k GN.zero = x) : M.idxOf x = k := by
  have hm : x ∈ M := by
    rw [← he, List.getD_eq_getElem?_getD, List.getElem?_eq_getElem hk]
    exact List.getElem_mem hk
  have hlt := List.idxOf_lt_length_of_mem hm
  have hg : M.getD (M.idxOf x) GN.zero = x := by
    rw [List.getD_eq_getElem?_getD, List.getElem?_eq_getElem hlt]
    exact List.getElem_idxOf hlt
  rcases Nat.lt_trichotomy (M.idxOf x) k with h | h | h
  · have := hM _ _ h hk (hg.trans he.symm)
    rw [he] at this
    exact absurd this hx
  · exact h
  · have := hM _ _ h hlt (he.trans hg.symm)
    rw [hg] at this
    exact absurd this hx
theorem idx_get {M : List GN} {x : GN} (hm : x ∈ M) : M.idxOf x < M.length ∧ M.getD (M.idxOf x) GN.zero = x := by
  have hlt := List.idxOf_lt_length_of_mem hm
  refine ⟨hlt, ?_⟩
  rw [List.getD_eq_getElem?_getD, List.getElem?_eq_getElem hlt]
  exact List.getElem_idxOf hlt

/-- What a step of the maker gives: a list that has grown by one at most, and a place in it. -/
structure Made (M : List GN) (r : List GN × Int) : Prop where
  gr : Grows M r.1
  one : r.1.length ≤ M.length + 1
  lo : 0 ≤ r.2
  hi : r.2 < (r.1.length : Int)
  on : Once M → Once r.1

theorem mkN_made (M : List GN) (x : GN) : Made M (mkN M x) := by
  unfold mkN
  split
  · rename_i h
    have := idx_get h.2
    exact ⟨Grows.refl _, by simp, by simp, by simp only; omega, fun h => h⟩
  · rename_i h
    refine ⟨⟨[x], rfl⟩, by simp, by simp, by simp; omega, fun hM => ?_⟩
    intro i j hij hj he
    simp only at hj he ⊢
    by_cases hl : j < M.length
    · have hi' : i < M.length := by omega
      simp only [List.getD_eq_getElem?_getD, List.getElem?_append_left hl, List.getElem?_append_left hi'] at he ⊢
      have := hM i j hij hl (by simpa [List.getD_eq_getElem?_getD] using he)
      simpa [List.getD_eq_getElem?_getD] using this
    · have hj2 : j = M.length := by simp at hj; omega
      subst hj2
      have e : (M ++ [x]).getD M.length GN.zero = x := by simp [List.getD_eq_getElem?_getD]
      rw [e] at he ⊢
      apply Classical.byContradiction
      intro hx
      apply h
      refine ⟨hx, ?_⟩
      rw [← he, List.getD_eq_getElem?_getD, List.getElem?_append_left hij, List.getElem?_eq_getElem hij]
      exact List.getElem_mem hij
theorem mkN_at (M : List GN) (x : GN) : nodeAt (mkN M x).1 (mkN M x).2 = x := by
  unfold mkN
  split
  · rename_i h
    unfold nodeAt
    simp only [Int.toNat_natCast]
    exact (idx_get h.2).2
  · unfold nodeAt
    simp [List.getD_eq_getElem?_getD]
theorem same_made {M : List GN} {a : Int} (h0 : 0 ≤ a) (h1 : a < (M.length : Int)) : Made M (M, a) := ⟨Grows.refl _, Nat.le_succ _, h0, h1, fun h => h⟩

/-- What reads nodes ahead of it. -/
def Ahead (M : List GN) : Prop := ∀ k : Nat, k < M.length → 5 ≤ (M.getD k GN.zero).op → (0 ≤ (M.getD k GN.zero).a ∧ (M.getD k GN.zero).a < (k : Int)) ∧ ((M.getD k GN.zero).op ≠ 8 → 0 ≤ (M.getD k GN.zero).b ∧ (M.getD k GN.zero).b < (k : Int))
theorem Ahead.not {M : List GN} (h : Ahead M) {a : Int} (h0 : 0 ≤ a) (h1 : a < (M.length : Int)) (ho : opAt M a = 8) : 0 ≤ (nodeAt M a).a ∧ (nodeAt M a).a < a := by
  have := h a.toNat (by omega) (by unfold opAt nodeAt at ho; omega)
  unfold nodeAt
  omega
theorem mNot_made {M : List GN} (hA : Ahead M) {a : Int} (h0 : 0 ≤ a) (h1 : a < (M.length : Int)) : Made M (mNot M a) := by
  unfold mNot
  split
  · exact mkN_made _ _
  · split
    · exact mkN_made _ _
    · split
      · rename_i h
        have := hA.not h0 h1 h
        exact same_made this.1 (by omega)
      · exact mkN_made _ _
theorem mTwo1_made {M : List GN} (hA : Ahead M) {op a b : Int} (h0 : 0 ≤ a) (h1 : a < (M.length : Int)) (h2 : 0 ≤ b) (h3 : b < (M.length : Int)) : Made M (mTwo1 M op a b) := by
  unfold mTwo1
  split
  · exact same_made h0 h1
  · split
    · exact same_made h2 h3
    · split
      · exact mNot_made hA h2 h3
      · split
        · exact mkN_made _ _
        · split
          · exact same_made h0 h1
          · split
            · exact mkN_made _ _
            · exact mkN_made _ _
theorem mTwo_made {M : List GN} (hA : Ahead M) {op a b : Int} (h0 : 0 ≤ a) (h1 : a < (M.length : Int)) (h2 : 0 ≤ b) (h3 : b < (M.length : Int)) : Made M (mTwo M op a b) := by
  unfold mTwo
  split
  · exact mTwo1_made hA h2 h3 h0 h1
  · exact mTwo1_made hA h0 h1 h2 h3
end Go.Proofs.Ytlaeflpddehipaa
