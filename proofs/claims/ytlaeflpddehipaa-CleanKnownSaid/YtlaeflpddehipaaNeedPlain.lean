/- clean.needed, plain: what is marked is what what comes out hangs on. -/
import Derived.Test.YtlaeflpddehipaaCleanInv
set_option linter.unusedVariables false
namespace Go.Proofs.Ytlaeflpddehipaa
open Go.RowKit

def addW (need : List Bool) (wait : List Int) (k : Nat) : List Bool × List Int := if need.getD k false = true then (need, wait) else (need.set k true, wait ++ [(k : Int)])
def Succ (N : Net) (need : List Bool) (i : Nat) : Prop :=
  (opAt N.nodes i = 4 → need.getD (nodeAt N.nodes i).next.toNat false = true) ∧ (5 ≤ opAt N.nodes i ∧ opAt N.nodes i ≤ 8 → need.getD (nodeAt N.nodes i).a.toNat false = true) ∧ (5 ≤ opAt N.nodes i ∧ opAt N.nodes i ≤ 7 → need.getD (nodeAt N.nodes i).b.toNat false = true)
structure WsInv (N : Net) (need : List Bool) (wait : List Int) (ex : Nat → Prop) : Prop where
  len : need.length = N.nodes.length
  sound : ∀ i, i < N.nodes.length → need.getD i false = true → Reach N i
  wok : ∀ k ∈ wait, 0 ≤ k ∧ k < (N.nodes.length : Int) ∧ need.getD k.toNat false = true
  closed : ∀ i : Nat, i < N.nodes.length → need.getD i false = true → (i : Int) ∉ wait → ¬ ex i → Succ N need i
def meas (need : List Bool) (wait : List Int) : Nat := 2 * need.count false + wait.length

theorem set_get_ne {l : List Bool} {k i : Nat} {v : Bool} (h : i ≠ k) : (l.set k v).getD i false = l.getD i false := by
  simp [List.getD_eq_getElem?_getD, List.getElem?_set_ne (Ne.symm h)]
theorem set_get_eq {l : List Bool} {k : Nat} {v : Bool} (h : k < l.length) : (l.set k v).getD k false = v := by
  simp [List.getD_eq_getElem?_getD, h]
theorem count_mark : ∀ (l : List Bool) (k : Nat), k < l.length → l.getD k false = false → (l.set k true).count false + 1 = l.count false
  | [], k, h, _ => by simp at h
  | x :: r, 0, _, h => by
    have : x = false := by simpa using h
    subst this
    simp
  | x :: r, k + 1, h, hv => by
    have := count_mark r k (by simpa using h) (by simpa using hv)
    simp only [List.set_cons_succ, List.count_cons]
    omega
theorem addW_mono (need : List Bool) (wait : List Int) (k : Nat) {i : Nat} (h : need.getD i false = true) : (addW need wait k).1.getD i false = true := by
  unfold addW
  split
  · exact h
  · by_cases e : i = k
    · subst e
      by_cases hl : i < need.length
      · exact set_get_eq hl
      · rw [List.getD_eq_getElem?_getD, List.getElem?_eq_none (by omega)] at h
        cases h
    · simp only
      rw [set_get_ne e]; exact h
theorem addW_marks (need : List Bool) (wait : List Int) {k : Nat} (hk : k < need.length) : (addW need wait k).1.getD k false = true := by
  unfold addW
  split
  · assumption
  · exact set_get_eq hk
theorem addW_len (need : List Bool) (wait : List Int) (k : Nat) : (addW need wait k).1.length = need.length := by
  unfold addW
  split <;> simp
theorem addW_meas (need : List Bool) (wait : List Int) {k : Nat} (hk : k < need.length) : meas (addW need wait k).1 (addW need wait k).2 ≤ meas need wait := by
  unfold addW
  split
  · exact Nat.le_refl _
  · rename_i h
    have := count_mark need k hk (by simpa using h)
    unfold meas
    simp only [List.length_append, List.length_cons, List.length_nil]
    omega
theorem Succ.mono {N : Net} {need need' : List Bool} {i : Nat} (h : Succ N need i) (hm : ∀ j, need.getD j false = true → need'.getD j false = true) : Succ N need' i :=
  ⟨fun e => hm _ (h.1 e), fun e => hm _ (h.2.1 e), fun e => hm _ (h.2.2 e)⟩
theorem WsInv.add {N : Net} {need : List Bool} {wait : List Int} {ex : Nat → Prop} (h : WsInv N need wait ex) {k : Nat} (hk : k < N.nodes.length) (hr : Reach N k) : WsInv N (addW need wait k).1 (addW need wait k).2 ex := by
  have hm := fun j hj => addW_mono need wait k (i := j) hj
  have hkn : k < need.length := by rw [h.len]; exact hk
  have hmark := addW_marks need wait hkn
  refine ⟨by rw [addW_len]; exact h.len, ?_, ?_, ?_⟩
  · intro i hi hv
    by_cases e : i = k
    · subst e; exact hr
    · apply h.sound i hi
      unfold addW at hv
      split at hv
      · exact hv
      · simp only at hv
        rwa [set_get_ne e] at hv
  · intro j hj
    have : j ∈ wait ∨ j = (k : Int) := by
      unfold addW at hj
      split at hj
      · exact .inl hj
      · simpa using hj
    rcases this with hw | rfl
    · have := h.wok j hw
      exact ⟨this.1, this.2.1, hm _ this.2.2⟩
    · refine ⟨by omega, by omega, ?_⟩
      rw [Int.toNat_natCast]; exact hmark
  · intro i hi hv hw hx
    have hw' : (i : Int) ∉ wait ∧ (need.getD i false = true) := by
      unfold addW at hw hv
      split at hw
      · rename_i hc
        rw [if_pos hc] at hv
        exact ⟨hw, hv⟩
      · rename_i hc
        rw [if_neg hc] at hv
        simp only [List.mem_append, List.mem_singleton, not_or] at hw
        have e : i ≠ k := fun e => hw.2 (by rw [e])
        simp only at hv
        rw [set_get_ne e] at hv
        exact ⟨hw.1, hv⟩
    exact (h.closed i hi hw'.2 hw'.1 hx).mono hm
theorem WsInv.pop {N : Net} {need : List Bool} {wait : List Int} {k : Int} (h : WsInv N need (wait ++ [k]) (fun _ => False)) : WsInv N need wait (fun i => i = k.toNat) := by
  have hk := h.wok k (by simp)
  refine ⟨h.len, h.sound, fun j hj => h.wok j (List.mem_append_left _ hj), fun i hi hv hw hx => ?_⟩
  refine h.closed i hi hv ?_ (fun h => h)
  simp only [List.mem_append, List.mem_singleton, not_or]
  refine ⟨hw, fun e => hx ?_⟩
  rw [← e, Int.toNat_natCast]
theorem WsInv.close {N : Net} {need : List Bool} {wait : List Int} {k : Nat} (h : WsInv N need wait (fun i => i = k)) (hs : Succ N need k) : WsInv N need wait (fun _ => False) := by
  refine ⟨h.len, h.sound, h.wok, fun i hi hv hw _ => ?_⟩
  by_cases e : i = k
  · subst e; exact hs
  · exact h.closed i hi hv hw e
theorem meas_pop (need : List Bool) (wait : List Int) (k : Int) : meas need wait + 1 = meas need (wait ++ [k]) := by
  unfold meas; simp; omega
theorem WsInv.start (N : Net) : WsInv N (List.replicate N.nodes.length false) [] (fun _ => False) := by
  have e : ∀ i, (List.replicate N.nodes.length false).getD i false = false := by
    intro i
    by_cases hi : i < N.nodes.length
    · simp [List.getD_eq_getElem?_getD, hi]
    · rw [List.getD_eq_getElem?_getD, List.getElem?_eq_none (by simp; omega)]; rfl
  exact ⟨by simp, fun i _ h => absurd h (by rw [e]; decide), fun k hk => absurd hk (by simp), fun i _ h => absurd h (by rw [e]; decide)⟩
theorem WsInv.done {N : Net} {need : List Bool} (hN : N.right = true) (h : WsInv N need [] (fun _ => False)) (ho : ∀ j, j < N.outs.length → need.getD (N.outs.getD j 0).toNat false = true) : IsNeed N need := by
  refine ⟨h.len, fun i hi => ⟨h.sound i hi, fun hr => ?_⟩⟩
  suffices hall : ∀ i, Reach N i → i < N.nodes.length ∧ need.getD i false = true from (hall i hr).2
  intro i hr
  induction hr with
  | out k hk =>
    have := Net.out_at hN hk
    exact ⟨by omega, ho k hk⟩
  | reg hr' hop ih =>
    have hk := node_all (Net.right_at hN ih.1)
    have e : ∀ j, N.nodes.getD j GN.zero = nodeAt N.nodes (j : Nat) := fun j => by unfold nodeAt; rw [Int.toNat_natCast]
    rw [e] at hk
    unfold opAt at hop
    exact ⟨by omega, (h.closed _ ih.1 ih.2 (by simp) (fun h => h)).1 hop⟩
  | one hr' hop ih =>
    have hk := node_all (Net.right_at hN ih.1)
    have e : ∀ j, N.nodes.getD j GN.zero = nodeAt N.nodes (j : Nat) := fun j => by unfold nodeAt; rw [Int.toNat_natCast]
    rw [e] at hk
    have hs := (h.closed _ ih.1 ih.2 (by simp) (fun h => h)).2.1 hop
    unfold opAt at hop
    exact ⟨by omega, hs⟩
  | two hr' hop ih =>
    have hk := node_all (Net.right_at hN ih.1)
    have e : ∀ j, N.nodes.getD j GN.zero = nodeAt N.nodes (j : Nat) := fun j => by unfold nodeAt; rw [Int.toNat_natCast]
    rw [e] at hk
    have hs := (h.closed _ ih.1 ih.2 (by simp) (fun h => h)).2.2 hop
    unfold opAt at hop
    exact ⟨by omega, hs⟩
end Go.Proofs.Ytlaeflpddehipaa
