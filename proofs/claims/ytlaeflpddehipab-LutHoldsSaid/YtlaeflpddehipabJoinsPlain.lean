/- Two nets beside one another: plain. -/
import Derived.Test.YtlaeflpddehipabTwicePlain
set_option linter.unusedVariables false
namespace Go.Proofs.Ytlaeflpddehipab
open Go.RowKit

/-- A node of the second net, behind k nodes and s bits of the first one. -/
def GN.move (k s : Int) (x : GN) : GN :=
  if x.op = 3 then ⟨x.op, x.a + s, x.b, x.next⟩
  else if x.op = 4 then ⟨x.op, x.a, x.b, x.next + k⟩
  else if x.op = 8 then ⟨x.op, x.a + k, x.b, x.next⟩
  else if x.op = 5 ∨ x.op = 6 ∨ x.op = 7 then ⟨x.op, x.a + k, x.b + k, x.next⟩
  else x
def shiftOf (N : Net) (same : Bool) : Int := if same then 0 else N.given
def Net.beside (N M : Net) (same : Bool) : Net :=
  ⟨if same then max N.given M.given else N.given + M.given, N.nodes ++ M.nodes.map (GN.move N.nodes.length (shiftOf N same)), N.outs ++ M.outs.map (· + (N.nodes.length : Int))⟩
theorem Net.beside_nodes (N M : Net) (s : Bool) : (N.beside M s).nodes.length = N.nodes.length + M.nodes.length := by simp [Net.beside]
theorem Net.beside_outs (N M : Net) (s : Bool) : (N.beside M s).outs.length = N.outs.length + M.outs.length := by simp [Net.beside]
theorem Net.beside_old (N M : Net) (s : Bool) {k : Nat} (h : k < N.nodes.length) : (N.beside M s).nodes.getD k GN.zero = N.nodes.getD k GN.zero := by
  simp [Net.beside, List.getD_eq_getElem?_getD, List.getElem?_append_left h]
theorem Net.beside_new (N M : Net) (s : Bool) {k : Nat} (h : k < M.nodes.length) : (N.beside M s).nodes.getD (N.nodes.length + k) GN.zero = (M.nodes.getD k GN.zero).move N.nodes.length (shiftOf N s) := by
  simp only [Net.beside, List.getD_eq_getElem?_getD]
  rw [List.getElem?_append_right (by omega), Nat.add_sub_cancel_left, List.getElem?_map, List.getElem?_eq_getElem h]
  rfl
theorem Net.beside_out_old (N M : Net) (s : Bool) {k : Nat} (h : k < N.outs.length) : (N.beside M s).outs.getD k 0 = N.outs.getD k 0 := by
  simp [Net.beside, List.getD_eq_getElem?_getD, List.getElem?_append_left h]
theorem Net.beside_out_new (N M : Net) (s : Bool) {k : Nat} (h : k < M.outs.length) : (N.beside M s).outs.getD (N.outs.length + k) 0 = M.outs.getD k 0 + N.nodes.length := by
  simp only [Net.beside, List.getD_eq_getElem?_getD]
  rw [List.getElem?_append_right (by omega), Nat.add_sub_cancel_left, List.getElem?_map, List.getElem?_eq_getElem h]
  rfl

/-- The kinds of nodes that may be, with all that is known of each. -/
theorem node_all {g : Int} {m k : Nat} {x : GN} (h : nodeRight g m k x = true) :
    (x.op = 1 ∨ x.op = 2) ∨ (x.op = 3 ∧ 0 ≤ x.a ∧ x.a < g) ∨ (x.op = 4 ∧ (x.a = 0 ∨ x.a = 1) ∧ 0 ≤ x.next ∧ x.next < (m : Int)) ∨ (x.op = 8 ∧ 0 ≤ x.a ∧ x.a < (k : Int)) ∨ ((x.op = 5 ∨ x.op = 6 ∨ x.op = 7) ∧ 0 ≤ x.a ∧ x.a < (k : Int) ∧ 0 ≤ x.b ∧ x.b < (k : Int)) := by
  unfold nodeRight aheadB at h
  split at h
  · rename_i h1; exact .inl h1
  · split at h
    · rename_i h1; have := of_decide_eq_true h; exact .inr (.inl ⟨h1, this⟩)
    · split at h
      · rename_i h1; have := of_decide_eq_true h; exact .inr (.inr (.inl ⟨h1, this⟩))
      · split at h
        · rename_i h1; have := of_decide_eq_true h; exact .inr (.inr (.inr (.inl ⟨h1, this⟩)))
        · split at h
          · rename_i h1
            simp only [Bool.and_eq_true] at h
            have h1' := of_decide_eq_true h.1
            have h2' := of_decide_eq_true h.2
            exact .inr (.inr (.inr (.inr ⟨h1, h1'.1, h1'.2, h2'.1, h2'.2⟩)))
          · cases h

theorem node_move {g g' : Int} {m k K : Nat} {s : Int} {x : GN} (h : nodeRight g m k x = true) (hs : 0 ≤ s) (hg : g + s ≤ g') : nodeRight g' (K + m) (K + k) (x.move K s) = true := by
  have h' := node_all h
  obtain ⟨op, a, b, nx⟩ := x
  simp only at h'
  rcases h' with h1 | ⟨rfl, h1⟩ | ⟨rfl, h1⟩ | ⟨rfl, h1⟩ | ⟨h0, h1⟩
  · rcases h1 with rfl | rfl <;> simp [GN.move, nodeRight]
  · simp [GN.move, nodeRight]; omega
  · simp [GN.move, nodeRight]; omega
  · simp [GN.move, nodeRight, aheadB]; omega
  · rcases h0 with rfl | rfl | rfl <;> simp [GN.move, nodeRight, aheadB] <;> omega

theorem getD_append_left (l m : List Bool) (k : Nat) (h : k < l.length) : (l ++ m).getD k false = l.getD k false := by
  simp [List.getD_eq_getElem?_getD, List.getElem?_append_left h]
theorem getD_append_right (l m : List Bool) (k : Nat) : (l ++ m).getD (l.length + k) false = m.getD k false := by
  simp [List.getD_eq_getElem?_getD, List.getElem?_append_right]

theorem valOf_move {g : Int} {m k K : Nat} {s : Nat} {x : GN} (h : nodeRight g m k x = true) (reg : Bool) (G G2 pre0 pre : List Bool) (hp : pre0.length = K) (hG : ∀ a : Nat, (a : Int) < g → G.getD (a + s) false = G2.getD a false) :
    valOf (x.move K s) reg G (pre0 ++ pre) = valOf x reg G2 pre := by
  have h' := node_all h
  obtain ⟨op, a, b, nx⟩ := x
  simp only at h'
  subst hp
  rcases h' with h1 | ⟨rfl, h1⟩ | ⟨rfl, h1⟩ | ⟨rfl, h1⟩ | ⟨h0, h1⟩
  · rcases h1 with rfl | rfl <;> simp [GN.move, valOf]
  · have e : (a + (s : Int)).toNat = a.toNat + s := by omega
    have := hG a.toNat (by omega)
    simp only [List.getD_eq_getElem?_getD] at this
    simp [GN.move, valOf, e, this]
  · simp [GN.move, valOf]
  · have e : (a + (pre0.length : Int)).toNat = pre0.length + a.toNat := by omega
    have h2 := getD_append_right pre0 pre a.toNat
    simp only [List.getD_eq_getElem?_getD] at h2
    simp [GN.move, valOf, e, h2]
  · have e : (a + (pre0.length : Int)).toNat = pre0.length + a.toNat := by omega
    have h2 := getD_append_right pre0 pre a.toNat
    have e' : (b + (pre0.length : Int)).toNat = pre0.length + b.toNat := by omega
    have h2' := getD_append_right pre0 pre b.toNat
    simp only [List.getD_eq_getElem?_getD] at h2 h2'
    rcases h0 with rfl | rfl | rfl <;> simp [GN.move, valOf, e, h2, e', h2']
theorem valOf_same {g : Int} {m k : Nat} {x : GN} (h : nodeRight g m k x = true) (reg : Bool) (G G2 pre : List Bool) (hG : ∀ a : Nat, (a : Int) < g → G.getD a false = G2.getD a false) :
    valOf x reg G pre = valOf x reg G2 pre := by
  have h' := node_all h
  obtain ⟨op, a, b, nx⟩ := x
  simp only at h'
  rcases h' with h1 | ⟨rfl, h1⟩ | ⟨rfl, h1⟩ | ⟨rfl, h1⟩ | ⟨h0, h1⟩
  · rcases h1 with rfl | rfl <;> simp [valOf]
  · have := hG a.toNat (by omega)
    simp only [List.getD_eq_getElem?_getD] at this
    simp [valOf, this]
  · simp [valOf]
  · simp [valOf]
  · rcases h0 with rfl | rfl | rfl <;> simp [valOf]

section
variable {N M : Net} {same : Bool} {rn rm G G1 G2 : List Bool}

theorem beside_vals0 (hN : N.right = true) (hn : rn.length = N.nodes.length) (h1 : ∀ a : Nat, (a : Int) < N.given → G.getD a false = G1.getD a false) (k : Nat) (hk : k ≤ N.nodes.length) :
    (N.beside M same).valsTo (rn ++ rm) G k = N.valsTo rn G1 k := by
  induction k with
  | zero => rfl
  | succ k ih =>
    unfold Net.valsTo
    rw [ih (by omega), Net.beside_old _ _ _ (by omega), getD_append_left _ _ _ (by omega), valOf_same (Net.right_at hN (by omega)) _ _ _ _ h1]

theorem beside_vals1 (hN : N.right = true) (hM : M.right = true) (hn : rn.length = N.nodes.length) (h1 : ∀ a : Nat, (a : Int) < N.given → G.getD a false = G1.getD a false)
    (h2 : ∀ a : Nat, (a : Int) < M.given → G.getD (a + (shiftOf N same).toNat) false = G2.getD a false) (k : Nat) (hk : k ≤ M.nodes.length) :
    (N.beside M same).valsTo (rn ++ rm) G (N.nodes.length + k) = N.vals rn G1 ++ M.valsTo rm G2 k := by
  induction k with
  | zero =>
    rw [Nat.add_zero, beside_vals0 hN hn h1 _ (Nat.le_refl _)]
    simp [Net.vals, Net.valsTo]
  | succ k ih =>
    rw [← Nat.add_assoc]
    unfold Net.valsTo
    have hs : 0 ≤ shiftOf N same := by have := Net.right_sizes hN; unfold shiftOf; split <;> omega
    obtain ⟨s, hs'⟩ := Int.eq_ofNat_of_zero_le hs
    rw [ih (by omega), Net.beside_new _ _ _ (by omega), hs']
    rw [valOf_move (Net.right_at hM (by omega)) _ G G2 (N.vals rn G1) _ (by unfold Net.vals; rw [Net.valsTo_len]) (by rw [hs'] at h2; exact h2)]
    have e : (rn ++ rm).getD (N.nodes.length + k) false = rm.getD k false := by rw [← hn]; exact getD_append_right _ _ _
    rw [e, ← List.append_assoc]

theorem beside_vals (hN : N.right = true) (hM : M.right = true) (hn : rn.length = N.nodes.length) (h1 : ∀ a : Nat, (a : Int) < N.given → G.getD a false = G1.getD a false)
    (h2 : ∀ a : Nat, (a : Int) < M.given → G.getD (a + (shiftOf N same).toNat) false = G2.getD a false) : (N.beside M same).vals (rn ++ rm) G = N.vals rn G1 ++ M.vals rm G2 := by
  show (N.beside M same).valsTo (rn ++ rm) G (N.beside M same).nodes.length = _
  rw [Net.beside_nodes, beside_vals1 hN hM hn h1 h2 _ (Nat.le_refl _)]
  rfl

theorem beside_outVals (hN : N.right = true) (hM : M.right = true) (hn : rn.length = N.nodes.length) (h1 : ∀ a : Nat, (a : Int) < N.given → G.getD a false = G1.getD a false)
    (h2 : ∀ a : Nat, (a : Int) < M.given → G.getD (a + (shiftOf N same).toNat) false = G2.getD a false) : (N.beside M same).outVals (rn ++ rm) G = N.outVals rn G1 ++ M.outVals rm G2 := by
  unfold Net.outVals
  rw [beside_vals hN hM hn h1 h2]
  simp only [Net.beside, List.map_append, List.map_map]
  have hl : (N.vals rn G1).length = N.nodes.length := by unfold Net.vals; rw [Net.valsTo_len]
  congr 1
  · apply List.map_congr_left
    intro o ho
    obtain ⟨i, hi, rfl⟩ := List.mem_iff_getElem.1 ho
    have := Net.out_at hN hi
    simp only [List.getD_eq_getElem?_getD, List.getElem?_eq_getElem hi, Option.getD_some] at this
    exact getD_append_left _ _ _ (by omega)
  · apply List.map_congr_left
    intro o ho
    obtain ⟨i, hi, rfl⟩ := List.mem_iff_getElem.1 ho
    have := Net.out_at hM hi
    simp only [List.getD_eq_getElem?_getD, List.getElem?_eq_getElem hi, Option.getD_some] at this
    simp only [Function.comp]
    rw [show (M.outs[i] + (N.nodes.length : Int)).toNat = (N.vals rn G1).length + M.outs[i].toNat by omega]
    exact getD_append_right _ _ _

theorem beside_regs (hN : N.right = true) (hM : M.right = true) (hn : rn.length = N.nodes.length) (hm : rm.length = M.nodes.length) (h1 : ∀ a : Nat, (a : Int) < N.given → G.getD a false = G1.getD a false)
    (h2 : ∀ a : Nat, (a : Int) < M.given → G.getD (a + (shiftOf N same).toNat) false = G2.getD a false) : (N.beside M same).regs' (rn ++ rm) G = N.regs' rn G1 ++ M.regs' rm G2 := by
  have hl : (N.vals rn G1).length = N.nodes.length := by unfold Net.vals; rw [Net.valsTo_len]
  unfold Net.regs'
  rw [beside_vals hN hM hn h1 h2]
  apply List.ext_getElem?
  intro i
  unfold Net.regsTo
  by_cases hi : i < rn.length
  · rw [List.getElem?_append_left (by simpa using hi)]
    rw [List.getElem?_map, List.getElem?_map, List.getElem?_range hi, List.getElem?_range (by rw [List.length_append]; omega), Option.map_some, Option.map_some]
    rw [Net.beside_old _ _ _ (by omega), getD_append_left _ _ _ hi, Net.beside_nodes]
    by_cases h4 : (N.nodes.getD i GN.zero).op = 4
    · rw [if_pos ⟨by omega, h4⟩, if_pos ⟨by omega, h4⟩]
      have hr := Net.right_at hN (k := i) (by omega)
      have := node_all hr
      rw [getD_append_left _ _ _ (by omega)]
    · rw [if_neg (fun h => h4 h.2), if_neg (fun h => h4 h.2)]
  · obtain ⟨j, rfl⟩ : ∃ j, i = rn.length + j := ⟨i - rn.length, by omega⟩
    rw [List.getElem?_append_right (by simp)]
    simp only [List.length_map, List.length_range, Nat.add_sub_cancel_left]
    by_cases hj : j < rm.length
    · rw [List.getElem?_map, List.getElem?_map, List.getElem?_range hj, List.getElem?_range (by rw [List.length_append]; omega), Option.map_some, Option.map_some]
      rw [getD_append_right, hn, Net.beside_new _ _ _ (by omega), Net.beside_nodes]
      have hr := Net.right_at hM (k := j) (by omega)
      have ho : ((M.nodes.getD j GN.zero).move N.nodes.length (shiftOf N same)).op = (M.nodes.getD j GN.zero).op := by
        unfold GN.move
        repeat (first | rfl | split)
      rw [ho]
      by_cases h4 : (M.nodes.getD j GN.zero).op = 4
      · rw [if_pos ⟨by omega, h4⟩, if_pos ⟨by omega, h4⟩]
        have := node_all hr
        have e : ((M.nodes.getD j GN.zero).move N.nodes.length (shiftOf N same)).next = (M.nodes.getD j GN.zero).next + N.nodes.length := by
          unfold GN.move
          rw [if_neg (by omega), if_pos h4]
        rw [e, show ((M.nodes.getD j GN.zero).next + (N.nodes.length : Int)).toNat = (N.vals rn G1).length + (M.nodes.getD j GN.zero).next.toNat by omega, getD_append_right]
      · rw [if_neg (fun h => h4 h.2), if_neg (fun h => h4 h.2)]
    · rw [List.getElem?_eq_none (by simp; omega), List.getElem?_eq_none (by simp; omega)]
end

theorem Net.beside_first (N M : Net) (s : Bool) : (N.beside M s).first = N.first ++ M.first := by
  simp only [Net.first, Net.beside, List.map_append, List.map_map]
  congr 1
  apply List.map_congr_left
  intro x _
  obtain ⟨op, a, b, nx⟩ := x
  simp only [Function.comp, GN.move]
  by_cases h3 : op = 3
  · subst h3; simp [GN.first]
  · rw [if_neg h3]
    by_cases h4 : op = 4
    · rw [if_pos h4]; simp [GN.first]
    · rw [if_neg h4]
      by_cases h8 : op = 8
      · subst h8; simp [GN.first]
      · rw [if_neg h8]
        by_cases h5 : op = 5 ∨ op = 6 ∨ op = 7
        · rw [if_pos h5]; rcases h5 with rfl | rfl | rfl <;> simp [GN.first]
        · rw [if_neg h5]

theorem Net.beside_right {N M : Net} (s : Bool) (hN : N.right = true) (hM : M.right = true) (h1 : N.nodes.length + M.nodes.length ≤ 20000) (h2 : N.outs.length + M.outs.length ≤ 20000) (h3 : N.given + M.given ≤ 20000) : (N.beside M s).right = true := by
  have hs := Net.right_sizes hN
  have hs' := Net.right_sizes hM
  have hg : (N.beside M s).given = if s then max N.given M.given else N.given + M.given := rfl
  have hgl : N.given ≤ (N.beside M s).given ∧ M.given + shiftOf N s ≤ (N.beside M s).given ∧ 0 ≤ shiftOf N s ∧ (N.beside M s).given ≤ 20000 := by
    rw [hg]; unfold shiftOf
    cases s <;> simp <;> omega
  unfold Net.right
  simp only [Bool.and_eq_true]
  refine ⟨⟨?_, ?_⟩, ?_⟩
  · unfold Net.sizes
    rw [decide_eq_true_eq, Net.beside_nodes, Net.beside_outs]
    omega
  · unfold Net.rightTo
    rw [List.all_eq_true]
    intro k hk
    rw [List.mem_range, Net.beside_nodes] at hk
    rw [Net.beside_nodes]
    by_cases e : k < N.nodes.length
    · rw [Net.beside_old _ _ _ e]
      have := node_all (Net.right_at hN e)
      generalize N.nodes.getD k GN.zero = x at *
      obtain ⟨op, a, b, nx⟩ := x
      simp only at this
      rcases this with h | ⟨rfl, h⟩ | ⟨rfl, h⟩ | ⟨rfl, h⟩ | ⟨h0, h⟩
      · rcases h with rfl | rfl <;> simp [nodeRight]
      · simp [nodeRight]; omega
      · simp [nodeRight]; omega
      · simp [nodeRight, aheadB]; omega
      · rcases h0 with rfl | rfl | rfl <;> simp [nodeRight, aheadB] <;> omega
    · obtain ⟨j, rfl⟩ : ∃ j, k = N.nodes.length + j := ⟨k - N.nodes.length, by omega⟩
      rw [Net.beside_new _ _ _ (by omega)]
      exact node_move (Net.right_at hM (by omega)) hgl.2.2.1 hgl.2.1
  · unfold Net.outsTo
    rw [List.all_eq_true]
    intro i hi
    rw [List.mem_range, Net.beside_outs] at hi
    rw [Net.beside_nodes]
    by_cases e : i < N.outs.length
    · rw [Net.beside_out_old _ _ _ e]
      have := Net.out_at hN e
      rw [decide_eq_true_eq]; omega
    · obtain ⟨j, rfl⟩ : ∃ j, i = N.outs.length + j := ⟨i - N.outs.length, by omega⟩
      rw [Net.beside_out_new _ _ _ (by omega)]
      have := Net.out_at hM (k := j) (by omega)
      rw [decide_eq_true_eq]; omega
end Go.Proofs.Ytlaeflpddehipab
