/- Two nets beside one another: plain. Rows and blocks of different types, one beside the other, when one of them is appended to; nets in the making. 'append(out, src...)' where out is the call's own; rows of bits. -/
import Derived.Test.YtlaeflpddehipabDoorTwUseAll
section
set_option linter.unusedVariables false
namespace Go.Proofs.YtlaeflpddehipabDoor
open Go.RowKit

/-- A node of the second net, behind k nodes and s bits of the first one. -/
def GN.move (k s : Int) (x : GN) : GN :=
  if x.op = 3 then ⟨x.op, x.a + s, x.b, x.next⟩
  else if x.op = 4 then ⟨x.op, x.a, x.b, x.next + k⟩
  else if x.op = 8 then ⟨x.op, x.a + k, x.b, x.next⟩
  else if x.op = 5 ∨ x.op = 6 ∨ x.op = 7 then ⟨x.op, x.a + k, x.b + k, x.next⟩
  else x
def shiftOf (N : Net) (same : Bool) : Int := if same then 0 else N.given
def Net.beside (N M : Net) (same : Bool) : Net :=
  ⟨if same then max N.given M.given else N.given + M.given, N.nodes ++ M.nodes.map (GN.move N.nodes.length (shiftOf N same)), N.outs ++ M.outs.map (· + (N.nodes.length : Int))⟩
theorem Net.beside_nodes (N M : Net) (s : Bool) : (N.beside M s).nodes.length = N.nodes.length + M.nodes.length := by simp [Net.beside]
theorem Net.beside_outs (N M : Net) (s : Bool) : (N.beside M s).outs.length = N.outs.length + M.outs.length := by simp [Net.beside]
theorem Net.beside_old (N M : Net) (s : Bool) {k : Nat} (h : k < N.nodes.length) : (N.beside M s).nodes.getD k GN.zero = N.nodes.getD k GN.zero := by
  simp [Net.beside, List.getD_eq_getElem?_getD, List.getElem?_append_left h]
theorem Net.beside_new (N M : Net) (s : Bool) {k : Nat} (h : k < M.nodes.length) : (N.beside M s).nodes.getD (N.nodes.length + k) GN.zero = (M.nodes.getD k GN.zero).move N.nodes.length (shiftOf N s) := by
  simp only [Net.beside, List.getD_eq_getElem?_getD]
  rw [List.getElem?_append_right (by omega), Nat.add_sub_cancel_left, List.getElem?_map, List.getElem?_eq_getElem h]
  rfl
theorem Net.beside_out_old (N M : Net) (s : Bool) {k : Nat} (h : k < N.outs.length) : (N.beside M s).outs.getD k 0 = N.outs.getD k 0 := by
  simp [Net.beside, List.getD_eq_getElem?_getD, List.getElem?_append_left h]
theorem Net.beside_out_new (N M : Net) (s : Bool) {k : Nat} (h : k < M.outs.length) : (N.beside M s).outs.getD (N.outs.length + k) 0 = M.outs.getD k 0 + N.nodes.length := by
  simp only [Net.beside, List.getD_eq_getElem?_getD]
  rw [List.getElem?_append_right (by omega), Nat.add_sub_cancel_left, List.getElem?_map, List.getElem?_eq_getElem h]
  rfl

/-- The kinds of nodes that may be, with all that is known of each. -/
theorem node_all {g : Int} {m k : Nat} {x : GN} (h : nodeRight g m k x = true) :
    (x.op = 1 ∨ x.op = 2) ∨ (x.op = 3 ∧ 0 ≤ x.a ∧ x.a < g) ∨ (x.op = 4 ∧ (x.a = 0 ∨ x.a = 1) ∧ 0 ≤ x.next ∧ x.next < (m : Int)) ∨ (x.op = 8 ∧ 0 ≤ x.a ∧ x.a < (k : Int)) ∨ ((x.op = 5 ∨ x.op = 6 ∨ x.op = 7) ∧ 0 ≤ x.a ∧ x.a < (k : Int) ∧ 0 ≤ x.b ∧ x.b < (k : Int)) := by
  unfold nodeRight aheadB at h
  split at h
  · rename_i h1; exact .inl h1
  · split at h
    · rename_i h1; have := of_decide_eq_true h; exact .inr (.inl ⟨h1, this⟩)
    · split at h
      · rename_i h1; have := of_decide_eq_true h; exact .inr (.inr (.inl ⟨h1, this⟩))
      · split at h
        · rename_i h1; have := of_decide_eq_true h; exact .inr (.inr (.inr (.inl ⟨h1, this⟩)))
        · split at h
          · rename_i h1
            simp only [Bool.and_eq_true] at h
            have h1' := of_decide_eq_true h.1
            have h2' := of_decide_eq_true h.2
            exact .inr (.inr (.inr (.inr ⟨h1, h1'.1, h1'.2, h2'.1, h2'.2⟩)))
          · cases h

theorem node_move {g g' : Int} {m k K : Nat} {s : Int} {x : GN} (h : nodeRight g m k x = true) (hs : 0 ≤ s) (hg : g + s ≤ g') : nodeRight g' (K + m) (K + k) (x.move K s) = true := by
  have h' := node_all h
  obtain ⟨op, a, b, nx⟩ := x
  simp only at h'
  rcases h' with h1 | ⟨rfl, h1⟩ | ⟨rfl, h1⟩ | ⟨rfl, h1⟩ | ⟨h0, h1⟩
  · rcases h1 with rfl | rfl <;> simp [GN.move, nodeRight]
  · simp [GN.move, nodeRight]; omega
  · simp [GN.move, nodeRight]; omega
  · simp [GN.move, nodeRight, aheadB]; omega
  · rcases h0 with rfl | rfl | rfl <;> simp [GN.move, nodeRight, aheadB] <;> omega

theorem getD_append_left (l m : List Bool) (k : Nat) (h : k < l.length) : (l ++ m).getD k false = l.getD k false := by
  simp [List.getD_eq_getElem?_getD, List.getElem?_append_left h]
theorem getD_append_right (l m : List Bool) (k : Nat) : (l ++ m).getD (l.length + k) false = m.getD k false := by
  simp [List.getD_eq_getElem?_getD, List.getElem?_append_right]

theorem valOf_move {g : Int} {m k K : Nat} {s : Nat} {x : GN} (h : nodeRight g m k x = true) (reg : Bool) (G G2 pre0 pre : List Bool) (hp : pre0.length = K) (hG : ∀ a : Nat, (a : Int) < g → G.getD (a + s) false = G2.getD a false) :
    valOf (x.move K s) reg G (pre0 ++ pre) = valOf x reg G2 pre := by
  have h' := node_all h
  obtain ⟨op, a, b, nx⟩ := x
  simp only at h'
  subst hp
  rcases h' with h1 | ⟨rfl, h1⟩ | ⟨rfl, h1⟩ | ⟨rfl, h1⟩ | ⟨h0, h1⟩
  · rcases h1 with rfl | rfl <;> simp [GN.move, valOf]
  · have e : (a + (s : Int)).toNat = a.toNat + s := by omega
    have := hG a.toNat (by omega)
    simp only [List.getD_eq_getElem?_getD] at this
    simp [GN.move, valOf, e, this]
  · simp [GN.move, valOf]
  · have e : (a + (pre0.length : Int)).toNat = pre0.length + a.toNat := by omega
    have h2 := getD_append_right pre0 pre a.toNat
    simp only [List.getD_eq_getElem?_getD] at h2
    simp [GN.move, valOf, e, h2]
  · have e : (a + (pre0.length : Int)).toNat = pre0.length + a.toNat := by omega
    have h2 := getD_append_right pre0 pre a.toNat
    have e' : (b + (pre0.length : Int)).toNat = pre0.length + b.toNat := by omega
    have h2' := getD_append_right pre0 pre b.toNat
    simp only [List.getD_eq_getElem?_getD] at h2 h2'
    rcases h0 with rfl | rfl | rfl <;> simp [GN.move, valOf, e, h2, e', h2']
theorem valOf_same {g : Int} {m k : Nat} {x : GN} (h : nodeRight g m k x = true) (reg : Bool) (G G2 pre : List Bool) (hG : ∀ a : Nat, (a : Int) < g → G.getD a false = G2.getD a false) :
    valOf x reg G pre = valOf x reg G2 pre := by
  have h' := node_all h
  obtain ⟨op, a, b, nx⟩ := x
  simp only at h'
  rcases h' with h1 | ⟨rfl, h1⟩ | ⟨rfl, h1⟩ | ⟨rfl, h1⟩ | ⟨h0, h1⟩
  · rcases h1 with rfl | rfl <;> simp [valOf]
  · have := hG a.toNat (by omega)
    simp only [List.getD_eq_getElem?_getD] at this
    simp [valOf, this]
  · simp [valOf]
  · simp [valOf]
  · rcases h0 with rfl | rfl | rfl <;> simp [valOf]

section
variable {N M : Net} {same : Bool} {rn rm G G1 G2 : List Bool}

theorem beside_vals0 (hN : N.right = true) (hn : rn.length = N.nodes.length) (h1 : ∀ a : Nat, (a : Int) < N.given → G.getD a false = G1.getD a false) (k : Nat) (hk : k ≤ N.nodes.length) :
    (N.beside M same).valsTo (rn ++ rm) G k = N.valsTo rn G1 k := by
  induction k with
  | zero => rfl
  | succ k ih =>
    unfold Net.valsTo
    rw [ih (by omega), Net.beside_old _ _ _ (by omega), getD_append_left _ _ _ (by omega), valOf_same (Net.right_at hN (by omega)) _ _ _ _ h1]

theorem beside_vals1 (hN : N.right = true) (hM : M.right = true) (hn : rn.length = N.nodes.length) (h1 : ∀ a : Nat, (a : Int) < N.given → G.getD a false = G1.getD a false)
    (h2 : ∀ a : Nat, (a : Int) < M.given → G.getD (a + (shiftOf N same).toNat) false = G2.getD a false) (k : Nat) (hk : k ≤ M.nodes.length) :
    (N.beside M same).valsTo (rn ++ rm) G (N.nodes.length + k) = N.vals rn G1 ++ M.valsTo rm G2 k := by
  induction k with
  | zero =>
    rw [Nat.add_zero, beside_vals0 hN hn h1 _ (Nat.le_refl _)]
    simp [Net.vals, Net.valsTo]
  | succ k ih =>
    rw [← Nat.add_assoc]
    unfold Net.valsTo
    have hs : 0 ≤ shiftOf N same := by have := Net.right_sizes hN; unfold shiftOf; split <;> omega
    obtain ⟨s, hs'⟩ := Int.eq_ofNat_of_zero_le hs
    rw [ih (by omega), Net.beside_new _ _ _ (by omega), hs']
    rw [valOf_move (Net.right_at hM (by omega)) _ G G2 (N.vals rn G1) _ (by unfold Net.vals; rw [Net.valsTo_len]) (by rw [hs'] at h2; exact h2)]
    have e : (rn ++ rm).getD (N.nodes.length + k) false = rm.getD k false := by rw [← hn]; exact getD_append_right _ _ _
    rw [e, ← List.append_assoc]

theorem beside_vals (hN : N.right = true) (hM : M.right = true) (hn : rn.length = N.nodes.length) (h1 : ∀ a : Nat, (a : Int) < N.given → G.getD a false = G1.getD a false)
    (h2 : ∀ a : Nat, (a : Int) < M.given → G.getD (a + (shiftOf N same).toNat) false = G2.getD a false) : (N.beside M same).vals (rn ++ rm) G = N.vals rn G1 ++ M.vals rm G2 := by
  show (N.beside M same).valsTo (rn ++ rm) G (N.beside M same).nodes.length = _
  rw [Net.beside_nodes, beside_vals1 hN hM hn h1 h2 _ (Nat.le_refl _)]
  rfl

theorem beside_outVals (hN : N.right = true) (hM : M.right = true) (hn : rn.length = N.nodes.length) (h1 : ∀ a : Nat, (a : Int) < N.given → G.getD a false = G1.getD a false)
    (h2 : ∀ a : Nat, (a : Int) < M.given → G.getD (a + (shiftOf N same).toNat) false = G2.getD a false) : (N.beside M same).outVals (rn ++ rm) G = N.outVals rn G1 ++ M.outVals rm G2 := by
  unfold Net.outVals
  rw [beside_vals hN hM hn h1 h2]
  simp only [Net.beside, List.map_append, List.map_map]
  have hl : (N.vals rn G1).length = N.nodes.length := by unfold Net.vals; rw [Net.valsTo_len]
  congr 1
  · apply List.map_congr_left
    intro o ho
    obtain ⟨i, hi, rfl⟩ := List.mem_iff_getElem.1 ho
    have := Net.out_at hN hi
    simp only [List.getD_eq_getElem?_getD, List.getElem?_eq_getElem hi, Option.getD_some] at this
    exact getD_append_left _ _ _ (by omega)
  · apply List.map_congr_left
    intro o ho
    obtain ⟨i, hi, rfl⟩ := List.mem_iff_getElem.1 ho
    have := Net.out_at hM hi
    simp only [List.getD_eq_getElem?_getD, List.getElem?_eq_getElem hi, Option.getD_some] at this
    simp only [Function.comp]
    rw [show (M.outs[i] + (N.nodes.length : Int)).toNat = (N.vals rn G1).length + M.outs[i].toNat by omega]
    exact getD_append_right _ _ _

theorem beside_regs (hN : N.right = true) (hM : M.right = true) (hn : rn.length = N.nodes.length) (hm : rm.length = M.nodes.length) (h1 : ∀ a : Nat, (a : Int) < N.given → G.getD a false = G1.getD a false)
    (h2 : ∀ a : Nat, (a : Int) < M.given → G.getD (a + (shiftOf N same).toNat) false = G2.getD a false) : (N.beside M same).regs' (rn ++ rm) G = N.regs' rn G1 ++ M.regs' rm G2 := by
  have hl : (N.vals rn G1).length = N.nodes.length := by unfold Net.vals; rw [Net.valsTo_len]
  unfold Net.regs'
  rw [beside_vals hN hM hn h1 h2]
  apply List.ext_getElem?
  intro i
  unfold Net.regsTo
  by_cases hi : i < rn.length
  · rw [List.getElem?_append_left (by simpa using hi)]
    rw [List.getElem?_map, List.getElem?_map, List.getElem?_range hi, List.getElem?_range (by rw [List.length_append]; omega), Option.map_some, Option.map_some]
    rw [Net.beside_old _ _ _ (by omega), getD_append_left _ _ _ hi, Net.beside_nodes]
    by_cases h4 : (N.nodes.getD i GN.zero).op = 4
    · rw [if_pos ⟨by omega, h4⟩, if_pos ⟨by omega, h4⟩]
      have hr := Net.right_at hN (k := i) (by omega)
      have := node_all hr
      rw [getD_append_left _ _ _ (by omega)]
    · rw [if_neg (fun h => h4 h.2), if_neg (fun h => h4 h.2)]
  · obtain ⟨j, rfl⟩ : ∃ j, i = rn.length + j := ⟨i - rn.length, by omega⟩
    rw [List.getElem?_append_right (by simp)]
    simp only [List.length_map, List.length_range, Nat.add_sub_cancel_left]
    by_cases hj : j < rm.length
    · rw [List.getElem?_map, List.getElem?_map, List.getElem?_range hj, List.getElem?_range (by rw [List.length_append]; omega), Option.map_some, Option.map_some]
      rw [getD_append_right, hn, Net.beside_new _ _ _ (by omega), Net.beside_nodes]
      have hr := Net.right_at hM (k := j) (by omega)
      have ho : ((M.nodes.getD j GN.zero).move N.nodes.length (shiftOf N same)).op = (M.nodes.getD j GN.zero).op := by
        unfold GN.move
        repeat (first | rfl | split)
      rw [ho]
      by_cases h4 : (M.nodes.getD j GN.zero).op = 4
      · rw [if_pos ⟨by omega, h4⟩, if_pos ⟨by omega, h4⟩]
        have := node_all hr
        have e : ((M.nodes.getD j GN.zero).move N.nodes.length (shiftOf N same)).next = (M.nodes.getD j GN.zero).next + N.nodes.length := by
          unfold GN.move
          rw [if_neg (by omega), if_pos h4]
        rw [e, show ((M.nodes.getD j GN.zero).next + (N.nodes.length : Int)).toNat = (N.vals rn G1).length + (M.nodes.getD j GN.zero).next.toNat by omega, getD_append_right]
      · rw [if_neg (fun h => h4 h.2), if_neg (fun h => h4 h.2)]
    · rw [List.getElem?_eq_none (by simp; omega), List.getElem?_eq_none (by simp; omega)]
end

theorem Net.beside_first (N M : Net) (s : Bool) : (N.beside M s).first = N.first ++ M.first := by
  simp only [Net.first, Net.beside, List.map_append, List.map_map]
  congr 1
  apply List.map_congr_left
  intro x _
  obtain ⟨op, a, b, nx⟩ := x
  simp only [Function.comp, GN.move]
  by_cases h3 : op = 3
  · subst h3; simp [GN.first]
  · rw [if_neg h3]
    by_cases h4 : op = 4
    · rw [if_pos h4]; simp [GN.first]
    · rw [if_neg h4]
      by_cases h8 : op = 8
      · subst h8; simp [GN.first]
      · rw [if_neg h8]
        by_cases h5 : op = 5 ∨ op = 6 ∨ op = 7
        · rw [if_pos h5]; rcases h5 with rfl | rfl | rfl <;> simp [GN.first]
        · rw [if_neg h5]

theorem Net.beside_right {N M : Net} (s : Bool) (hN : N.right = true) (hM : M.right = true) (h1 : N.nodes.length + M.nodes.length ≤ 20000) (h2 : N.outs.length + M.outs.length ≤ 20000) (h3 : N.given + M.given ≤ 20000) : (N.beside M s).right = true := by
  have hs := Net.right_sizes hN
  have hs' := Net.right_sizes hM
  have hg : (N.beside M s).given = if s then max N.given M.given else N.given + M.given := rfl
  have hgl : N.given ≤ (N.beside M s).given ∧ M.given + shiftOf N s ≤ (N.beside M s).given ∧ 0 ≤ shiftOf N s ∧ (N.beside M s).given ≤ 20000 := by
    rw [hg]; unfold shiftOf
    cases s <;> simp <;> omega
  unfold Net.right
  simp only [Bool.and_eq_true]
  refine ⟨⟨?_, ?_⟩, ?_⟩
  · unfold Net.sizes
    rw [decide_eq_true_eq, Net.beside_nodes, Net.beside_outs]
    omega
  · unfold Net.rightTo
    rw [List.all_eq_true]
    intro k hk
    rw [List.mem_range, Net.beside_nodes] at hk
    rw [Net.beside_nodes]
    by_cases e : k < N.nodes.length
    · rw [Net.beside_old _ _ _ e]
      have := node_all (Net.right_at hN e)
      generalize N.nodes.getD k GN.zero = x at *
      obtain ⟨op, a, b, nx⟩ := x
      simp only at this
      rcases this with h | ⟨rfl, h⟩ | ⟨rfl, h⟩ | ⟨rfl, h⟩ | ⟨h0, h⟩
      · rcases h with rfl | rfl <;> simp [nodeRight]
      · simp [nodeRight]; omega
      · simp [nodeRight]; omega
      · simp [nodeRight, aheadB]; omega
      · rcases h0 with rfl | rfl | rfl <;> simp [nodeRight, aheadB] <;> omega
    · obtain ⟨j, rfl⟩ : ∃ j, k = N.nodes.length + j := ⟨k - N.nodes.length, by omega⟩
      rw [Net.beside_new _ _ _ (by omega)]
      exact node_move (Net.right_at hM (by omega)) hgl.2.2.1 hgl.2.1
  · unfold Net.outsTo
    rw [List.all_eq_true]
    intro i hi
    rw [List.mem_range, Net.beside_outs] at hi
    rw [Net.beside_nodes]
    by_cases e : i < N.outs.length
    · rw [Net.beside_out_old _ _ _ e]
      have := Net.out_at hN e
      rw [decide_eq_true_eq]; omega
    · obtain ⟨j, rfl⟩ : ∃ j, i = N.outs.length + j := ⟨i - N.outs.length, by omega⟩
      rw [Net.beside_out_new _ _ _ (by omega)]
      have := Net.out_at hM (k := j) (by omega)
      rw [decide_eq_true_eq]; omega
end Go.Proofs.YtlaeflpddehipabDoor
end
section
set_option linter.unusedVariables false
namespace Go.Proofs.YtlaeflpddehipabDoor
open Go.RowKit

/-- As step_append_src; what was owned ahead of it is handed on. -/
theorem step_append_held {P : Program} {ops : Array Oper} {o : Oper} {a : Act} {w : World} {K : Act → World → Prop} {Q : Exit → Act → World → Prop} {E : Prop} (hw : Region.wanted o (yielded ops a.tmps) = true) (s x : Operand) (t : TypeId)
    (ho : o.op = .call { callee := .builtin .append, args := #[s, x], argTypes := #[t, t] })
    (base : Nat) (e : TypeId) (i : TypeInfo) (z : Value) (size bytes : Nat) (ht : P.underlying t = some (.slice e)) (hi : P.info? e = some i) (hz : i.zero = some z)
    (hsize : i.size = size) (hby : i.bytes = bytes) (hzs : z.cells.size = size) (hsz : 0 < size)
    (v : Value) (n : Nat) (xs : List Value) (hs : a.eval s = v) (hown : w.ownsRow base e size v n xs)
    (ad : Option Addr) (m c : Nat) (news : List Value) (hx : a.eval x = .slice ad m c) (hnil : ad = none → m = 0 ∧ c = 0) (hl : news.length = m * size) (hnews : ∀ ad', ad = some ad' → ∀ j u, news[j]? = some u → w.cell? (ad'.add j) = some u) (h1 : ∀ u ∈ news, u.oneCell' = true)
    (h63 : n + m ≤ maxLen) (hbytes : (n + m) * bytes ≤ 140737488355328) (hbase : base ≤ w.heap.size)
    (h : ∀ av cv w', Hid (w.ownsRow base e size v n xs) → Hid (w'.ownsRow base e size (.slice av (n + m) cv) (n + m) (xs ++ news)) → Hid (w.grownBy w' v.ownBlock) → K (a.put o.dst (.slice av (n + m) cv)) w') :
    if Region.wanted o (yielded ops a.tmps) = true then Oper.wp P o a w K Q else E :=
  step_append_src_w hw s x t ho base e i z size bytes ht hi hz hsize hby hzs hsz v n xs hs hown ad m c news hx hnil hl hnews h1 h63 hbytes hbase (fun av cv w' h2 h3 => h av cv w' hown h2 h3)

/-- As wpList_push; the new block's number is spelled as the walk spells it. -/
theorem wpList_push_g {P : Program} {ops : Array Oper} {rest : List Oper} {o : Oper} {a : Act} {Q : Exit → Act → World → Prop} (W w0 wr : World) (g : Nat) (hg : wr.heap.size = g) (hgd : o.guard = none) (s x : Operand) (t : TypeId)
    (ho : o.op = .call { callee := .builtin .append, args := #[s, x], argTypes := #[t, t] })
    (e : TypeId) (i : TypeInfo) (z : Value) (size bytes : Nat) (ht : P.underlying t = some (.slice e)) (hi : P.info? e = some i) (hz : i.zero = some z)
    (hsize : i.size = size) (hby : i.bytes = bytes) (hzs : z.cells.size = size) (hsz : 0 < size)
    (base : Nat) (v : Value) (n : Nat) (xs : List Value) (hs : a.eval s = v) (hown : wr.ownsRow base e size v n xs)
    (m c : Nat) (cs : Array Value) (hW : W = wr.alloc (.cells cs e)) (hx : a.eval x = .slice (some ⟨g, 0, none⟩) m c) (hl : cs.size = m * size) (h1 : cs.toList.all Value.oneCell' = true)
    (h63 : n + m ≤ maxLen) (hbytes : (n + m) * bytes ≤ 140737488355328) (hbel : Below w0.heap.size w0 wr) (hbase : w0.heap.size ≤ base) (hbase' : base ≤ wr.heap.size)
    (h : ∀ v' w', w'.ownsRow base e size v' (n + m) (xs ++ cs.toList) → Below w0.heap.size w0 w' → wr.grownBy w' v.ownBlock → (v' = .slice none 0 0 ↔ v = .slice none 0 0 ∧ m = 0) → wpList P ops Q rest (a.put o.dst v') w') :
    wpList P ops Q (o :: rest) a W := by
  subst hg
  exact wpList_push W w0 wr hgd s x t ho e i z size bytes ht hi hz hsize hby hzs hsz base v n xs hs hown m c cs hW hx hl h1 h63 hbytes hbel hbase hbase' h

theorem own_ne {w : World} {b1 e1 s1 n1 b2 e2 s2 n2 : Nat} {v1 v2 : Value} {xs1 xs2 : List Value} (h1 : w.ownsRow b1 e1 s1 v1 n1 xs1) (h2 : w.ownsRow b2 e2 s2 v2 n2 xs2) (hne : e1 ≠ e2) (k : Nat) (hk : v2.ownBlock = some k) : v1.ownBlock ≠ some k := by
  intro hk'
  rcases h1.2 with ⟨rfl, _⟩ | ⟨g, cap, cur, rfl, _, hh, _⟩
  · simp [Value.ownBlock] at hk'
  · rcases h2.2 with ⟨rfl, _⟩ | ⟨g', cap', cur', rfl, _, hh', _⟩
    · simp [Value.ownBlock] at hk
    · simp only [Value.ownBlock, Option.some.injEq] at hk hk'
      subst hk'
      subst hk
      rw [hh] at hh'
      cases hh'
      exact hne rfl
theorem box_ne {w : World} {b1 e1 s1 n1 k T : Nat} {v1 : Value} {xs1 : List Value} {cs : Array Value} (h1 : w.ownsRow b1 e1 s1 v1 n1 xs1) (h2 : w.heap[k]? = some (.cells cs T (0, 0))) (hne : e1 ≠ T) : v1.ownBlock ≠ some k := by
  intro hk'
  rcases h1.2 with ⟨rfl, _⟩ | ⟨g, cap, cur, rfl, _, hh, _⟩
  · simp [Value.ownBlock] at hk'
  · simp only [Value.ownBlock, Option.some.injEq] at hk'
    subst hk'
    rw [hh] at h2
    cases h2
    exact hne rfl

theorem cross_row {W wb : World} {b1 e1 s1 n1 b2 e2 s2 n2 : Nat} {v1 v2 : Value} {xs1 xs2 : List Value} (hgb : W.grownBy wb v1.ownBlock) (h1 : W.ownsRow b1 e1 s1 v1 n1 xs1) (h2 : W.ownsRow b2 e2 s2 v2 n2 xs2) (hne : e1 ≠ e2) : wb.ownsRow b2 e2 s2 v2 n2 xs2 :=
  owns_keep h2 fun k hk => hgb.block k (h2.lt k hk).2 (fun e => own_ne h1 h2 hne k hk e.symm)
theorem lt_of_block {w : World} {k : Nat} {o : Obj} (h : w.heap[k]? = some o) : k < w.heap.size := by
  rcases Nat.lt_or_ge k w.heap.size with h' | h'
  · exact h'
  · rw [Array.getElem?_eq_none h'] at h; cases h
theorem cross_box {W wb : World} {b1 e1 s1 n1 k T : Nat} {v1 : Value} {xs1 : List Value} {cs : Array Value} (hgb : W.grownBy wb v1.ownBlock) (h1 : W.ownsRow b1 e1 s1 v1 n1 xs1) (h2 : W.heap[k]? = some (.cells cs T (0, 0))) (hne : e1 ≠ T) : wb.heap[k]? = some (.cells cs T (0, 0)) :=
  (hgb.block k (lt_of_block h2) (fun e => box_ne h1 h2 hne e.symm)).trans h2
theorem cross_below {B : Nat} {w W wb : World} {e1 s1 n1 : Nat} {v1 : Value} {xs1 : List Value} (hgb : W.grownBy wb v1.ownBlock) (h1 : W.ownsRow B e1 s1 v1 n1 xs1) (hb : Below B w W) (hB : B ≤ W.heap.size) : Below B w wb :=
  hb.grown hgb hB (fun k hk => (h1.lt k hk).1)

theorem empty_g {B : Nat} (w : World) (e size g : Nat) (hg : w.heap.size = g) (hB : B ≤ w.heap.size) : (w.alloc (.cells #[] e)).ownsRow B e size (.slice (some ⟨g, 0, none⟩) 0 0) 0 [] := by
  subst hg
  exact ownsRow_base (World.ownsRow_lit w #[] 0 (Nat.le_refl _) (Nat.zero_le _) (by simp)) hB
theorem box_top (w : World) (cs : Array Value) (T : Nat) : (w.alloc (.cells cs T)).heap[w.heap.size]? = some (.cells cs T (0, 0)) := alloc_at _ _
theorem box_under {w : World} {k : Nat} {o : Obj} (o' : Obj) (h : w.heap[k]? = some o) : (w.alloc o').heap[k]? = some o := (Below.heap_alloc _ _ _ (lt_of_block h)).trans h
theorem box_drew {w : World} {k : Nat} {o : Obj} (h : w.heap[k]? = some o) : w.drew.heap[k]? = some o := h

theorem nodeVals_app1 (L : List GN) (x : GN) : nodeVals (L ++ [x]) = nodeVals L ++ x.cells.toList := by
  apply List.ext_getElem?
  intro j
  by_cases h1 : j < L.length * 4
  · rw [List.getElem?_append_left (by rw [nodeVals_len]; exact h1), nodeVals_get _ _ h1, nodeVals_get _ _ (by simp; omega)]
    have : j / 4 < L.length := by omega
    simp [nodeCell, List.getD_eq_getElem?_getD, List.getElem?_append_left this]
  · rw [List.getElem?_append_right (by rw [nodeVals_len]; omega), nodeVals_len]
    by_cases h2 : j < L.length * 4 + 4
    · rw [nodeVals_get _ _ (by simp; omega)]
      obtain ⟨k, hk⟩ : ∃ k, j = L.length * 4 + k := ⟨j - L.length * 4, by omega⟩
      have hk8 : k < 4 := by omega
      subst hk
      rw [Nat.add_sub_cancel_left]
      have e1 : (L.length * 4 + k) / 4 = L.length := by omega
      have e2 : (L.length * 4 + k) % 4 = k := by omega
      unfold nodeCell
      rw [e1, e2]
      have e3 : (L ++ [x]).getD L.length GN.zero = x := by simp [List.getD_eq_getElem?_getD]
      rw [e3]
      match k, hk8 with
      | 0, _ => rfl
      | 1, _ => rfl
      | 2, _ => rfl
      | 3, _ => rfl
    · rw [List.getElem?_eq_none (by rw [nodeVals_len]; simp; omega), List.getElem?_eq_none (by simp [GN.cells]; omega)]

theorem map_take_succ {α β : Type} [Inhabited α] (l : List α) (f : α → β) (d : α) {i : Nat} (h : i < l.length) : (l.take (i + 1)).map f = (l.take i).map f ++ [f (l.getD i d)] := by
  rw [List.take_succ_eq_append_getElem h, List.map_append]
  simp [List.getD_eq_getElem?_getD, h]

theorem le_alloc {n : Nat} {w : World} (h : n ≤ w.heap.size) (o : Obj) : n ≤ (w.alloc o).heap.size := by
  rw [World.size_alloc]; omega

theorem le_drew {n : Nat} {w : World} (h : n ≤ w.heap.size) : n ≤ w.drew.heap.size := h
theorem own_wrapped {w : World} {b e s n : Nat} {v : Value} {xs : List Value} {z : Int} (h : w.ownsRow b e s v n (xs ++ [.int .i64 (IntKind.i64.wrap z)])) (h0 : 0 ≤ z) (h1 : z < 9223372036854775808) : w.ownsRow b e s v n (xs ++ [.int .i64 z]) := by
  rw [wrap_low z h0 h1] at h
  exact h

/-- A net in the making, out of its parts. -/
theorem TwAt.of {w3 wx : World} {N : Net} {bm : Nat} {L : List GN} {O : List Int} {ad ao : Option Addr} {cn co : Nat} (hbm : w3.heap.size ≤ bm) (hm : wx.heap[bm]? = some (.cells #[.int .i64 N.given, .slice ad L.length cn, .slice ao O.length co] 50 (0, 0)))
    (hN : wx.ownsRow w3.heap.size 81 4 (.slice ad L.length cn) L.length (nodeVals L)) (hO : wx.ownsRow w3.heap.size 3 1 (.slice ao O.length co) O.length (O.map (.int .i64))) (hb : Below w3.heap.size w3 wx) : TwAt w3 N bm L O wx :=
  ⟨ad, cn, ao, co, hbm, hm, hN, hO, owns_apart hN hm (by decide), owns_apart hO hm (by decide), owns_apart2 hN hO (by decide), hb⟩

theorem TwAt.bway1 {w3 wb : World} {N : Net} {L : List GN} {O : List Int} {ad ao : Option Addr} {cn co : Nat} (hN : wb.ownsRow w3.heap.size 81 4 (.slice ad (0 + L.length) cn) (0 + L.length) ([] ++ nodeVals L))
    (hO : wb.ownsRow w3.heap.size 3 1 (.slice ao (0 + O.length) co) (0 + O.length) ([] ++ O.map (.int .i64))) (hb : Below w3.heap.size w3 wb) :
    TwAt w3 N wb.heap.size L O (wb.alloc (.cells #[.int .i64 N.given, .slice ad L.length cn, .slice ao O.length co] 50)) := by
  simp only [Nat.zero_add, List.nil_append] at hN hO
  exact TwAt.of hb.size (alloc_at _ _) (hN.alloc _) (hO.alloc _) (hb.alloc hb.size _)
theorem own_not {w : World} {b1 e1 s1 n1 k T : Nat} {v1 : Value} {xs1 : List Value} {cs : Array Value} (h1 : w.ownsRow b1 e1 s1 v1 n1 xs1) (h2 : w.heap[k]? = some (.cells cs T (0, 0))) (hne : e1 ≠ T) (j : Nat) (u : Value) : (w.setCell ⟨k, j, none⟩ u).ownsRow b1 e1 s1 v1 n1 xs1 :=
  owns_keep h1 fun i hi => heap_setCell_other _ _ _ _ (by intro e; subst e; exact box_ne h1 h2 hne hi)
theorem TwAt.bway2 {w3 wb : World} {N : Net} {bm : Nat} {L : List GN} {O : List Int} {ad ao : Option Addr} {cn co : Nat} (hN : wb.ownsRow w3.heap.size 81 4 (.slice ad (0 + L.length) cn) (0 + L.length) ([] ++ nodeVals L))
    (hO : wb.ownsRow w3.heap.size 3 1 (.slice ao (0 + O.length) co) (0 + O.length) ([] ++ O.map (.int .i64))) (hb : Below w3.heap.size w3 wb) (hbm : w3.heap.size ≤ bm)
    (hm : wb.heap[bm]? = some (.cells #[.int .i64 0, .slice none 0 0, .slice none 0 0] 50 (0, 0))) :
    TwAt w3 N bm L O (((wb.setCell ⟨bm, 0, none⟩ (.int .i64 N.given)).setCell ⟨bm, 1, none⟩ (.slice ad L.length cn)).setCell ⟨bm, 2, none⟩ (.slice ao O.length co)) := by
  simp only [Nat.zero_add, List.nil_append] at hN hO
  have h1 := set_box hm 0 (.int .i64 N.given)
  have h2 := set_box h1 1 (.slice ad L.length cn)
  have h3 := set_box h2 2 (.slice ao O.length co)
  exact TwAt.of hbm h3 (own_not (own_not (own_not hN hm (by decide) _ _) h1 (by decide) _ _) h2 (by decide) _ _) (own_not (own_not (own_not hO hm (by decide) _ _) h1 (by decide) _ _) h2 (by decide) _ _) (((hb.setCell hbm _).setCell hbm _).setCell hbm _)

/-- The count of bits given is set. -/
theorem TwAt.setGiven {w3 wx : World} {N N' : Net} {bm : Nat} {L : List GN} {O : List Int} (h : TwAt w3 N bm L O wx) : TwAt w3 N' bm L O (wx.setCell ⟨bm, 0, none⟩ (.int .i64 N'.given)) := by
  obtain ⟨ad, cn, ao, co, hbm, hm, hN, hO, _, _, _, hb⟩ := h
  exact TwAt.of hbm (set_box hm 0 _) (own_not hN hm (by decide) _ _) (own_not hO hm (by decide) _ _) (hb.setCell hbm _)

/-- One node more. -/
theorem TwAt.addN1 {w3 wb : World} {N : Net} {bm : Nat} {L : List GN} {O : List Int} {x : GN} {ad ao av : Option Addr} {cn co cv : Nat}
    (hbm : w3.heap.size ≤ bm) (hm : wb.heap[bm]? = some (.cells #[.int .i64 N.given, .slice ad L.length cn, .slice ao O.length co] 50 (0, 0)))
    (hN : wb.ownsRow w3.heap.size 81 4 (.slice av (L.length + 1) cv) (L.length + 1) (nodeVals L ++ x.cells.toList))
    (hO : wb.ownsRow w3.heap.size 3 1 (.slice ao O.length co) O.length (O.map (.int .i64))) (hb : Below w3.heap.size w3 wb) :
    TwAt w3 N bm (L ++ [x]) O (wb.setCell ⟨bm, 1, none⟩ (.slice av (L.length + 1) cv)) := by
  rw [← nodeVals_app1] at hN
  have e : (L ++ [x]).length = L.length + 1 := by simp
  rw [← e] at hN ⊢
  exact TwAt.of hbm (by rw [set_box hm 1]; simp) (own_not hN hm (by decide) _ _) (own_not hO hm (by decide) _ _) (hb.setCell hbm _)

theorem ints_one (l : List Int) : ∀ u ∈ l.map (Value.int .i64), u.oneCell' = true := by
  intro u hu
  obtain ⟨b, _, rfl⟩ := List.mem_map.1 hu
  rfl
theorem boxes3 (w : World) (x y z : Array Value) (T : Nat) : ((((w.alloc (.cells x T)).alloc (.cells y T)).alloc (.cells z T)).heap[w.heap.size]? = some (.cells x T (0, 0)) ∧ (((w.alloc (.cells x T)).alloc (.cells y T)).alloc (.cells z T)).heap[w.heap.size + 1]? = some (.cells y T (0, 0)) ∧
    (((w.alloc (.cells x T)).alloc (.cells y T)).alloc (.cells z T)).heap[w.heap.size + 2]? = some (.cells z T (0, 0))) ∧ (((w.alloc (.cells x T)).alloc (.cells y T)).alloc (.cells z T)).heap.size = w.heap.size + 3 ∧ Below w.heap.size w (((w.alloc (.cells x T)).alloc (.cells y T)).alloc (.cells z T)) := by
  refine ⟨⟨?_, ?_, ?_⟩, by simp, (((Below.refl _ _).alloc (Nat.le_refl _) _).alloc (by simp) _).alloc (by simp; omega) _⟩
  · exact box_under _ (box_under _ (box_top _ _ _))
  · have h := box_top (w.alloc (.cells x T)) y T
    rw [World.size_alloc] at h
    exact box_under _ h
  · have h := box_top ((w.alloc (.cells x T)).alloc (.cells y T)) z T
    simp only [World.size_alloc] at h
    exact h

/-- What is made, as a value: its rows. -/
theorem TwAt.rows {w3 wx : World} {N J : Net} {bm : Nat} (hg : J.given = N.given) (h : TwAt w3 N bm J.nodes J.outs wx) (hl : J.nodes.length ≤ maxLen) (hlo : J.outs.length ≤ maxLen) :
    ∃ ad cn ao co, wx.heap[bm]? = some (.cells (netVal ad cn ao co J) 50 (0, 0)) ∧ NetRows wx.heap.size wx ad cn ao co J ∧ (ad = none → J.nodes.length = 0 ∧ cn = 0) ∧ (ao = none → J.outs.length = 0 ∧ co = 0) := by
  obtain ⟨ad, cn, ao, co, hbm, hm, hN, hO, hd1, hd2, hd3, hbe⟩ := h
  obtain ⟨a1, c1, e1, _, _, hc1⟩ := Cells.of_owns hN
  obtain ⟨a2, c2, e2, _, _, hc2⟩ := Cells.of_owns hO
  cases e1
  cases e2
  refine ⟨ad, cn, ao, co, by rw [hm]; unfold netVal; rw [hg], ⟨hc1.congr fun j hj => ?_, ?_, hl, hlo⟩, ?_, ?_⟩
  · rw [List.getD_eq_getElem?_getD, nodeVals_get _ _ hj]
    rfl
  · have hc2' := hc2
    rw [Nat.mul_one] at hc2'
    exact hc2'.congr fun j hj => by
      simp only [List.getD_eq_getElem?_getD, List.getElem?_map]
      rw [List.getElem?_eq_getElem hj]
      rfl
  · rintro rfl
    rcases hN.2 with ⟨h, h0⟩ | ⟨g, cap, cur, h, _⟩
    · simp only [Value.slice.injEq, true_and] at h; exact h
    · cases h
  · rintro rfl
    rcases hO.2 with ⟨h, h0⟩ | ⟨g, cap, cur, h, _⟩
    · simp only [Value.slice.injEq, true_and] at h; exact h
    · cases h
/-- What is made, handed back in block r, which lies below. -/
theorem TwAt.back {w w3 wx : World} {N J : Net} {bm r : Nat} (hg : J.given = N.given) (h : TwAt w3 N bm J.nodes J.outs wx) (hl : J.nodes.length ≤ maxLen) (hlo : J.outs.length ≤ maxLen) (hw : Below w.heap.size w w3) (hr : w.heap.size ≤ r) (hr3 : r < w3.heap.size) {cs : Array Value} (hbr : w3.heap[r]? = some (.cells cs 50 (0, 0))) (hcs : cs.size = 3) :
    ∃ ad cn ao co, wx.heap[bm]? = some (.cells #[.int .i64 J.given, .slice ad J.nodes.length cn, .slice ao J.outs.length co] 50 (0, 0)) ∧ wx.heap[r]? = some (.cells cs 50 (0, 0)) ∧ bm < wx.heap.size ∧
      (∀ w' : World, (∀ k, k ≠ r → w'.heap[k]? = wx.heap[k]?) → w'.os = wx.os → w'.tape = wx.tape → w'.output = wx.output → w'.heap.size = wx.heap.size → NetRows w'.heap.size w' ad cn ao co J ∧ (ad = none → J.nodes.length = 0 ∧ cn = 0) ∧ (ao = none → J.outs.length = 0 ∧ co = 0) ∧ Below w.heap.size w w') := by
  obtain ⟨ad, cn, ao, co, hbm, hm, hN, hO, hd1, hd2, hd3, hbe⟩ := h
  refine ⟨ad, cn, ao, co, by rw [hg]; exact hm, (hbe.block r hr3).trans hbr, lt_of_block hm, fun w' hk h1 h2 h3 hsz => ?_⟩
  have hN' : w'.ownsRow w3.heap.size 81 4 (.slice ad J.nodes.length cn) J.nodes.length (nodeVals J.nodes) := owns_keep hN fun k hk' => hk k (by have := (hN.lt k hk').1; omega)
  have hO' : w'.ownsRow w3.heap.size 3 1 (.slice ao J.outs.length co) J.outs.length (J.outs.map (.int .i64)) := owns_keep hO fun k hk' => hk k (by have := (hO.lt k hk').1; omega)
  obtain ⟨a1, c1, e1, _, _, hc1⟩ := Cells.of_owns hN'
  obtain ⟨a2, c2, e2, _, _, hc2⟩ := Cells.of_owns hO'
  cases e1
  cases e2
  refine ⟨⟨hc1.congr fun j hj => ?_, ?_, hl, hlo⟩, ?_, ?_, ?_⟩
  · rw [List.getD_eq_getElem?_getD, nodeVals_get _ _ hj]
    rfl
  · have hc2' := hc2
    rw [Nat.mul_one] at hc2'
    exact hc2'.congr fun j hj => by
      simp only [List.getD_eq_getElem?_getD, List.getElem?_map]
      rw [List.getElem?_eq_getElem hj]
      rfl
  · rintro rfl
    rcases hN.2 with ⟨h, h0⟩ | ⟨g, cap, cur, h, _⟩
    · simp only [Value.slice.injEq, true_and] at h; exact h
    · cases h
  · rintro rfl
    rcases hO.2 with ⟨h, h0⟩ | ⟨g, cap, cur, h, _⟩
    · simp only [Value.slice.injEq, true_and] at h; exact h
    · cases h
  · have hb := hw.trans (hbe.mono hw.size)
    exact ⟨h1.trans hb.os, h2.trans hb.tape, h3.trans hb.output, by rw [hsz]; exact hb.size, fun k hk' => (hk k (by omega)).trans (hb.block k hk')⟩

theorem set3_same (w : World) (r : Nat) (x y z : Value) : let w' := ((w.setCell ⟨r, 0, none⟩ x).setCell ⟨r, 1, none⟩ y).setCell ⟨r, 2, none⟩ z
    (∀ k, k ≠ r → w'.heap[k]? = w.heap[k]?) ∧ w'.os = w.os ∧ w'.tape = w.tape ∧ w'.output = w.output ∧ w'.heap.size = w.heap.size := by
  refine ⟨fun k hk => ?_, rfl, rfl, rfl, by simp [World.setCell]⟩
  rw [heap_setCell_other _ _ _ _ hk, heap_setCell_other _ _ _ _ hk, heap_setCell_other _ _ _ _ hk]
end Go.Proofs.YtlaeflpddehipabDoor
end
section
set_option linter.unusedVariables false
namespace Go.Proofs.YtlaeflpddehipabDoor
open Go.RowKit

/-- 'append(out, src...)': out is the call's own, src whatever slice whose cells are known (nil too). -/
theorem wpSrc {P : Program} {ops : Array Oper} {rest : List Oper} {o : Oper} {a : Act} {Q : Exit → Act → World → Prop} (w : World) (hgd : o.guard = none) (s x : Operand) (t : TypeId)
    (ho : o.op = .call { callee := .builtin .append, args := #[s, x], argTypes := #[t, t] })
    (base : Nat) (e : TypeId) (i : TypeInfo) (z : Value) (size bytes : Nat) (ht : P.underlying t = some (.slice e)) (hi : P.info? e = some i) (hz : i.zero = some z)
    (hsize : i.size = size) (hby : i.bytes = bytes) (hzs : z.cells.size = size) (hsz : 0 < size)
    (v : Value) (n : Nat) (xs : List Value) (hs : a.eval s = v) (hown : w.ownsRow base e size v n xs)
    (ad : Option Addr) (m c : Nat) (news : List Value) (hx : a.eval x = .slice ad m c) (hnil : ad = none → m = 0 ∧ c = 0) (hl : news.length = m * size) (hnews : ∀ ad', ad = some ad' → ∀ j u, news[j]? = some u → w.cell? (ad'.add j) = some u) (h1 : ∀ u ∈ news, u.oneCell' = true)
    (h63 : n + m ≤ maxLen) (hbytes : (n + m) * bytes ≤ 140737488355328) (hbase : base ≤ w.heap.size)
    (h : ∀ av cv w', Hid (w.ownsRow base e size v n xs) → Hid (w'.ownsRow base e size (.slice av (n + m) cv) (n + m) (xs ++ news)) → Hid (w.grownBy w' v.ownBlock) → wpList P ops Q rest (a.put o.dst (.slice av (n + m) cv)) w') : wpList P ops Q (o :: rest) a w := by
  cases ad with
  | none =>
    obtain ⟨rfl, rfl⟩ := hnil rfl
    have hn : news = [] := List.eq_nil_of_length_eq_zero (by simpa using hl)
    subst hn
    refine wpList_append_own_none hgd s x t ho base e i size ht hi v n xs hs hown hx ?_
    have h' := hown
    obtain ⟨av, cv, rfl⟩ := owns_slice hown
    exact h av cv w h' (by simpa [Hid] using h') ⟨rfl, rfl, rfl, Nat.le_refl _, fun _ _ _ => rfl⟩
  | some ad' =>
    exact wpList_append_own _ hgd s x t ho base e i z size bytes ht hi hz hsize hby hzs hsz v n xs hs hown ad' m c news hx hl (hnews ad' rfl) h1 h63 hbytes hbase fun v' w' h2 h3 _ => (by
      obtain ⟨av, cv, rfl⟩ := owns_slice h2
      exact h av cv w' hown h2 h3)

theorem ownsNil {w : World} {base e size n c : Nat} {a : Option Addr} {xs : List Value} (h : w.ownsRow base e size (.slice a n c) n xs) : a = none → n = 0 ∧ c = 0 := by
  rintro rfl
  rcases h.2 with ⟨h0, h1⟩ | ⟨g, cap, cur, h0, _⟩
  · simp only [Value.slice.injEq, true_and] at h0; exact ⟨h1, h0.2⟩
  · cases h0
theorem ownsNews {w w' : World} {base n c : Nat} {a : Option Addr} {l : List Bool} (h : w.ownsRow base 4 1 (.slice a n c) n (l.map .bool)) (hb : ∀ k, w.heap[k]? ≠ none → a.map Addr.block = some k → w'.heap[k]? = w.heap[k]?) :
    ∀ ad', a = some ad' → ∀ j u, (l.map Value.bool)[j]? = some u → w'.cell? (ad'.add j) = some u := by
  rintro ad' rfl j u hj
  have hl := owns_len h
  rw [List.length_map] at hl
  have hc := (bits_cells h).news (xs := l.map Value.bool) (by simpa using hl) (fun j hj => by simp [List.getD_eq_getElem?_getD, hl, hj]) j u hj
  rw [← hc]
  refine World.cell?_of_block ?_
  have hbl : (ad'.add j).block = ad'.block := by unfold Addr.add; split <;> rfl
  rw [hbl]
  refine hb _ ?_ rfl
  rcases h.2 with ⟨h0, h1⟩ | ⟨g, cap, cur, h0, _, h2, _⟩
  · cases h0
  · simp only [Value.slice.injEq, Option.some.injEq] at h0
    obtain ⟨rfl, _⟩ := h0
    rw [h2]
    simp

theorem bitsNews2 {B : Nat} {W : World} {a : Option Addr} {n : Nat} {l : List Bool} (h : Cells B W a n (fun j => .bool (l.getD j false))) (hl : l.length = n) :
    ∀ ad', a = some ad' → ∀ j u, (l.map Value.bool)[j]? = some u → W.cell? (ad'.add j) = some u := by
  rintro ad' rfl
  exact h.news (by simpa using hl) (fun j hj => by simp [List.getD_eq_getElem?_getD, hl, hj])
theorem lsBase0 {w : World} {base base' e size n : Nat} {v : Value} {xs : List Value} (h : w.ownsRow base e size v n xs) (hb : base' ≤ base) : w.ownsRow base' e size v n xs := by
  obtain ⟨h1, h2⟩ := h
  refine ⟨h1, ?_⟩
  rcases h2 with h2 | ⟨g, cap, cur, hv, hg, h3⟩
  · exact .inl h2
  · exact .inr ⟨g, cap, cur, hv, Nat.le_trans hb hg, h3⟩
theorem bitRow {w : World} {base n : Nat} {v : Value} {l : List Bool} (h : w.ownsRow base 4 1 v n (l.map .bool)) : ∃ a c, v = .slice a n c ∧ Cells w.heap.size w a n (fun j => .bool (l.getD j false)) := by
  obtain ⟨a, c, rfl, _, _, hc⟩ := Cells.of_owns h
  exact ⟨a, c, rfl, bits_cells h⟩
theorem bitSnoc {w : World} {base k : Nat} {v : Value} {l l' : List Bool} {b : Bool} (h : w.ownsRow base 4 1 v (k + 1) (l.map .bool ++ #[Value.bool b].toList)) (e : l' = l ++ [b]) : w.ownsRow base 4 1 v (k + 1) (l'.map .bool) := by
  rw [e, List.map_append]
  exact h
theorem bitTake {w : World} {base j : Nat} {v : Value} {l : List Bool} {b : Bool} (h : w.ownsRow base 4 1 v (j + 1) ((l.map Value.bool).take j ++ [Value.bool b])) (e : l.take (j + 1) = l.take j ++ [b]) : w.ownsRow base 4 1 v (j + 1) ((l.take (j + 1)).map .bool) := by
  rw [e, List.map_append, List.map_take]
  exact h
theorem srcLe {n : Nat} {w : World} (h : n ≤ w.heap.size) (o : Obj) : n ≤ (w.alloc o).heap.size := by simp; omega
theorem take_snoc {α : Type} (l : List α) (k : Nat) (z : α) (h : k < l.length) : l.take (k + 1) = l.take k ++ [l.getD k z] := by
  rw [List.take_succ_eq_append_getElem h]
  simp [List.getD_eq_getElem?_getD, h]

end Go.Proofs.YtlaeflpddehipabDoor
end
