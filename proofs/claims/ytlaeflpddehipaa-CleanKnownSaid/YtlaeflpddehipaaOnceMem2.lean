/- clean.once: the nexts that are put, the outs that are laid; what lies in memory behind it. -/
import Derived.Test.YtlaeflpddehipaaOnceMem
set_option linter.unusedVariables false
namespace Go.Proofs.Ytlaeflpddehipaa
open Go.RowKit

/-! ### the nexts -/
def fixTo (of : List Int) (M : List GN) (i : Nat) : List GN := (M.take i).map (fixN of) ++ M.drop i
theorem fixTo_len (of : List Int) (M : List GN) (i : Nat) : (fixTo of M i).length = M.length := by
  unfold fixTo; simp; omega
theorem fixTo_zero (of : List Int) (M : List GN) : fixTo of M 0 = M := by simp [fixTo]
theorem fixTo_all (of : List Int) (M : List GN) : fixTo of M M.length = M.map (fixN of) := by simp [fixTo]
theorem fixTo_get (of : List Int) (M : List GN) {i : Nat} (h : i < M.length) : (fixTo of M i).getD i GN.zero = M.getD i GN.zero := by
  unfold fixTo
  have e : ((M.take i).map (fixN of)).length = i := by simp; omega
  rw [List.getD_eq_getElem?_getD, List.getElem?_append_right (by omega), e, Nat.sub_self, List.getElem?_drop, Nat.add_zero, ← List.getD_eq_getElem?_getD]
theorem fixTo_succ (of : List Int) (M : List GN) {i : Nat} (h : i < M.length) : fixTo of M (i + 1) = (fixTo of M i).set i (fixN of (M.getD i GN.zero)) := by
  unfold fixTo
  have e : ((M.take i).map (fixN of)).length = i := by simp; omega
  have e2 : M.getD i GN.zero = M[i] := by simp [List.getD_eq_getElem?_getD, h]
  rw [List.set_append_right _ _ (by omega), e, Nat.sub_self, List.drop_eq_getElem_cons h, List.set_cons_zero, e2, List.take_succ_eq_append_getElem h, List.map_append, List.append_assoc]
  rfl
theorem fixTo_skip (of : List Int) (M : List GN) {i : Nat} (h : i < M.length) (ho : (M.getD i GN.zero).op ≠ 4) : fixTo of M (i + 1) = fixTo of M i := by
  rw [fixTo_succ of M h]
  have e : fixN of (M.getD i GN.zero) = (fixTo of M i).getD i GN.zero := by
    rw [fixTo_get of M h]; unfold fixN; rw [if_neg ho]
  have hl : i < (fixTo of M i).length := by rw [fixTo_len]; exact h
  rw [e, List.getD_eq_getElem?_getD, List.getElem?_eq_getElem hl, Option.getD_some, List.set_getElem_self]
theorem nvals_set (l : List GN) (k : Nat) (hk : k < l.length) (z : Int) : nvals (l.set k { l.getD k GN.zero with next := z }) = (nvals l).set (k * 4 + 3) (.int .i64 z) := by
  apply List.ext_getElem?
  intro j
  by_cases h1 : j < l.length * 4
  · rw [nvals_get _ _ (by simpa using h1)]
    by_cases e : j = k * 4 + 3
    · subst e
      rw [List.getElem?_set_self (by rw [nvals_len]; exact h1)]
      have e1 : (k * 4 + 3) / 4 = k := by omega
      have e2 : (k * 4 + 3) % 4 = 3 := by omega
      unfold nodeCell
      rw [e1, e2, List.getD_eq_getElem?_getD, List.getElem?_set_self hk]
      rfl
    · rw [List.getElem?_set_ne (fun h => e h.symm), nvals_get _ _ h1]
      unfold nodeCell
      by_cases e1 : j / 4 = k
      · have e2 : j % 4 = 0 ∨ j % 4 = 1 ∨ j % 4 = 2 := by omega
        rw [e1, List.getD_eq_getElem?_getD, List.getElem?_set_self hk, Option.getD_some]
        rcases e2 with e2 | e2 | e2 <;> rw [e2] <;> rfl
      · simp only [List.getD_eq_getElem?_getD]
        rw [List.getElem?_set_ne (fun h => e1 h.symm)]
  · rw [List.getElem?_eq_none (by rw [nvals_len]; simp; omega), List.getElem?_eq_none (by simp [nvals_len]; omega)]
theorem rowPut {w : World} {base E size n c g : Nat} {xs : List Value} (h : w.ownsRow base E size (.slice (some ⟨g, 0, none⟩) n c) n xs) (j : Nat) (v : Value) : (w.setCell ⟨g, j, none⟩ v).ownsRow base E size (.slice (some ⟨g, 0, none⟩) n c) n (xs.set j v) := by
  obtain ⟨hl, h⟩ := h
  rcases h with ⟨hv, hn⟩ | ⟨gb, cap, cur, hv, h1, h2, h3, h4, h5, h6⟩
  · cases hv
  · cases hv
    refine ⟨by simpa using hl, .inr ⟨g, c, cur.setIfInBounds j v, rfl, h1, boxSet h2 j v, h3, h4, by simpa using h5, ?_⟩⟩
    rw [← h6, Array.toList_setIfInBounds, List.take_set]

section
variable {B bm bo bn bf bs : Nat} {g : Int} {av : Option Addr} {cv : Nat} {M S : List GN} {of : List Int} {W W' : World}
/-- The four cells of the k-th node that was made. -/
theorem Mak.four (h : Mak B bm bo bn bf bs g av cv M S of W) (k : Nat) (hk : k < M.length) : ∃ b1, av = some ⟨b1, 0, none⟩ ∧ b1 < W.heap.size ∧ B ≤ b1 ∧ (∀ j, W.frozen? ⟨b1, j, none⟩ = false) ∧ W.cell? ⟨b1, k * 4, none⟩ = some (.int .i64 (M.getD k GN.zero).op) ∧ W.cell? ⟨b1, k * 4 + 1, none⟩ = some (.int .i64 (M.getD k GN.zero).a) ∧ W.cell? ⟨b1, k * 4 + 2, none⟩ = some (.int .i64 (M.getD k GN.zero).b) ∧ W.cell? ⟨b1, k * 4 + 3, none⟩ = some (.int .i64 (M.getD k GN.zero).next) := by
  obtain ⟨b1, h1, h2, h3, ⟨cur, h4⟩, _, h5⟩ := own_cells h.rn (by omega)
  refine ⟨b1, h1, h2, h3, free_block h4, ?_, ?_, ?_, ?_⟩
  · rw [h5 _ (by omega), nvals_get _ _ (by omega)]
    simp [nodeCell, GN.cell]
  · rw [h5 _ (by omega), nvals_get _ _ (by omega)]
    have e1 : (k * 4 + 1) / 4 = k := by omega
    have e2 : (k * 4 + 1) % 4 = 1 := by omega
    simp [nodeCell, e1, e2, GN.cell]
  · rw [h5 _ (by omega), nvals_get _ _ (by omega)]
    have e1 : (k * 4 + 2) / 4 = k := by omega
    have e2 : (k * 4 + 2) % 4 = 2 := by omega
    simp [nodeCell, e1, e2, GN.cell]
  · rw [h5 _ (by omega), nvals_get _ _ (by omega)]
    have e1 : (k * 4 + 3) / 4 = k := by omega
    have e2 : (k * 4 + 3) % 4 = 3 := by omega
    simp [nodeCell, e1, e2, GN.cell]
theorem Mak.setNext {b1 : Nat} (h : Mak B bm bo bn bf bs g (some ⟨b1, 0, none⟩) cv M S of W) (k : Nat) (hk : k < M.length) (z : Int) : Mak B bm bo bn bf bs g (some ⟨b1, 0, none⟩) cv (M.set k { M.getD k GN.zero with next := z }) S of (W.setCell ⟨b1, k * 4 + 3, none⟩ (.int .i64 z)) := by
  obtain ⟨b1', h1, h2, h3, ⟨cur, h4⟩, _, _⟩ := own_cells h.rn (by omega)
  cases h1
  have e2 : (W.setCell ⟨b1, k * 4 + 3, none⟩ (.int .i64 z)).heap.size = W.heap.size := by simp [World.setCell]
  have hr := h.ro
  unfold RowI at hr
  refine ⟨h.hbm, h.hbn, h.hbf, h.hbs, by rw [e2]; exact h.hB, ?_, ?_, ?_, ?_, ?_⟩
  · rw [heap_setCell_other _ _ _ _ (by exact boxNe h.boxm h4 (by decide))]; exact h.boxm
  · rw [heap_setCell_other _ _ _ _ (by exact boxNe h.boxn h4 (by decide)), List.length_set]; exact h.boxn
  · rw [nvals_set M k hk, List.length_set]; exact rowPut h.rn _ _
  · show (W.setCell _ _).heap[bf]? = _
    rw [heap_setCell_other _ _ _ _ (by exact boxNe hr h4 (by decide))]; exact hr
  · refine h.mp.keep (row := some b1) ⟨rfl, rfl, rfl, by rw [e2]; exact Nat.le_refl _, fun k _ hk => heap_setCell_other _ _ _ _ (by intro e; exact hk (by rw [e]))⟩ ?_
    intro e
    cases e
    obtain ⟨D, ⟨es, clock, hb, _⟩, _⟩ := h.mp
    rw [h4] at hb
    cases hb
end
theorem Mak.eqM {B bm bo bn bf bs : Nat} {g : Int} {av : Option Addr} {cv : Nat} {M M' S : List GN} {of : List Int} {W : World} (h : Mak B bm bo bn bf bs g av cv M S of W) (e : M = M') : Mak B bm bo bn bf bs g av cv M' S of W := e ▸ h

/-! ### the outs -/
/-- n outs are laid: they are the numbers l. -/
structure OutsAt (bn : Nat) (g : Int) (av : Option Addr) (m cv : Nat) (ao : Option Addr) (co n : Nat) (l : List Int) (w3 W : World) : Prop where
  len : l.length = n
  box : W.heap[bn]? = some (.cells #[.int .i64 g, .slice av m cv, .slice ao n co] 48 (0, 0))
  row : W.ownsRow w3.heap.size 3 1 (.slice ao n co) n (l.map (.int .i64))
  grow : w3.grownBy W (some bn)
section
variable {bn : Nat} {g : Int} {av : Option Addr} {m cv : Nat} {ao : Option Addr} {co n : Nat} {l : List Int} {w3 W W1 wb : World}
theorem OutsAt.start {B bm bo bf bs : Nat} {M S : List GN} {of : List Int} (h : Mak B bm bo bn bf bs g av cv M S of W) : OutsAt bn g av M.length cv none 0 0 [] W W :=
  ⟨rfl, h.boxn, World.ownsRow_nil _ _ _ _, rfl, rfl, rfl, Nat.le_refl _, fun _ _ _ => rfl⟩
theorem OutsAt.old (h : OutsAt bn g av m cv ao co n l w3 W) {k : Nat} {o : Obj} (hk : w3.heap[k]? = some o) (hne : k ≠ bn) : W.heap[k]? = some o :=
  (h.grow.block k (boxLt hk) (by simpa using hne)).trans hk
theorem OutsAt.oldCell (h : OutsAt bn g av m cv ao co n l w3 W) {k j : Nat} {v : Value} (hk : w3.cell? ⟨k, j, none⟩ = some v) (hlt : k < w3.heap.size) (hne : k ≠ bn) : W.cell? ⟨k, j, none⟩ = some v := by
  have e := h.grow.block k hlt (by simpa using hne)
  unfold World.cell? at hk ⊢
  simp only at hk ⊢
  rw [e]; exact hk
structure OutsNext (bm bn bf y : Nat) (z : Int) (g : Int) (av : Option Addr) (m cv : Nat) (ao : Option Addr) (co n c : Nat) (wb : World) : Prop where
  c2 : wb.cell? ⟨bn, 2, none⟩ = some (.slice ao n co)
  cm : wb.cell? ⟨bm, 1, none⟩ = some (.pointer (some ⟨bn, 0, none⟩))
  cf : wb.cell? ⟨bm, 2, none⟩ = some (.slice (some ⟨bf, 0, none⟩) c c)
  cy : wb.cell? ⟨bf, y, none⟩ = some (.int .i64 z)
  fb : ∀ j, wb.frozen? ⟨bn, j, none⟩ = false
  lb : bn < wb.heap.size
  lm : bm < wb.heap.size
  lf : bf < wb.heap.size
theorem OutsAt.next {B bm bo bf bs y : Nat} {M S : List GN} {of : List Int} {z : Int} (h : OutsAt bn g av m cv ao co n l w3 W) (hm : Mak B bm bo bn bf bs g av cv M S of w3) (hy : y < of.length) (hz : of.getD y 0 = z) : OutsNext bm bn bf y z g av m cv ao co n of.length W := by
  have h1 := h.old hm.boxm (boxNe hm.boxm hm.boxn (by decide))
  have hr := hm.ro
  unfold RowI at hr
  have h2 := h.old hr (boxNe hr hm.boxn (by decide))
  have cy := RowI.cell (w := W) (r := bf) (l := of) h2 y hy
  rw [hz] at cy
  exact ⟨(cell_block h.box 2).trans rfl, (cell_block h1 1).trans rfl, (cell_block h1 2).trans rfl, cy, free_block h.box, boxLt h.box, boxLt h1, boxLt h2⟩
theorem OutsAt.stay (h : OutsAt bn g av m cv ao co n l w3 W) (hb : Below W.heap.size W W1) : OutsAt bn g av m cv ao co n l w3 W1 :=
  ⟨h.len, (hb.block _ (boxLt h.box)).trans h.box, rowOld h.row hb, hb.os.trans h.grow.os, hb.tape.trans h.grow.tape, hb.output.trans h.grow.output, Nat.le_trans h.grow.size hb.size, fun k hk hne => (hb.block k (Nat.lt_of_lt_of_le hk h.grow.size)).trans (h.grow.block k hk hne)⟩
/-- One more was appended; it is not yet put back. -/
theorem OutsAt.push (h : OutsAt bn g av m cv ao co n l w3 W) (hbn : bn < w3.heap.size) (hb : Below W.heap.size W W1) {z : Int} {ao' : Option Addr} {co' : Nat} (hg : W1.grownBy wb (Value.slice ao n co).ownBlock)
    (hown : wb.ownsRow w3.heap.size 3 1 (.slice ao' (n + 1) co') (n + 1) (l.map (.int .i64) ++ [.int .i64 z])) :
    OutsAt bn g av m cv ao co n l w3 W1 ∧ (∀ k o, w3.heap[k]? = some o → k ≠ bn → wb.heap[k]? = some o) ∧ wb.heap[bn]? = some (.cells #[.int .i64 g, .slice av m cv, .slice ao n co] 48 (0, 0)) ∧ OutsAt bn g av m cv ao' co' (n + 1) (l ++ [z]) w3 (wb.setCell ⟨bn, 2, none⟩ (.slice ao' (n + 1) co')) := by
  have h1 := h.stay hb
  have hne : ∀ k, k < w3.heap.size → (Value.slice ao n co).ownBlock ≠ some k := fun k hk e => by have := (h1.row.lt k e).1; omega
  have hk : ∀ k, k < w3.heap.size → wb.heap[k]? = W1.heap[k]? := fun k hk => hg.block k (Nat.lt_of_lt_of_le hk h1.grow.size) (fun e => hne k hk e.symm)
  have hbox := (hk bn hbn).trans h1.box
  have e2 : (wb.setCell ⟨bn, 2, none⟩ (.slice ao' (n + 1) co')).heap.size = wb.heap.size := by simp [World.setCell]
  refine ⟨h1, fun k o hko hkn => (hk k (boxLt hko)).trans (h1.old hko hkn), hbox, by simp [h.len], ?_, ?_, ?_, ?_, ?_, ?_, ?_⟩
  · rw [boxSet hbox]; rfl
  · rw [List.map_append]; exact rowSet hown hbox (by decide) _ _
  · exact hg.os.trans h1.grow.os
  · exact hg.tape.trans h1.grow.tape
  · exact hg.output.trans h1.grow.output
  · rw [e2]; exact Nat.le_trans h1.grow.size hg.size
  · intro k hkl hkn
    have hkn' : k ≠ bn := by simpa using hkn
    rw [heap_setCell_other _ _ _ _ hkn', hk k hkl]
    exact h1.grow.block k hkl hkn
end
/-- What was owned reads as a net. -/
theorem Cells.congr2 {B : Nat} {w : World} {a : Option Addr} {m : Nat} {f f' : Nat → Value} (h : Cells B w a m f) (hf : ∀ j, j < m → f j = f' j) : Cells B w a m f' := by
  rcases h with h | ⟨b, off, h1, h2, h3⟩
  · exact .inl h
  · exact .inr ⟨b, off, h1, h2, fun j hj => by rw [h3 j hj, hf j hj]⟩
theorem OutsAt.net {B bm bo bn bf bs : Nat} {g : Int} {av : Option Addr} {cv : Nat} {ao : Option Addr} {co n : Nat} {l : List Int} {M S : List GN} {of : List Int} {w3 W : World} (h : OutsAt bn g av M.length cv ao co n l w3 W) (hm : Mak B bm bo bn bf bs g av cv M S of w3) (hM : M.length ≤ 100000) (hn : n ≤ 100000) :
    NetIn W.heap.size W bn av cv ao co ⟨g, M, l⟩ := by
  have hrow := rowGrown hm.rn hm.boxn (by decide) h.grow
  obtain ⟨a1, c1, hv1, _, _, hc1⟩ := Cells.of_owns hrow
  obtain ⟨a2, c2, hv2, _, _, hc2⟩ := Cells.of_owns h.row
  cases hv1
  cases hv2
  refine ⟨(cell_block h.box 0).trans rfl, (cell_block h.box 1).trans rfl, ?_, ?_, ?_, boxLt h.box, ?_, ?_⟩
  · simp only [h.len]; exact (cell_block h.box 2).trans rfl
  · refine hc1.congr2 fun j hj => ?_
    rw [List.getD_eq_getElem?_getD, nvals_get _ _ hj]; rfl
  · simp only [h.len]
    rw [Nat.mul_one] at hc2
    refine hc2.congr2 fun j hj => ?_
    have hjl : j < l.length := by rw [h.len]; exact hj
    simp [List.getD_eq_getElem?_getD, hjl]
  · simp only; unfold maxLen; omega
  · simp only [h.len]; unfold maxLen; omega
end Go.Proofs.Ytlaeflpddehipaa
