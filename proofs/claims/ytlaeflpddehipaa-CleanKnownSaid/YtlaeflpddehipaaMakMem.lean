/- clean.maker in memory: the net that is made, its nodes' numbers, the map of what was made. -/
import Derived.Test.YtlaeflpddehipaaCleanPlain
import Derived.Test.YtlaeflpddehipaaOwnRow
import Derived.Maps.OwnSet
import Derived.Maps.OwnOps
import Derived.DeepKeys4
set_option linter.unusedVariables false
namespace Go.Proofs.Ytlaeflpddehipaa
open Go.RowKit
open Go.Maps (Keyed)

theorem Try.laidOutAll : laidOutB Try.prog = true := by kernel_rfl
theorem Try.rowNode : (52 : TypeId) < Try.prog.types.size := of_decide_eq_true (by kernel_rfl)
theorem Try.keyNode2 : Try.prog.keyTypeAt 2 52 = true := by kernel_rfl
theorem Try.keyNodeAll : Try.prog.keyType 52 = true := by kernel_rfl
theorem Try.wideNode : (match Try.prog.underlying 52 with | some (.array _ _) | some (.struct _) => true | _ => false) = true := by kernel_rfl
theorem Try.cellsNode : Try.prog.cellsOf 52 = 4 := by kernel_rfl
theorem Try.cellsInt : Try.prog.cellsOf 3 = 1 := by kernel_rfl
theorem three_le : 2 + 1 ≤ 10000 := by decide
set_option maxRecDepth 100000 in
theorem Try.nodeLaw : Keyed Try.prog 52 := Keyed.of_law (deep_law_laid Try.laidOutAll (m := 2) three_le Try.rowNode Try.keyNode2 Try.wideNode)

/-- A node of numbers that are low. -/
def GN.low (x : GN) : Prop := (0 ≤ x.op ∧ x.op ≤ 1000000) ∧ (0 ≤ x.a ∧ x.a ≤ 1000000) ∧ (0 ≤ x.b ∧ x.b ≤ 1000000) ∧ (0 ≤ x.next ∧ x.next ≤ 1000000)
theorem wf_low {z : Int} (h : 0 ≤ z ∧ z ≤ 1000000) : (Lit.int .i64 z).wf = true := by
  have e1 : IntKind.i64.min = -9223372036854775808 := by decide
  have e2 : IntKind.i64.max = 9223372036854775807 := by decide
  unfold Lit.wf
  simp [e1, e2]
  omega
theorem Try.keyLits_int (d : Nat) {z : Int} (h : 0 ≤ z ∧ z ≤ 1000000) : Try.prog.keyLits (d + 1) 3 [.int .i64 z] = some [.int .i64 z] := by
  unfold Program.keyLits
  simp [Try.underlying3, wf_low h]
theorem key_node {x : GN} (h : x.low) : ∃ l, keyOf Try.prog 52 (.agg x.cells) = some l := by
  unfold keyOf
  simp only [Try.underlying52]
  have hf : (Value.agg x.cells).formed Try.prog 52 = true := by
    simp [Value.formed, Try.underlying52, Try.cellsNode, GN.cells]
  rw [Try.keyNodeAll, hf]
  obtain ⟨n, hn⟩ : ∃ n, Try.prog.types.size = n + 1 := ⟨Try.prog.types.size - 1, by have : (0 : Nat) < Try.prog.types.size := Nat.lt_of_le_of_lt (Nat.zero_le _) Try.rowNode; omega⟩
  rw [hn]
  have e : Try.prog.keyLits (n + 1 + 1) 52 (Value.agg x.cells).cells.toList = some [.int .i64 x.op, .int .i64 x.a, .int .i64 x.b, .int .i64 x.next] := by
    unfold Program.keyLits
    simp [Try.underlying52, Try.cellsNode, Value.cells, GN.cells, Try.cellsInt, Try.keyLits_int n h.1, Try.keyLits_int n h.2.1, Try.keyLits_int n h.2.2.1, Try.keyLits_int n h.2.2.2]
  rw [e]
  exact ⟨_, rfl⟩

/-- The map of what was made: of each node that is no register its number. -/
def SeenMap (w : World) (bs : Nat) (M : List GN) : Prop :=
  ∃ D : DataW Unit, w.ownsMap Try.prog 52 (plainElem Try.prog 3) bs M.length D ∧
    ∀ x l, GN.low x → keyOf Try.prog 52 (.agg x.cells) = some l → Maps.has D l = decide (x.op ≠ 4 ∧ x ∈ M) ∧ (x.op ≠ 4 ∧ x ∈ M → D.atKey l (.lit (.int .i64 0)) = .lit (.int .i64 ((M.idxOf x : Nat) : Int)))
theorem cells_inj {x y : GN} (h : Value.agg x.cells = Value.agg y.cells) : x = y := by
  obtain ⟨a, b, c, d⟩ := x
  obtain ⟨a', b', c', d'⟩ := y
  simpa [GN.cells] using h
theorem SeenMap.made (w : World) : SeenMap (w.alloc (.map #[] 0)) w.heap.size [] :=
  ⟨.map [], World.ownsMap_made w _ _ _, fun x l _ _ => ⟨by simp [Maps.has], fun h => by simp at h⟩⟩
theorem SeenMap.keep {w w' : World} {bs : Nat} {M : List GN} {row : Option Nat} (h : SeenMap w bs M) (hg : w.grownBy w' row) (hne : some bs ≠ row) : SeenMap w' bs M := by
  obtain ⟨D, h1, h2⟩ := h
  exact ⟨D, h1.kept hg hne, h2⟩
theorem SeenMap.lt {w : World} {bs : Nat} {M : List GN} (h : SeenMap w bs M) : bs < w.heap.size := by
  obtain ⟨D, h1, _⟩ := h
  exact h1.lt
theorem SeenMap.stay {w w' : World} {bs : Nat} {M : List GN} (h : SeenMap w bs M) (hb : Below w.heap.size w w') : SeenMap w' bs M :=
  h.keep (row := none) ⟨hb.os, hb.tape, hb.output, hb.size, fun k hk _ => hb.block k hk⟩ (by simp)
/-- A register more. -/
theorem SeenMap.reg {w : World} {bs : Nat} {M : List GN} {x : GN} (h : SeenMap w bs M) (hx : x.op = 4) : SeenMap w bs (M ++ [x]) := by
  obtain ⟨D, h1, h2⟩ := h
  refine ⟨D, h1.mono (by simp), fun y l hy hl => ?_⟩
  obtain ⟨h3, h4⟩ := h2 y l hy hl
  have e : (y.op ≠ 4 ∧ y ∈ M ++ [x]) ↔ (y.op ≠ 4 ∧ y ∈ M) := by
    constructor
    · rintro ⟨ho, hm⟩
      rcases List.mem_append.1 hm with hm | hm
      · exact ⟨ho, hm⟩
      · have : y = x := by simpa using hm
        subst this
        exact absurd hx ho
    · rintro ⟨ho, hm⟩
      exact ⟨ho, List.mem_append_left _ hm⟩
  refine ⟨by rw [h3]; exact decide_eq_decide.2 e.symm, fun hh => ?_⟩
  have hh' := e.1 hh
  rw [h4 hh', List.idxOf_append, if_pos hh'.2]
theorem Op_look {w : World} {bs : Nat} {M : List GN} {x : GN} (h : SeenMap w bs M) (hx : x.low) :
    (Instr.lookup 102 (.map (some bs)) (.agg x.cells) true).run Try.prog w = .ok (.tuple #[.int .i64 (if x.op ≠ 4 ∧ x ∈ M then ((M.idxOf x : Nat) : Int) else 0), .bool (decide (x.op ≠ 4 ∧ x ∈ M))]) w := by
  obtain ⟨D, h1, h2⟩ := h
  obtain ⟨l, hl⟩ := key_node hx
  obtain ⟨h3, h4⟩ := h2 x l hx hl
  obtain ⟨v, ps, hrun, hv⟩ := h1.look_ok Try.nodeLaw Try.underlying102 (z := .int .i64 0) (by kernel_rfl) (zd := .lit (.int .i64 0)) (zp := []) (plainElem_int Try.underlying3 (by decide)) hl
  obtain ⟨c, rfl, hc, _⟩ := plainElem_int_inv Try.underlying3 hv
  have hc' := congrArg Prod.fst hc
  simp only at hc'
  rw [hrun, h3]
  by_cases hm : x.op ≠ 4 ∧ x ∈ M
  · rw [h4 hm] at hc'
    cases hc'
    rw [if_pos hm]
  · rw [Maps.atKey_of_not_has (by rw [h3]; exact decide_eq_false hm)] at hc'
    cases hc'
    rw [if_neg hm]
theorem Op_store {w : World} {bs : Nat} {M : List GN} {x : GN} (h : SeenMap w bs M) (hx : x.low) (ho : x.op ≠ 4) (hm : x ∉ M) (hM : M.length ≤ 100000) :
    ∃ w', (Instr.mapUpdate 102 (.map (some bs)) (.agg x.cells) (.int .i64 (M.length : Nat))).run Try.prog w = .ok () w' ∧ SeenMap w' bs (M ++ [x]) ∧ w.grownBy w' (some bs) := by
  obtain ⟨D, h1, h2⟩ := h
  obtain ⟨l, hl⟩ := key_node hx
  obtain ⟨w', hrun, h3, h4⟩ := h1.store (val := .int .i64 (M.length : Nat)) (d := .lit (.int .i64 (M.length : Nat))) (ps := []) Try.nodeLaw Try.underlying102 (by unfold maxLen; omega) hl (plainElem_int Try.underlying3 (wf_low (by omega)))
  refine ⟨w', hrun, ⟨_, by rw [List.length_append]; exact h3, fun y ly hy hly => ?_⟩, h4.grown⟩
  obtain ⟨h5, h6⟩ := h2 y ly hy hly
  by_cases e : y = x
  · subst e
    rw [hl] at hly
    cases hly
    have hmm : y.op ≠ 4 ∧ y ∈ M ++ [y] := ⟨ho, by simp⟩
    refine ⟨by rw [Maps.has_put_same h1.isMap (Try.nodeLaw.key hl)]; exact (decide_eq_true hmm).symm, fun _ => ?_⟩
    rw [Maps.atKey_put_same h1.isMap (Try.nodeLaw.key hl), List.idxOf_append, if_neg hm]
    simp
  · have hne : ly ≠ l := fun e2 => by
      subst e2
      exact e (cells_inj (Try.nodeLaw.inj hly hl))
    have ee : (y.op ≠ 4 ∧ y ∈ M ++ [x]) ↔ (y.op ≠ 4 ∧ y ∈ M) := by simp [e]
    refine ⟨by rw [Maps.has_put_other hne, h5]; exact decide_eq_decide.2 ee.symm, fun hh => ?_⟩
    have hh' := ee.1 hh
    rw [Maps.atKey_put_other hne, h6 hh', List.idxOf_append, if_pos hh'.2]

/-! ### the maker -/
def ints (l : List Int) : Array Value := (l.map (Value.int .i64)).toArray
theorem ints_get (l : List Int) (j : Nat) (h : j < l.length) : (ints l)[j]? = some (.int .i64 (l.getD j 0)) := by
  simp [ints, List.getD_eq_getElem?_getD, h]
theorem ints_set (l : List Int) (j : Nat) (z : Int) : (ints l).setIfInBounds j (.int .i64 z) = ints (l.set j z) := by
  apply Array.ext'
  simp [ints, List.map_set]
/-- Block r holds these numbers, and may be written. -/
def RowI (w : World) (r : Nat) (l : List Int) : Prop := w.heap[r]? = some (.cells (ints l) 3 (0, 0))
theorem RowI.cell {w : World} {r : Nat} {l : List Int} (h : RowI w r l) (j : Nat) (hj : j < l.length) : w.cell? ⟨r, j, none⟩ = some (.int .i64 (l.getD j 0)) := by
  rw [cell_block h j, ints_get l j hj]
theorem RowI.set {w : World} {r : Nat} {l : List Int} (h : RowI w r l) (j : Nat) (z : Int) : RowI (w.setCell ⟨r, j, none⟩ (.int .i64 z)) r (l.set j z) := by
  unfold RowI
  rw [boxSet h, ints_set]
def nvals (l : List GN) : List Value := (List.range (l.length * 4)).map (nodeCell l)
theorem nvals_len (l : List GN) : (nvals l).length = l.length * 4 := by simp [nvals]
theorem nvals_get (l : List GN) (j : Nat) (hj : j < l.length * 4) : (nvals l)[j]? = some (nodeCell l j) := by simp [nvals, hj]
theorem nvals_app1 (L : List GN) (x : GN) : nvals (L ++ [x]) = nvals L ++ x.cells.toList := by
  apply List.ext_getElem?
  intro j
  by_cases h1 : j < L.length * 4
  · rw [List.getElem?_append_left (by rw [nvals_len]; exact h1), nvals_get _ _ h1, nvals_get _ _ (by simp; omega)]
    have : j / 4 < L.length := by omega
    simp [nodeCell, List.getD_eq_getElem?_getD, List.getElem?_append_left this]
  · rw [List.getElem?_append_right (by rw [nvals_len]; omega), nvals_len]
    by_cases h2 : j < L.length * 4 + 4
    · rw [nvals_get _ _ (by simp; omega)]
      obtain ⟨k, hk⟩ : ∃ k, j = L.length * 4 + k := ⟨j - L.length * 4, by omega⟩
      have hk8 : k < 4 := by omega
      subst hk
      rw [Nat.add_sub_cancel_left]
      have e1 : (L.length * 4 + k) / 4 = L.length := by omega
      have e2 : (L.length * 4 + k) % 4 = k := by omega
      unfold nodeCell
      rw [e1, e2]
      have e3 : (L ++ [x]).getD L.length GN.zero = x := by simp [List.getD_eq_getElem?_getD]
      rw [e3]
      match k, hk8 with
      | 0, _ => rfl
      | 1, _ => rfl
      | 2, _ => rfl
      | 3, _ => rfl
    · rw [List.getElem?_eq_none (by rw [nvals_len]; simp; omega), List.getElem?_eq_none (by simp [GN.cells]; omega)]

/-- What cells of other types keep. -/
def Keep (W W' : World) : Prop := ∀ (k : Nat) (c : Array Value) (T : TypeId), W.heap[k]? = some (Obj.cells c T (0, 0)) → T ≠ 52 → T ≠ 48 → W'.heap[k]? = some (Obj.cells c T (0, 0))
theorem Keep.refl (W : World) : Keep W W := fun _ _ _ h _ _ => h
theorem Keep.trans {A B C : World} (h : Keep A B) (h' : Keep B C) : Keep A C := fun k c T hk h1 h2 => h' k c T (h k c T hk h1 h2) h1 h2
theorem Keep.below {A B : World} (h : Below A.heap.size A B) : Keep A B := fun k c T hk _ _ => (h.block k (boxLt hk)).trans hk

def mkV (bo bn bf bs n : Nat) : Array Value := #[.pointer (some ⟨bo, 0, none⟩), .pointer (some ⟨bn, 0, none⟩), .slice (some ⟨bf, 0, none⟩) n n, .map (some bs)]
/-- The maker lies at block bm: M its nodes, S those that its map knows, of their numbers. -/
structure Mak (B : Nat) (bm bo bn bf bs : Nat) (g : Int) (av : Option Addr) (cv : Nat) (M S : List GN) (of : List Int) (W : World) : Prop where
  hbm : B ≤ bm
  hbn : B ≤ bn
  hbf : B ≤ bf
  hbs : B ≤ bs
  hB : B ≤ W.heap.size
  boxm : W.heap[bm]? = some (.cells (mkV bo bn bf bs of.length) 104 (0, 0))
  boxn : W.heap[bn]? = some (.cells #[.int .i64 g, .slice av M.length cv, .slice none 0 0] 48 (0, 0))
  rn : W.ownsRow B 52 4 (.slice av M.length cv) M.length (nvals M)
  ro : RowI W bf of
  mp : SeenMap W bs S

section
variable {B bm bo bn bf bs : Nat} {g : Int} {av : Option Addr} {cv : Nat} {M S : List GN} {of : List Int} {W W' : World}
theorem Mak.stay (h : Mak B bm bo bn bf bs g av cv M S of W) (hb : Below W.heap.size W W') : Mak B bm bo bn bf bs g av cv M S of W' :=
  ⟨h.hbm, h.hbn, h.hbf, h.hbs, Nat.le_trans h.hB hb.size, (hb.block _ (boxLt h.boxm)).trans h.boxm, (hb.block _ (boxLt h.boxn)).trans h.boxn, rowOld h.rn hb, (hb.block _ (boxLt h.ro)).trans h.ro, h.mp.stay hb⟩
theorem Mak.c1 (h : Mak B bm bo bn bf bs g av cv M S of W) : W.cell? ⟨bm, 1, none⟩ = some (.pointer (some ⟨bn, 0, none⟩)) := (cell_block h.boxm 1).trans rfl
theorem Mak.c2 (h : Mak B bm bo bn bf bs g av cv M S of W) : W.cell? ⟨bm, 2, none⟩ = some (.slice (some ⟨bf, 0, none⟩) of.length of.length) := (cell_block h.boxm 2).trans rfl
theorem Mak.c3 (h : Mak B bm bo bn bf bs g av cv M S of W) : W.cell? ⟨bm, 3, none⟩ = some (.map (some bs)) := (cell_block h.boxm 3).trans rfl
theorem Mak.n1 (h : Mak B bm bo bn bf bs g av cv M S of W) : W.cell? ⟨bn, 1, none⟩ = some (.slice av M.length cv) := (cell_block h.boxn 1).trans rfl
/-- The cells of the k-th node that was made. -/
theorem own_cells {w : World} {base e size n c : Nat} {a : Option Addr} {xs : List Value} (h : w.ownsRow base e size (.slice a n c) n xs) (hn : 0 < n) : ∃ b1, a = some ⟨b1, 0, none⟩ ∧ b1 < w.heap.size ∧ base ≤ b1 ∧ (∃ cur : Array Value, w.heap[b1]? = some (.cells cur e (0, 0))) ∧ n ≤ c ∧ ∀ j, j < n * size → w.cell? ⟨b1, j, none⟩ = xs[j]? := by
  obtain ⟨hl, h1⟩ := h
  rcases h1 with ⟨_, hn'⟩ | ⟨gb, cap, cur, hv, h1, h2, h3, h4, h5, h6⟩
  · omega
  · cases hv
    refine ⟨gb, rfl, boxLt h2, h1, ⟨cur, h2⟩, h3, fun j hj => ?_⟩
    rw [cell_block h2, ← h6, List.getElem?_take, if_pos hj, Array.getElem?_toList]
theorem Mak.node (h : Mak B bm bo bn bf bs g av cv M S of W) (k : Nat) (hk : k < M.length) : ∃ b1, av = some ⟨b1, 0, none⟩ ∧ b1 < W.heap.size ∧ W.cell? ⟨b1, k * 4, none⟩ = some (.int .i64 (M.getD k GN.zero).op) ∧ W.cell? ⟨b1, k * 4 + 1, none⟩ = some (.int .i64 (M.getD k GN.zero).a) := by
  obtain ⟨b1, h1, h2, _, _, _, h3⟩ := own_cells h.rn (by omega)
  refine ⟨b1, h1, h2, ?_, ?_⟩
  · rw [h3 _ (by omega), nvals_get _ _ (by omega)]
    simp [nodeCell, GN.cell]
  · rw [h3 _ (by omega), nvals_get _ _ (by omega)]
    have e1 : (k * 4 + 1) / 4 = k := by omega
    have e2 : (k * 4 + 1) % 4 = 1 := by omega
    simp [nodeCell, e1, e2, GN.cell]
/-- A node more: the row is another. -/
theorem Mak.push {wb W1 : World} {x : GN} {av' : Option Addr} {cv' : Nat} (h : Mak B bm bo bn bf bs g av cv M S of W1) (hg : W1.grownBy wb (Value.slice av M.length cv).ownBlock)
    (hown : wb.ownsRow B 52 4 (.slice av' (M.length + 1) cv') (M.length + 1) (nvals M ++ x.cells.toList)) :
    wb.heap[bn]? = some (.cells #[.int .i64 g, .slice av M.length cv, .slice none 0 0] 48 (0, 0)) ∧ wb.heap[bm]? = some (.cells (mkV bo bn bf bs of.length) 104 (0, 0)) ∧ Mak B bm bo bn bf bs g av' cv' (M ++ [x]) S of (wb.setCell ⟨bn, 1, none⟩ (.slice av' (M.length + 1) cv')) ∧ Keep W1 (wb.setCell ⟨bn, 1, none⟩ (.slice av' (M.length + 1) cv')) := by
  have hn := boxCross hg h.rn h.boxn (by decide)
  have hm := boxCross hg h.rn h.boxm (by decide)
  have hr := boxCross hg h.rn h.ro (by decide)
  have e : (M ++ [x]).length = M.length + 1 := by simp
  have e2 : (wb.setCell ⟨bn, 1, none⟩ (.slice av' (M.length + 1) cv')).heap.size = wb.heap.size := by simp [World.setCell]
  refine ⟨hn, hm, ⟨h.hbm, h.hbn, h.hbf, h.hbs, ?_, ?_, ?_, ?_, ?_, ?_⟩, ?_⟩
  · rw [e2]; exact Nat.le_trans h.hB hg.size
  · rw [heap_setCell_other _ _ _ _ (by exact boxNe hm hn (by decide))]; exact hm
  · rw [boxSet hn, e]; rfl
  · rw [e, nvals_app1]; exact rowSet hown hn (by decide) _ _
  · show (wb.setCell _ _).heap[bf]? = _
    rw [heap_setCell_other _ _ _ _ (by exact boxNe hr hn (by decide))]; exact hr
  · have hlt := h.mp.lt
    have hs1 : SeenMap wb bs S := h.mp.keep hg (fun e => by
      obtain ⟨D, ⟨es, clock, hb, _⟩, _⟩ := h.mp
      rcases h.rn.2 with ⟨hv, _⟩ | ⟨gb, cap, cur, hv, _, h2, _⟩
      · rw [hv] at e; simp [Value.ownBlock] at e
      · rw [hv] at e
        simp only [Value.ownBlock, Option.some.injEq] at e
        subst e
        rw [h2] at hb
        cases hb)
    refine hs1.keep (row := some bn) ⟨rfl, rfl, rfl, by rw [e2]; exact Nat.le_refl _, fun k _ hk => heap_setCell_other _ _ _ _ (by intro e; exact hk (by rw [e]))⟩ ?_
    intro e
    cases e
    obtain ⟨D, ⟨es, clock, hb, _⟩, _⟩ := hs1
    rw [hn] at hb
    cases hb
  · intro k c T hk h1 h2
    have hk' := boxCross hg h.rn hk (fun e => h1 e.symm)
    rw [heap_setCell_other _ _ _ _ (by exact boxNe hk' hn h2)]
    exact hk'
/-- The map knows it, too. -/
theorem Mak.stored (h : Mak B bm bo bn bf bs g av cv M S of W) (hg : W.grownBy W' (some bs)) {S' : List GN} (hS : SeenMap W' bs S') : Mak B bm bo bn bf bs g av cv M S' of W' ∧ Keep W W' := by
  have hne : ∀ {k c T}, W.heap[k]? = some (Obj.cells c T (0, 0)) → k ≠ bs := by
    intro k c T hk e
    subst e
    obtain ⟨D, ⟨es, clock, hb, _⟩, _⟩ := h.mp
    rw [hk] at hb
    cases hb
  have hk : ∀ {k c T}, W.heap[k]? = some (Obj.cells c T (0, 0)) → W'.heap[k]? = some (Obj.cells c T (0, 0)) := fun hk => (hg.block _ (boxLt hk) (by simpa using hne hk)).trans hk
  refine ⟨⟨h.hbm, h.hbn, h.hbf, h.hbs, Nat.le_trans h.hB hg.size, hk h.boxm, hk h.boxn, ?_, hk h.ro, hS⟩, fun k c T h1 _ _ => hk h1⟩
  refine rowKeep h.rn fun k hk => hg.block k (h.rn.lt k hk).2 ?_
  intro e
  cases e
  rcases h.rn.2 with ⟨hv, _⟩ | ⟨gb, cap, cur, hv, _, h2, _⟩
  · rw [hv] at hk; simp [Value.ownBlock] at hk
  · rw [hv] at hk
    simp only [Value.ownBlock, Option.some.injEq] at hk
    exact hne h2 hk
/-- A number is laid. -/
theorem Mak.put (h : Mak B bm bo bn bf bs g av cv M S of W) (j : Nat) (z : Int) : Mak B bm bo bn bf bs g av cv M S (of.set j z) (W.setCell ⟨bf, j, none⟩ (.int .i64 z)) := by
  have e2 : (W.setCell ⟨bf, j, none⟩ (.int .i64 z)).heap.size = W.heap.size := by simp [World.setCell]
  refine ⟨h.hbm, h.hbn, h.hbf, h.hbs, by rw [e2]; exact h.hB, ?_, ?_, rowSet h.rn h.ro (by decide) _ _, h.ro.set j z, ?_⟩
  · rw [heap_setCell_other _ _ _ _ (by exact boxNe h.boxm h.ro (by decide)), List.length_set]; exact h.boxm
  · rw [heap_setCell_other _ _ _ _ (by exact boxNe h.boxn h.ro (by decide))]; exact h.boxn
  · refine h.mp.keep (row := some bf) ⟨rfl, rfl, rfl, by rw [e2]; exact Nat.le_refl _, fun k _ hk => heap_setCell_other _ _ _ _ (by intro e; exact hk (by rw [e]))⟩ ?_
    intro e
    cases e
    obtain ⟨D, ⟨es, clock, hb, _⟩, _⟩ := h.mp
    have hr := h.ro
    unfold RowI at hr
    rw [hr] at hb
    cases hb
end
end Go.Proofs.Ytlaeflpddehipaa
