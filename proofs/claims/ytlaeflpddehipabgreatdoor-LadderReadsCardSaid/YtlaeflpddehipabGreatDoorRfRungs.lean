/- Rungs: lines of the document's, the plain part and the memory's. -/
import Derived.Test.YtlaeflpddehipabGreatDoorRfCells
import Derived.Test.YtlaeflpddehipabGreatDoorLdParse
import Derived.Laws.Rows
set_option linter.unusedVariables false
set_option linter.unusedSimpArgs false
namespace Go.Proofs.YtlaeflpddehipabGreatDoor
open Go.RowKit
attribute [local go_sem ↓] Go.wp_at_zero Go.wp_at_succ

theorem splitB_lines : ∀ (n : Nat) (s : Bs), s.length ≤ n → Lib.countB ⟨s.toArray⟩ ⟨#[10]⟩ + 1 = (splitLn s).length ∧ Lib.splitB ⟨#[10]⟩ 0 (Lib.countB ⟨s.toArray⟩ ⟨#[10]⟩) ⟨s.toArray⟩ = (splitLn s).map fun l => ⟨l.toArray⟩ := by
  intro n
  induction n with
  | zero =>
    intro s h
    have : s = [] := List.eq_nil_of_length_eq_zero (by omega)
    subst this
    exact ⟨rfl, rfl⟩
  | succ n ih =>
    intro s h
    rcases idx_ge s 10 with hi | ⟨i, hi⟩
    · have hB : Lib.indexB ⟨s.toArray⟩ ⟨#[10]⟩ = -1 := (Lib.index_one s 10).trans hi
      rw [Lib.countB_miss _ _ hB, split_none s hi]
      exact ⟨rfl, rfl⟩
    · have hB : Lib.indexB ⟨s.toArray⟩ ⟨#[10]⟩ = (i : Int) := (Lib.index_one s 10).trans hi
      obtain ⟨h1, h2⟩ := split_some s i hi
      have hc := Lib.countB_hit ⟨s.toArray⟩ ⟨#[10]⟩ i (Nat.le_refl 1) hB
      have he : (⟨s.toArray⟩ : ByteArray).extract (i + (⟨#[10]⟩ : ByteArray).size) (⟨s.toArray⟩ : ByteArray).size = ⟨(s.drop (i + 1)).toArray⟩ := ex_drop s (i + 1) _ (by rw [st_size]; exact Nat.le_refl _)
      rw [he] at hc
      obtain ⟨g1, g2⟩ := ih (s.drop (i + 1)) (by rw [List.length_drop]; omega)
      rw [hc, h2]
      refine ⟨by rw [List.length_cons, ← g1]; omega, ?_⟩
      rw [Nat.add_comm 1, Lib.splitB_hit _ _ _ _ i hB, he, g2, List.map_cons]
      congr 1
      exact ex_take s i
theorem splitR_any (s : Bs) (hs : s.length ≤ 1000000) (w : World) (hm : Mx w) : Calls Tryz.prog 14 #[st s, .string ⟨#[10]⟩] w fun e w' =>
    e = .returned (.slice (some ⟨w.heap.size, 0, none⟩) (splitLn s).length (splitLn s).length) ∧ w' = w.alloc (.cells ((splitLn s).map st).toArray 9) := by
  obtain ⟨m, hm⟩ := hm.2
  have h := Any.strings_Split { Tryz.laysM146 with } Tryz.laysM146.i9 ⟨s.toArray⟩ ⟨#[10]⟩ m w (by rw [st_size]; omega) hm (Nat.le_refl 1)
  obtain ⟨h1, h2⟩ := splitB_lines s.length s (Nat.le_refl _)
  have h1' : Lib.countB ⟨s.toArray⟩ ⟨#[10]⟩ = (splitLn s).length - 1 := by omega
  have hp : 1 ≤ (splitLn s).length := by omega
  rw [h2, h1', Nat.sub_add_cancel hp, List.map_map] at h
  exact h
def RungRowR (B : Nat) (W : World) (v : Value) (gs : List Rg) : Prop :=
  ∃ xs P, W.ownsRow B 42 3 v gs.length xs ∧ RungL W P gs xs ∧ ∀ k, P k → B ≤ k ∧ k < W.heap.size ∧ v.ownBlock ≠ some k
theorem RungRowR.old {B : Nat} {W W' : World} {v : Value} {gs : List Rg} (h : RungRowR B W v gs) (hb : Below W.heap.size W W') : RungRowR B W' v gs := by
  obtain ⟨xs, P, h1, h2, h3⟩ := h
  exact ⟨xs, P, rowOld h1 hb, h2.keep fun k hk => ⟨hk, hb.block k (h3 k hk).2.1⟩, fun k hk => ⟨(h3 k hk).1, Nat.lt_of_lt_of_le (h3 k hk).2.1 hb.size, (h3 k hk).2.2⟩⟩
theorem RungRowR.off {B : Nat} {W W' : World} {v : Value} {gs : List Rg} (h : RungRowR B W v gs) (hb : ∀ k, B ≤ k → k < W.heap.size → W'.heap[k]? = W.heap[k]?) (hs : W.heap.size ≤ W'.heap.size) : RungRowR B W' v gs := by
  obtain ⟨xs, P, h1, h2, h3⟩ := h
  exact ⟨xs, P, rowKeep h1 fun k hk => hb k (h1.lt k hk).1 (h1.lt k hk).2, h2.keep fun k hk => ⟨hk, hb k (h3 k hk).1 (h3 k hk).2.1⟩, fun k hk => ⟨(h3 k hk).1, Nat.lt_of_lt_of_le (h3 k hk).2.1 hs, (h3 k hk).2.2⟩⟩
theorem RungRowR.form {B : Nat} {W : World} {v : Value} {gs : List Rg} (h : RungRowR B W v gs) : ∃ a c, v = .slice a gs.length c := by
  obtain ⟨xs, P, h1, _, _⟩ := h
  rcases h1.2 with ⟨rfl, h0⟩ | ⟨g, cap, cur, rfl, _⟩
  · exact ⟨none, 0, by rw [h0]⟩
  · exact ⟨_, _, rfl⟩
theorem RungRowR.lt {B : Nat} {W : World} {v : Value} {gs : List Rg} (h : RungRowR B W v gs) : ∀ k, v.ownBlock = some k → B ≤ k ∧ k < W.heap.size := by
  obtain ⟨xs, P, h1, _, _⟩ := h
  exact fun k hk => h1.lt k hk
theorem RungRowR.base {B B' : Nat} {W : World} {v : Value} {gs : List Rg} (h : RungRowR B W v gs) (hb : B' ≤ B) : RungRowR B' W v gs := by
  obtain ⟨xs, P, ⟨h0, h1⟩, h2, h3⟩ := h
  exact ⟨xs, P, ⟨h0, h1.imp id fun ⟨g, cap, cur, e, hg, h⟩ => ⟨g, cap, cur, e, Nat.le_trans hb hg, h⟩⟩, h2, fun k hk => ⟨Nat.le_trans hb (h3 k hk).1, (h3 k hk).2⟩⟩
/-- The document's word for: nothing is wrong. -/
def Fin0 (w : World) : Prop := 0 < w.heap.size ∧ w.cell? ⟨0, 0, none⟩ = some (.int .i64 0) ∧ w.cell? ⟨0, 1, none⟩ = some (.int .i64 (-1))
theorem Fin0.below {w w' : World} (h : Fin0 w) (hb : Below w.heap.size w w') : Fin0 w' := ⟨Nat.lt_of_lt_of_le h.1 hb.size, (hb.cell (p := ⟨0, 0, none⟩) h.1).trans h.2.1, (hb.cell (p := ⟨0, 1, none⟩) h.1).trans h.2.2⟩
/-- A rung in the making: the document's. -/
structure RQ (wr : World) (bl bx : Nat) (tr : Option Tr) (v : Value) (kind : Int) (nm s : Bs) (bad : Int) (x : World) : Prop where
  below : Below wr.heap.size wr x
  lr : LR x bl s bad
  box : x.heap[bx]? = some (.cells #[v, .int .i64 kind, st nm] 42 (0, 0))
  nb : wr.heap.size ≤ bl
  nx : wr.heap.size ≤ bx
  ne : bl ≠ bx
  rep : ∀ t, tr = some t → RepS x (fun k => wr.heap.size ≤ k ∧ k < x.heap.size ∧ k ≠ bl ∧ k ≠ bx) t v
theorem RQ.call {wr x y : World} {bl bx : Nat} {tr : Option Tr} {v : Value} {kind bad bad' : Int} {nm s s' : Bs} (h : RQ wr bl bx tr v kind nm s bad x) (hg : Gr x bl y) (hl : LR y bl s' bad') : RQ wr bl bx tr v kind nm s' bad' y where
  below := below_gr h.below h.nb h.below.size hg
  lr := hl
  box := hg.at' h.box h.ne
  nb := h.nb
  nx := h.nx
  ne := h.ne
  rep := fun t e => (h.rep t e).keep fun k hk => ⟨⟨hk.1, Nat.lt_of_lt_of_le hk.2.1 hg.size, hk.2.2⟩, hg.block k hk.2.1 (by have := hk.2.2.1; simp; omega)⟩
theorem RQ.kind {wr x : World} {bl bx : Nat} {tr : Option Tr} {v : Value} {kind bad : Int} {nm s : Bs} (h : RQ wr bl bx tr v kind nm s bad x) (K : Int) : RQ wr bl bx tr v K nm s bad (x.setCell ⟨bx, 1, none⟩ (.int .i64 K)) where
  below := h.below.setCell (p := ⟨bx, 1, none⟩) h.nx _
  lr := (heap_setCell_other _ _ _ _ h.ne).trans h.lr
  box := (boxSet h.box 1 _).trans (by simp)
  nb := h.nb
  nx := h.nx
  ne := h.ne
  rep := fun t e => (h.rep t e).keep fun k hk => ⟨⟨hk.1, by simpa [World.setCell] using hk.2.1, hk.2.2⟩, heap_setCell_other _ _ _ _ hk.2.2.2⟩
theorem RQ.name {wr x : World} {bl bx : Nat} {tr : Option Tr} {v : Value} {kind bad : Int} {nm s : Bs} (h : RQ wr bl bx tr v kind nm s bad x) (n : Bs) : RQ wr bl bx tr v kind n s bad (x.setCell ⟨bx, 2, none⟩ (st n)) where
  below := h.below.setCell (p := ⟨bx, 2, none⟩) h.nx _
  lr := (heap_setCell_other _ _ _ _ h.ne).trans h.lr
  box := (boxSet h.box 2 _).trans (by simp)
  nb := h.nb
  nx := h.nx
  ne := h.ne
  rep := fun t e => (h.rep t e).keep fun k hk => ⟨⟨hk.1, by simpa [World.setCell] using hk.2.1, hk.2.2⟩, heap_setCell_other _ _ _ _ hk.2.2.2⟩
theorem RQ.text {wr x : World} {bl bx : Nat} {tr : Option Tr} {v : Value} {kind bad : Int} {nm s : Bs} (h : RQ wr bl bx tr v kind nm s bad x) (q : Bs) : RQ wr bl bx tr v kind nm q bad (x.setCell ⟨bl, 0, none⟩ (st q)) where
  below := h.below.setCell (p := ⟨bl, 0, none⟩) h.nb _
  lr := (boxSet h.lr 0 _).trans (by simp)
  box := (heap_setCell_other _ _ _ _ (Ne.symm h.ne)).trans h.box
  nb := h.nb
  nx := h.nx
  ne := h.ne
  rep := fun t e => (h.rep t e).keep fun k hk => ⟨⟨hk.1, by simpa [World.setCell] using hk.2.1, hk.2.2⟩, heap_setCell_other _ _ _ _ hk.2.2.1⟩
theorem RQ.drew {wr x : World} {bl bx : Nat} {tr : Option Tr} {v : Value} {kind bad : Int} {nm s : Bs} (h : RQ wr bl bx tr v kind nm s bad x) : RQ wr bl bx tr v kind nm s bad x.drew := ⟨h.below.drew, h.lr, h.box, h.nb, h.nx, h.ne, fun t e => RepS.keep (w := x) (w' := x.drew) (P := fun k => wr.heap.size ≤ k ∧ k < x.heap.size ∧ k ≠ bl ∧ k ≠ bx) (fun k hk => ⟨hk, rfl⟩) (h.rep t e)⟩
theorem RQ.start {wr w3 : World} {v : Value} {s : Bs} {bad : Int} {tr : Option Tr} {bl : Nat} (hbl : wr.heap.size = bl) (hb : Below wr.heap.size wr w3) (hl : LR w3 bl s bad) (hv : ∀ t, tr = some t → RepS w3 (fun k => bl < k ∧ k < w3.heap.size) t v) :
    RQ wr bl w3.heap.size tr v 1 [] s bad (w3.alloc (.cells #[v, .int .i64 1, .string ⟨#[]⟩] 42)) := by
  have hb3 : Below w3.heap.size w3 (w3.alloc (.cells #[v, .int .i64 1, .string ⟨#[]⟩] 42)) := (Below.refl _ _).alloc (Nat.le_refl _) _
  have hlt := boxLt hl
  exact ⟨hb.trans (hb3.mono hb.size), (hb3.block bl hlt).trans hl, heap_alloc_new w3 _, by omega, hb.size, by omega, fun t e => (hv t e).keep fun k hk => ⟨⟨by omega, Nat.lt_of_lt_of_le hk.2 hb3.size, by omega, by omega⟩, hb3.block k hk.2⟩⟩
/-- Where Rungs stands between two lines. -/
structure RS (w : World) (lines : List Bs) (l : Value) (acc : List Rg) (W : World) : Prop where
  below : Below w.heap.size w W
  err : W.heap[w.heap.size]? = some (.cells #[.int .i64 0, .int .i64 0] 28 (0, 0))
  row : W.heap[w.heap.size + 1]? = some (.cells (lines.map st).toArray 9 (0, 0))
  acc : RungRowR (w.heap.size + 2) W l acc
  size : w.heap.size + 2 ≤ W.heap.size
theorem RS.old {w W W' : World} {lines : List Bs} {l : Value} {acc : List Rg} (h : RS w lines l acc W) (hb : Below W.heap.size W W') : RS w lines l acc W' :=
  ⟨h.below.trans (hb.mono h.below.size), (hb.block _ (boxLt h.err)).trans h.err, (hb.block _ (boxLt h.row)).trans h.row, h.acc.old hb, Nat.le_trans h.size hb.size⟩
theorem RS.start (w : World) (lines : List Bs) : RS w lines (.slice none 0 0) [] ((w.alloc (.cells #[.int .i64 0, .int .i64 0] 28)).alloc (.cells (lines.map st).toArray 9)) := by
  have h1 : Below w.heap.size w (w.alloc (.cells #[.int .i64 0, .int .i64 0] 28)) := (Below.refl _ _).alloc (Nat.le_refl _) _
  have h2 : Below (w.alloc (.cells #[.int .i64 0, .int .i64 0] 28)).heap.size (w.alloc (.cells #[.int .i64 0, .int .i64 0] 28)) ((w.alloc (.cells #[.int .i64 0, .int .i64 0] 28)).alloc (.cells (lines.map st).toArray 9)) := (Below.refl _ _).alloc (Nat.le_refl _) _
  refine ⟨h1.trans (h2.mono h1.size), (h2.block _ (by simp)).trans (heap_alloc_new w _), ?_, ⟨[], fun _ => False, World.ownsRow_nil _ _ _ _, rfl, fun _ h => h.elim⟩, by simp⟩
  have := heap_alloc_new (w.alloc (.cells #[.int .i64 0, .int .i64 0] 28)) (.cells (lines.map st).toArray 9)
  rwa [World.size_alloc] at this
/-- append(rungs, one more): where operations go in the text's order. -/
theorem rungRPush {P : Program} {ops : Array Oper} {rest : List Oper} {o : Oper} {a : Act} {Q : Exit → Act → World → Prop} (B : Nat) (W1 wr : World) (hgd : o.guard = none) (s x : Operand) (t : TypeId)
    (ho : o.op = .call { callee := .builtin .append, args := #[s, x], argTypes := #[t, t] })
    (i : TypeInfo) (z : Value) (bytes : Nat) (ht : P.underlying t = some (.slice 42)) (hi : P.info? 42 = some i) (hz : i.zero = some z)
    (hsize : i.size = 3) (hby : i.bytes = bytes) (hzs : z.cells.size = 3)
    (v : Value) (gs : List Rg) (g : Rg) (n : Nat) (hn : gs.length = n) (hs : a.eval s = v) (hown : RungRowR B wr v gs) (va : Value)
    (hW : W1 = wr.alloc (.cells #[va, .int .i64 g.kind, st g.name] 42)) (hx : a.eval x = .slice (some ⟨wr.heap.size, 0, none⟩) 1 1) (h1 : va.oneCell' = true)
    (hu : RepS wr (fun k => B ≤ k ∧ k < wr.heap.size ∧ v.ownBlock ≠ some k) g.cells va)
    (hn4 : n ≤ 1000000) (hb4 : bytes ≤ 1000) (hB : B ≤ wr.heap.size)
    (h : ∀ av' cv' wb, Hid (RungRowR B wb (.slice av' (n + 1) cv') (gs ++ [g])) → Hid ((wr.alloc (.cells #[va, .int .i64 g.kind, st g.name] 42)).grownBy wb v.ownBlock) → wpList P ops Q rest (a.put o.dst (.slice av' (n + 1) cv')) wb) :
    wpList P ops Q (o :: rest) a W1 := by
  subst hW hn
  obtain ⟨xs, P0, g1, g2, g3⟩ := hown
  have hb0 : Below wr.heap.size wr (wr.alloc (.cells #[va, .int .i64 g.kind, st g.name] 42)) := (Below.refl _ _).alloc (Nat.le_refl _) _
  have hbytes : (gs.length + 1) * bytes ≤ 140737488355328 := Nat.le_trans (Nat.mul_le_mul (show gs.length + 1 ≤ 1000001 by omega) hb4) (by decide)
  refine wpList_append_own_at _ hgd s x t ho B 42 i z 3 bytes ht hi hz hsize hby hzs (by decide) v gs.length xs hs (rowOld g1 hb0) ⟨wr.heap.size, 0, none⟩ 1 1 [va, .int .i64 g.kind, st g.name] hx rfl (fun j u hj => by rw [Addr.add_at, cell_new]; simpa using hj) (fun u hu => by
      simp only [List.mem_cons, List.not_mem_nil, or_false] at hu
      rcases hu with rfl | rfl | rfl
      · exact h1
      · rfl
      · rfl) (by unfold maxLen; omega) hbytes (Nat.le_trans hB (by simp)) ?_
  intro v' wb k1 k2 k3 k4
  obtain ⟨av', cv', rfl⟩ := owns_slice k1
  have hne : ∀ k, (B ≤ k ∧ k < wr.heap.size ∧ v.ownBlock ≠ some k) → (B ≤ k ∧ k < wb.heap.size ∧ (Value.slice av' (gs.length + 1) cv').ownBlock ≠ some k) := fun k ⟨h1, h2, h3⟩ => ⟨h1, Nat.lt_of_lt_of_le h2 (Nat.le_trans hb0.size k2.size), fun e => by
    rcases k4 with h | h
    · exact h3 (h ▸ e)
    · rw [h] at e; cases e; rw [World.size_alloc] at h2; omega⟩
  have hke : ∀ k, (B ≤ k ∧ k < wr.heap.size ∧ v.ownBlock ≠ some k) → wb.heap[k]? = wr.heap[k]? := fun k ⟨h1, h2, h3⟩ => (k2.block k (Nat.lt_of_lt_of_le h2 hb0.size) (fun e => h3 e.symm)).trans (hb0.block k h2)
  refine h av' cv' wb (hid ⟨xs ++ [va, .int .i64 g.kind, st g.name], _, ?_, RungL.snoc (hu.keep fun k hk => ⟨hne k hk, hke k hk⟩) (g2.keep fun k hk => ⟨hne k (g3 k hk), hke k (g3 k hk)⟩), fun k hk => hk⟩) (hid k2)
  rw [List.length_append]
  exact k1
theorem RS.pushed {w W wb : World} {lines : List Bs} {l l' : Value} {acc acc' : List Rg} {o : Obj} {row : Option Nat} (h : RS w lines l acc W) (hg : (W.alloc o).grownBy wb row) (hr : ∀ k, row = some k → w.heap.size + 2 ≤ k) (hx : RungRowR (w.heap.size + 2) wb l' acc') : RS w lines l' acc' wb := by
  have h0 : Below W.heap.size W (W.alloc o) := (Below.refl _ _).alloc (Nat.le_refl _) _
  have hk : ∀ k, k < w.heap.size + 2 → wb.heap[k]? = W.heap[k]? := fun k h8 => by
    have hW : k < W.heap.size := Nat.lt_of_lt_of_le h8 h.size
    exact (hg.block k (Nat.lt_of_lt_of_le hW h0.size) (fun e => by have := hr k e.symm; omega)).trans (h0.block k hW)
  exact ⟨⟨hg.os.trans (h0.os.trans h.below.os), hg.tape.trans (h0.tape.trans h.below.tape), hg.output.trans (h0.output.trans h.below.output), Nat.le_trans h.below.size (Nat.le_trans h0.size hg.size), fun k hk' => (hk k (by omega)).trans (h.below.block k hk')⟩, (hk _ (by omega)).trans h.err, (hk _ (by omega)).trans h.row, hx, Nat.le_trans h.size (Nat.le_trans h0.size hg.size)⟩
theorem Tryz.infoRfRung : (Tryz.prog.info? 42).map (fun i => (i.zero, i.size, i.bytes)) = some (some (.agg #[.slice none 0 0, .int .i64 0, .string ⟨#[]⟩]), 3, 48) := by kernel_rfl
theorem hasP_any (s q : Bs) (w : World) : Calls Tryz.prog 20 #[st s, st q] w fun e w' => e = .returned (.bool (Lib.hasPrefix s q)) ∧ w' = w := Tryz.strings_HasPrefix ⟨s.toArray⟩ ⟨q.toArray⟩ w
theorem has2 (a b : UInt8) (t : Bs) : Lib.hasPrefix (a :: b :: t) [a, b] = true := by simp [Lib.hasPrefix]
theorem has2_no (a b : UInt8) (s : Bs) (h : ∀ t, s ≠ a :: b :: t) : Lib.hasPrefix s [a, b] = false := by
  cases h1 : Lib.hasPrefix s [a, b] with
  | false => rfl
  | true =>
    unfold Lib.hasPrefix at h1
    obtain ⟨t, ht⟩ := List.isPrefixOf_iff_prefix.1 h1
    exact absurd ht.symm (h t)
theorem results_rungs (tmps : Array Value) (X : World) (b3 : Nat) (v x y : Value) (h2 : tmps.getD 2 undef = v) (h3 : tmps.getD 3 undef = .pointer (some ⟨b3, 0, none⟩)) (hb : X.heap[b3]? = some (.cells #[x, y] 28 (0, 0))) :
    (results Tryz.f5 tmps).run Tryz.prog X = .ok (.tuple #[v, .agg #[x, y]]) X := by
  have hr : Tryz.f5.results = #[.tmp 2, .cell 3 28] := rfl
  have l3 : (loadVar 28 ⟨b3, 0, none⟩).run Tryz.prog X = .ok (.agg #[x, y]) X := run_loadVar_row X b3 28 28 _ (0, 0) _ hb Tryz.underlying28 rfl (by kernel_rfl)
  have h2' : tmps[2]?.getD undef = v := by simpa using h2
  have h3' : tmps[3]?.getD undef = .pointer (some ⟨b3, 0, none⟩) := by simpa using h3
  simp [results, hr, h2', h3', asAddr, l3, Sem.run_bind, Result.andThen]
/-- What comes of a call of Rungs. -/
def RungsPost (w : World) (r : ORes) (e : Ending) (w' : World) : Prop :=
  Below w.heap.size w w' ∧ match r with
    | .ok gs => ∃ v, e = .returned (.tuple #[v, .agg #[.int .i64 0, .int .i64 (-1)]]) ∧ RungRowR w.heap.size w' v gs
    | .bad x i => e = .returned (.tuple #[.slice none 0 0, .agg #[.int .i64 x, .int .i64 (i : Int)]])
theorem cellsR_nine (s : Bs) (r : Out) (h : PC 9 s r) (bl : Nat) (hbl : bl ≠ 3) (w : World) (hl : LR w bl s 0) (hm : Mx w) (hs : s.length ≤ 1000000) : Calls Tryz.prog 16 #[.pointer (some ⟨bl, 0, none⟩), .int .i64 0] w (CPostR bl w r) := cellsR_any 9 (Nat.le_refl _) s r h bl hbl w hl hm hs
theorem RS.trim {w W W' : World} {lines : List Bs} {l : Value} {acc : List Rg} (h : RS w lines l acc W) (hw : W' = W ∨ W' = W.drew) : RS w lines l acc W' := by
  rcases hw with rfl | rfl
  · exact h
  · exact h.old (Below.refl _ _).drew
theorem RS.fell {w W : World} {lines : List Bs} {l : Value} {acc : List Rg} (h : RS w lines l acc W) (a b : Value) : Below w.heap.size w ((W.setCell ⟨w.heap.size, 0, none⟩ a).setCell ⟨w.heap.size, 1, none⟩ b) ∧ ((W.setCell ⟨w.heap.size, 0, none⟩ a).setCell ⟨w.heap.size, 1, none⟩ b).heap[w.heap.size]? = some (.cells #[a, b] 28 (0, 0)) :=
  ⟨(h.below.setCell (p := ⟨w.heap.size, 0, none⟩) (Nat.le_refl _) _).setCell (p := ⟨w.heap.size, 1, none⟩) (Nat.le_refl _) _, (boxSet (boxSet h.err 0 _) 1 _).trans (by simp)⟩
theorem RS.last {w W : World} {lines : List Bs} {l : Value} {acc : List Rg} {a b : Value} (h : RS w lines l acc W) : RungRowR w.heap.size ((W.setCell ⟨w.heap.size, 0, none⟩ a).setCell ⟨w.heap.size, 1, none⟩ b).drew l acc := by
  have h1 : RungRowR (w.heap.size + 2) ((W.setCell ⟨w.heap.size, 0, none⟩ a).setCell ⟨w.heap.size, 1, none⟩ b).drew l acc := h.acc.off (fun k hk _ => (heap_setCell_other _ _ _ _ (by simp only; omega)).trans (heap_setCell_other _ _ _ _ (by simp only; omega))) (by simp [World.setCell, World.drew])
  exact h1.base (by omega)
theorem name_empty : goodName (nmOf []) = false := by decide
theorem bad_next {w x : World} {lines : List Bs} {l : Value} {acc : List Rg} {wr : World} {bl bx : Nat} {tr : Option Tr} {v : Value} {kind bad : Int} {nm s : Bs} (h : RS w lines l acc wr) (hq : RQ wr bl bx tr v kind nm s bad x) : RS w lines l acc x := h.old hq.below
theorem RepS.shift {w3 w4 : World} {bl : Nat} {t : Tr} {v : Value} (h : RepS w4 (New w3 w4) t v) (hz : w3.heap.size = bl + 1) : RepS w4 (fun k => bl < k ∧ k < w4.heap.size) t v := h.keep fun k hk => ⟨⟨by have := hk.1; omega, hk.2⟩, rfl⟩
theorem RQ.elem {wr x : World} {bl bx : Nat} {t : Tr} {v : Value} {kind bad : Int} {nm s : Bs} {B : Nat} {l : Value} {acc : List Rg} (h : RQ wr bl bx (some t) v kind nm s bad x) (hB : B ≤ wr.heap.size) (hl : ∀ k, l.ownBlock = some k → k < wr.heap.size) : RepS x (fun k => B ≤ k ∧ k < x.heap.size ∧ l.ownBlock ≠ some k) t v :=
  (h.rep t rfl).keep fun k hk => ⟨⟨Nat.le_trans hB hk.1, hk.2.1, fun e => by have := hl k e; have := hk.1; omega⟩, rfl⟩
set_option maxRecDepth 100000 in
set_option maxHeartbeats 3200000 in
theorem rungs_any (s : Bs) (hs : s.length ≤ 1000000) (w : World) (hmx : Mx w) (hfin : Fin0 w) : Calls Tryz.prog 5 #[st s] w (RungsPost w (runLn (splitLn s) 0 [])) := by
  have HMX := hid hmx
  have HFIN := hid hfin
  obtain ⟨hl1, hl2⟩ := splitLn_len s
  obtain ⟨res, hres⟩ : ∃ res, runLn (splitLn s) 0 [] = res := ⟨_, rfl⟩
  rw [hres]
  have HRES := hid hres
  have hm1 : Mx (w.alloc (.cells #[.int .i64 0, .int .i64 0] 28)) := hmx.below ((Below.refl _ _).alloc (Nat.le_refl _) _)
  have HM1 := hid hm1
  have HST := hid (RS.start w (splitLn s))
  have HLL := hid (show ∀ x ∈ splitLn s, x.length ≤ 1000000 from fun x hx => Nat.le_trans (hl2 x hx) hs)
  obtain ⟨lines, hlines⟩ : ∃ lines, splitLn s = lines := ⟨_, rfl⟩
  have hspl := splitR_any s hs (w.alloc (.cells #[.int .i64 0, .int .i64 0] 28)) hm1
  rw [hlines] at hspl HST HLL HRES hl1
  have HSPL := hid hspl
  have hnl : lines.length ≤ 1000001 := by omega
  clear hmx hfin hm1 hres hspl hlines hl1 hl2
  go_enter Tryz.func5, Tryz.ntmps5
  go_upto_region 3 with (go_at_call 14; (with_reducible refine HSPL.out.mono ?_); rintro e w1 ⟨rfl, hw⟩; subst w1)
  clear HSPL
  generalize ((w.alloc (Obj.cells #[.int .i64 0, .int .i64 0] 28)).alloc (Obj.cells (lines.map st).toArray 9)) = w0 at HST ⊢
  go_loopw [4, 12] (fun l v wr => ∃ (k : Nat) (acc : List Rg), v = .int .i64 k ∧ k ≤ lines.length ∧ RS w lines l acc wr ∧ runLn (lines.drop k) k acc = res ∧ acc.length ≤ 30) (fun _ v _ => lines.length - (intOf v).toNat)
  case atStart => exact ⟨0, [], rfl, Nat.zero_le _, HST.out, HRES.out, by simp⟩
  case round =>
    rename World => wa
    obtain ⟨k, acc, rfl, hk, hrs, hrun, ha⟩ := hrel
    obtain ⟨al, ql, rfl⟩ := hrs.acc.form
    have HRS := hid hrs
    have HRUN := hid hrun
    have HMA := hid (HMX.out.below hrs.below)
    have hlb := boxLt hrs.row
    have hwz := hrs.size
    clear hrs hrun
    by_cases hkl : k < lines.length
    · have hkI : (k : Int) < (lines.length : Int) := by omega
      have hk0 : (0 : Int) ≤ (k : Int) := by omega
      obtain ⟨x, hx⟩ : ∃ x, lines[k]? = some x := ⟨_, List.getElem?_eq_getElem hkl⟩
      have hcx : wa.cell? ⟨w.heap.size + 1, k, none⟩ = some (st x) := (cell_block HRS.out.row k).trans (by simp [hx])
      have HXL := hid (HLL.out x (List.mem_of_getElem? hx))
      have HDR := hid (show lines.drop k = x :: lines.drop (k + 1) by
        obtain ⟨h1, h2⟩ := List.getElem?_eq_some_iff.1 hx
        rw [List.drop_eq_getElem_cons h1, h2])
      have HRX := hid (show runLn (x :: lines.drop (k + 1)) k acc = res by rw [← HDR.out]; exact HRUN.out)
      clear hx
      go_upto_region 5 with fail
      cases htr : Lib.trimB x 32 with
      | nil =>
        have HTR := hid htr
        clear htr
        go_wp2_with (go_at_call 15; (with_reducible refine (trim1_any x HXL.out wa).mono ?_); rintro e w2 ⟨rfl, hw⟩; rw [HTR.out]; have HRS2 := hid (HRS.out.trim hw); clear hw)
        go_roundw
        case rel => exact ⟨k + 1, acc, by go_num, by omega, HRS2.out, by
          have h := HRX.out
          unfold runLn at h
          rw [if_pos HTR.out] at h
          exact h, ha⟩
        case measure => simp [intOf]; omega
      | cons c9 t9 =>
        have HTR := hid (show Lib.trimB x 32 ≠ [] by rw [htr]; exact List.cons_ne_nil _ _)
        have HTC := hid htr
        clear htr
        by_cases h30 : acc.length = 30
        · have h30I : (30 : Int) ≤ (acc.length : Int) := by omega
          have H30 := hid h30
          clear h30
          go_upto_region 7 with (go_at_call 15; (with_reducible refine (trim1_any x HXL.out wa).mono ?_); rintro e w2 ⟨rfl, hw⟩; rw [HTC.out]; have HRS2 := hid (HRS.out.trim hw); clear hw)
          have e0 : w2.cell? ⟨w.heap.size, 0, none⟩ = some (.int .i64 0) := (cell_block HRS2.out.err 0).trans rfl
          have e1 : w2.cell? ⟨w.heap.size, 1, none⟩ = some (.int .i64 0) := (cell_block HRS2.out.err 1).trans rfl
          have fz := free_block HRS2.out.err
          have lz := boxLt HRS2.out.err
          go_wp2_with fail
          refine ⟨rfl, _, results_rungs _ _ w.heap.size _ _ _ rfl rfl (HRS2.out.fell _ _).2, (HRS2.out.fell _ _).1, ?_⟩
          have h := HRX.out
          unfold runLn at h
          rw [if_neg HTR.out, if_pos H30.out] at h
          rw [← h]
          rfl
        · have h30I : ¬ (30 : Int) ≤ (acc.length : Int) := by omega
          have HRG := hid (show (match rung x with | .ok g => runLn (lines.drop (k + 1)) (k + 1) (acc ++ [g]) | .bad e => .bad e k) = res by
            have h := HRX.out
            unfold runLn at h
            rw [if_neg HTR.out, if_neg h30] at h
            exact h)
          have ha29 : acc.length ≤ 29 := by omega
          clear h30
          go_upto_region 9 with (go_at_call 15; (with_reducible refine (trim1_any x HXL.out wa).mono ?_); rintro e w2 ⟨rfl, hw⟩; rw [HTC.out]; have HRS2 := hid (HRS.out.trim hw); clear hw)
          have hb3 : Below w2.heap.size w2 (w2.alloc (.cells #[st x, .int .i64 0] 55)) := (Below.refl _ _).alloc (Nat.le_refl _) _
          have h3 : LR (w2.alloc (.cells #[st x, .int .i64 0] 55)) w2.heap.size x 0 := heap_alloc_new w2 _
          have hsz3 : (w2.alloc (.cells #[st x, .int .i64 0] 55)).heap.size = w2.heap.size + 1 := World.size_alloc _ _
          have HM2 := hid (HMX.out.below HRS2.out.below)
          have hbl3 : w2.heap.size ≠ 3 := by have := HM2.out.1; omega
          obtain ⟨bl, hbl⟩ : ∃ bl, w2.heap.size = bl := ⟨_, rfl⟩
          rw [hbl] at h3 hsz3 hbl3
          rw [hbl]
          generalize w2.alloc (Obj.cells #[st x, .int .i64 0] 55) = w3 at hb3 h3 hsz3 ⊢
          have HB3 := hid hb3
          have H3 := hid h3
          have HM3 := hid (HM2.out.below hb3)
          have HBL := hid hbl
          have HSZ3 := hid hsz3
          have HOUT := hid (outOf_is x)
          obtain ⟨o, ho⟩ : ∃ o, outOf x = o := ⟨_, rfl⟩
          have HR : Hid (rung x = rungOf o) := hid (by unfold rung; rw [ho])
          rw [ho] at HOUT
          clear hb3 h3 hsz3 hbl ho
          cases o with
          | bad x9 =>
            go_upto_region 10 with (go_at_call 16; (with_reducible refine (cellsR_nine x _ HOUT.out bl hbl3 w3 H3.out HM3.out HXL.out).mono ?_); rintro e w4 ⟨hg4, a4, n4, q4, rfl, hx4, hl4⟩; have HX9 := hid hx4; have B4 := hid (RQ.start (tr := none) (v := .slice a4 n4 q4) HBL.out (below_gr HB3.out (Nat.le_of_eq HBL.out) HB3.out.size hg4) hl4 (fun t e => by cases e)); clear hg4 hx4 hl4)
            have HBAD := hid (show res = .bad x9 k by have h := HRG.out; rw [HR.out] at h; exact h.symm)
            obtain ⟨bx, hbx⟩ : ∃ bx, w4.heap.size = bx := ⟨_, rfl⟩
            rw [hbx] at B4
            rw [hbx]
            generalize w4.alloc _ = w5 at B4 ⊢
            clear hbx
            have HN10 : Hid ((bk []).head? ≠ some 40) := hid (by simp [bk, Lib.trimLeftB])
            go_upto_region 12 with (first
              | (go_at_call 17; (with_reducible refine (takeR_no [] x9 40 HN10.out bl w5 B4.out.lr).mono ?_); rintro e w6 ⟨rfl, h8, hg8⟩; rw [show bk [] = [] from rfl] at h8; have B6 := hid (B4.out.call hg8 h8); clear h8 hg8)
              | (go_at_call 18; (with_reducible refine (failsR_any [] x9 3 bl w6 B6.out.lr).mono ?_); rintro e w7 ⟨rfl, h8, hg8⟩; rw [firstBad_ne HX9.out] at h8; have B7 := hid (B6.out.call hg8 h8); clear h8 hg8))
            have HN12 : Hid ((bk []).head? ≠ some 47) := hid (by simp [bk, Lib.trimLeftB])
            go_upto_region 20 with (first
              | (go_at_call 19; (with_reducible refine (next_any [] x9 bl w7 B7.out.lr).mono ?_); rintro e wp ⟨rfl, h8, hg8⟩; rw [show bk [] = [] from rfl] at h8; have BP := hid (B7.out.call hg8 h8); clear h8 hg8)
              | (go_at_call 17; (with_reducible refine (takeR_no [] x9 47 HN12.out bl wp BP.out.lr).mono ?_); rintro e wq ⟨rfl, h8, hg8⟩; rw [show bk [] = [] from rfl] at h8; have BQ := hid (BP.out.call hg8 h8); (have q0 : wq.cell? ⟨bl, 0, none⟩ = some (st []) := (cell_block BQ.out.lr 0).trans rfl); clear h8 hg8)
              | (go_at_call 20; (with_reducible refine (hasP_any [] [83, 32] wq).mono ?_); rintro e wi ⟨rfl, hw⟩; subst wi; rw [show Lib.hasPrefix [] [83, 32] = false from rfl])
              | (go_at_call 20; (with_reducible refine (hasP_any [] [82, 32] wq).mono ?_); rintro e wi ⟨rfl, hw⟩; subst wi; rw [show Lib.hasPrefix [] [82, 32] = false from rfl])
              | (go_at_call 21; (with_reducible refine (nameLine_any [] x9 bl hbl3 wq BQ.out.lr (HM2.out.below BQ.out.below) (by decide)).mono ?_); rintro e wn ⟨rfl, hg8, h8⟩; rw [if_neg (by rw [name_empty]; decide), firstBad_ne HX9.out] at h8; have BN := hid (BQ.out.call hg8 h8); (have n2 : wn.cell? ⟨bx, 2, none⟩ = some (st []) := (cell_block BN.out.box 2).trans rfl); have fn := free_block BN.out.box; have ln := boxLt BN.out.box; clear h8 hg8))
            have BM := hid (BN.out.name (nmOf []))
            generalize wn.setCell ⟨bx, 2, none⟩ (st (nmOf [])) = wm at BM ⊢
            clear BN n2 fn ln q0
            have HN20 : Hid ((bk []).head? ≠ some 41) := hid (by simp [bk, Lib.trimLeftB])
            go_upto_region 22 with (first
              | (go_at_call 17; (with_reducible refine (takeR_no [] x9 41 HN20.out bl wm BM.out.lr).mono ?_); rintro e wy ⟨rfl, h8, hg8⟩; rw [show bk [] = [] from rfl] at h8; have BY := hid (BM.out.call hg8 h8); clear h8 hg8)
              | (go_at_call 18; (with_reducible refine (failsR_any [] x9 3 bl wy BY.out.lr).mono ?_); rintro e wz ⟨rfl, h8, hg8⟩; rw [firstBad_ne HX9.out] at h8; have BZ := hid (BY.out.call hg8 h8); clear h8 hg8))
            have HZR := hid (bad_next HRS2.out BZ.out)
            have z1 : wz.cell? ⟨bl, 1, none⟩ = some (.int .i64 x9) := (cell_block BZ.out.lr 1).trans rfl
            have e0 : wz.cell? ⟨w.heap.size, 0, none⟩ = some (.int .i64 0) := (cell_block HZR.out.err 0).trans rfl
            have e1 : wz.cell? ⟨w.heap.size, 1, none⟩ = some (.int .i64 0) := (cell_block HZR.out.err 1).trans rfl
            have fz := free_block HZR.out.err
            have lz := boxLt HZR.out.err
            have hx9 := HX9.out
            have hx9D : decide (x9 = 0) = false := decide_eq_false hx9
            go_upto_region 23 with fail
            go_region
            all_goals go_wp2_with fail
            all_goals exact ⟨rfl, _, results_rungs _ _ w.heap.size _ _ _ rfl rfl (HZR.out.fell _ _).2, (HZR.out.fell _ _).1.drew, by rw [HBAD.out]; rfl⟩
          | ok t s1 =>
            have hsh := PC.shrinks 9 _ _ _ HOUT.out
            go_upto_region 10 with (go_at_call 16; (with_reducible refine (cellsR_nine x _ HOUT.out bl hbl3 w3 H3.out HM3.out HXL.out).mono ?_); rintro e w4 ⟨hg4, v4, rfl, hv4, hl4⟩; obtain ⟨a4, q4, rfl⟩ := hv4.form; have HV4 := hid (hv4.shift HSZ3.out); have B4 := hid (RQ.start (tr := some t) (v := .slice a4 t.len q4) HBL.out (below_gr HB3.out (Nat.le_of_eq HBL.out) HB3.out.size hg4) hl4 (fun t' e => by cases e; exact HV4.out)); clear hg4 hv4 hl4 HV4)
            obtain ⟨bx, hbx⟩ : ∃ bx, w4.heap.size = bx := ⟨_, rfl⟩
            rw [hbx] at B4
            rw [hbx]
            generalize w4.alloc _ = w5 at B4 ⊢
            clear hbx
            rcases head_or s1 40 with h40 | ⟨u, h40⟩
            · have HN10 := hid h40
              obtain ⟨x9, hx9⟩ : ∃ x9 : Int, firstBad 0 3 = x9 := ⟨_, rfl⟩
              have HX9 := hid (show x9 ≠ 0 by rw [← hx9]; decide)
              have HE9 := hid hx9
              have HBAD := hid (show res = .bad x9 k by have h := HRG.out; rw [HR.out, rungOf_head h40] at h; rw [← hx9]; exact h.symm)
              clear h40 hx9
              go_upto_region 12 with (first
                | (go_at_call 17; (with_reducible refine (takeR_no s1 0 40 HN10.out bl w5 B4.out.lr).mono ?_); rintro e w6 ⟨rfl, h8, hg8⟩; have B6 := hid (B4.out.call hg8 h8); clear h8 hg8)
                | (go_at_call 18; (with_reducible refine (failsR_any (bk s1) 0 3 bl w6 B6.out.lr).mono ?_); rintro e w7 ⟨rfl, h8, hg8⟩; rw [HE9.out] at h8; have B7 := hid (B6.out.call hg8 h8); clear h8 hg8))
              have HN12 : Hid ((bk []).head? ≠ some 47) := hid (by simp [bk, Lib.trimLeftB])
              go_upto_region 20 with (first
                | (go_at_call 19; (with_reducible refine (next_any [] x9 bl w7 B7.out.lr).mono ?_); rintro e wp ⟨rfl, h8, hg8⟩; rw [show bk [] = [] from rfl] at h8; have BP := hid (B7.out.call hg8 h8); clear h8 hg8)
                | (go_at_call 17; (with_reducible refine (takeR_no [] x9 47 HN12.out bl wp BP.out.lr).mono ?_); rintro e wq ⟨rfl, h8, hg8⟩; rw [show bk [] = [] from rfl] at h8; have BQ := hid (BP.out.call hg8 h8); (have q0 : wq.cell? ⟨bl, 0, none⟩ = some (st []) := (cell_block BQ.out.lr 0).trans rfl); clear h8 hg8)
                | (go_at_call 20; (with_reducible refine (hasP_any [] [83, 32] wq).mono ?_); rintro e wi ⟨rfl, hw⟩; subst wi; rw [show Lib.hasPrefix [] [83, 32] = false from rfl])
                | (go_at_call 20; (with_reducible refine (hasP_any [] [82, 32] wq).mono ?_); rintro e wi ⟨rfl, hw⟩; subst wi; rw [show Lib.hasPrefix [] [82, 32] = false from rfl])
                | (go_at_call 21; (with_reducible refine (nameLine_any [] x9 bl hbl3 wq BQ.out.lr (HM2.out.below BQ.out.below) (by decide)).mono ?_); rintro e wn ⟨rfl, hg8, h8⟩; rw [if_neg (by rw [name_empty]; decide), firstBad_ne HX9.out] at h8; have BN := hid (BQ.out.call hg8 h8); (have n2 : wn.cell? ⟨bx, 2, none⟩ = some (st []) := (cell_block BN.out.box 2).trans rfl); have fn := free_block BN.out.box; have ln := boxLt BN.out.box; clear h8 hg8))
              have BM := hid (BN.out.name (nmOf []))
              generalize wn.setCell ⟨bx, 2, none⟩ (st (nmOf [])) = wm at BM ⊢
              clear BN n2 fn ln q0
              have HN20 : Hid ((bk []).head? ≠ some 41) := hid (by simp [bk, Lib.trimLeftB])
              go_upto_region 22 with (first
                | (go_at_call 17; (with_reducible refine (takeR_no [] x9 41 HN20.out bl wm BM.out.lr).mono ?_); rintro e wy ⟨rfl, h8, hg8⟩; rw [show bk [] = [] from rfl] at h8; have BY := hid (BM.out.call hg8 h8); clear h8 hg8)
                | (go_at_call 18; (with_reducible refine (failsR_any [] x9 3 bl wy BY.out.lr).mono ?_); rintro e wz ⟨rfl, h8, hg8⟩; rw [firstBad_ne HX9.out] at h8; have BZ := hid (BY.out.call hg8 h8); clear h8 hg8))
              have HZR := hid (bad_next HRS2.out BZ.out)
              have z1 : wz.cell? ⟨bl, 1, none⟩ = some (.int .i64 x9) := (cell_block BZ.out.lr 1).trans rfl
              have e0 : wz.cell? ⟨w.heap.size, 0, none⟩ = some (.int .i64 0) := (cell_block HZR.out.err 0).trans rfl
              have e1 : wz.cell? ⟨w.heap.size, 1, none⟩ = some (.int .i64 0) := (cell_block HZR.out.err 1).trans rfl
              have fz := free_block HZR.out.err
              have lz := boxLt HZR.out.err
              have hx9 := HX9.out
              have hx9D : decide (x9 = 0) = false := decide_eq_false hx9
              go_upto_region 23 with fail
              go_region
              all_goals go_wp2_with fail
              all_goals exact ⟨rfl, _, results_rungs _ _ w.heap.size _ _ _ rfl rfl (HZR.out.fell _ _).2, (HZR.out.fell _ _).1.drew, by rw [HBAD.out]; rfl⟩
            · have H40 := hid h40
              have hul : u.length + 1 ≤ s1.length := by have h1 := bk_len s1; rw [h40] at h1; simpa using h1
              have hux : u.length ≤ 1000000 := by have := HXL.out; omega
              clear h40
              go_upto_region 13 with (first
                | (go_at_call 17; (with_reducible refine (takeR_yes s1 u 0 40 H40.out bl w5 B4.out.lr).mono ?_); rintro e w6 ⟨rfl, h8, hg8⟩; have B6 := hid (B4.out.call hg8 h8); clear h8 hg8)
                | (go_at_call 19; (with_reducible refine (next_any u 0 bl w6 B6.out.lr).mono ?_); rintro e w7 ⟨rfl, h8, hg8⟩; have B7 := hid (B6.out.call hg8 h8); clear h8 hg8))
              rcases kind_cases u with ⟨q, hq, hkd⟩ | ⟨q, hq, hkd⟩ | ⟨q, hq, hkd⟩ | ⟨hq1, hq2, hq3, hkd⟩
              · have HQ := hid (show bk (bk u) = 47 :: q by rw [bk_bk, hq])
                have hql : q.length ≤ 1000000 := by have h1 := bk_len u; rw [hq] at h1; simp at h1; have := HXL.out; omega
                clear hq
                go_upto_region 19 with (go_at_call 17; (with_reducible refine (takeR_yes (bk u) q 0 47 HQ.out bl w7 B7.out.lr).mono ?_); rintro e w8 ⟨rfl, h8, hg8⟩; have B8 := hid (B7.out.call hg8 h8); (have d1 : w8.cell? ⟨bx, 1, none⟩ = some (.int .i64 1) := (cell_block B8.out.box 1).trans rfl); have fb := free_block B8.out.box; have lb := boxLt B8.out.box; clear h8 hg8)
                have BN := hid (B8.out.kind 2)
                generalize w8.setCell ⟨bx, 1, none⟩ (.int .i64 2) = wk at BN ⊢
                clear B8 d1 fb lb
                have HKD := hid hkd
                clear hkd
                go_upto_region 20 with (go_at_call 21; (with_reducible refine (nameLine_any q 0 bl hbl3 wk BN.out.lr (HM2.out.below BN.out.below) hql).mono ?_); rintro e wn ⟨rfl, hg8, h8⟩; have H8 := hid h8; have HGN := hid hg8; have hbxn := hg8.at' BN.out.box BN.out.ne; (have n2 : wn.cell? ⟨bx, 2, none⟩ = some (st []) := (cell_block hbxn 2).trans rfl); have fn := free_block hbxn; have ln := boxLt hbxn; clear h8 hg8 hbxn)
                cases hgn : goodName (nmOf q) with
                | false =>
                  obtain ⟨x9, hx9⟩ : ∃ x9 : Int, x9 = 3 := ⟨3, rfl⟩
                  have HX9 := hid (show x9 ≠ 0 by rw [hx9]; decide)
                  have BM := hid ((BN.out.call HGN.out (show LR wn bl [] x9 by have h := H8.out; rw [if_neg (by rw [hgn]; decide)] at h; rw [hx9]; exact h)).name (nmOf q))
                  have HBAD := hid (show res = .bad x9 k by have h := HRG.out; rw [HR.out, rungOf_is H40.out HKD.out, hgn, if_neg (by decide)] at h; rw [hx9]; exact h.symm)
                  generalize wn.setCell ⟨bx, 2, none⟩ (st (nmOf q)) = wm at BM ⊢
                  clear BN H8 HGN n2 fn ln hgn hx9
                  have HN20 : Hid ((bk []).head? ≠ some 41) := hid (by simp [bk, Lib.trimLeftB])
                  go_upto_region 22 with (first
                    | (go_at_call 17; (with_reducible refine (takeR_no [] x9 41 HN20.out bl wm BM.out.lr).mono ?_); rintro e wy ⟨rfl, h8, hg8⟩; rw [show bk [] = [] from rfl] at h8; have BY := hid (BM.out.call hg8 h8); clear h8 hg8)
                    | (go_at_call 18; (with_reducible refine (failsR_any [] x9 3 bl wy BY.out.lr).mono ?_); rintro e wz ⟨rfl, h8, hg8⟩; rw [firstBad_ne HX9.out] at h8; have BZ := hid (BY.out.call hg8 h8); clear h8 hg8))
                  have HZR := hid (bad_next HRS2.out BZ.out)
                  have z1 : wz.cell? ⟨bl, 1, none⟩ = some (.int .i64 x9) := (cell_block BZ.out.lr 1).trans rfl
                  have e0 : wz.cell? ⟨w.heap.size, 0, none⟩ = some (.int .i64 0) := (cell_block HZR.out.err 0).trans rfl
                  have e1 : wz.cell? ⟨w.heap.size, 1, none⟩ = some (.int .i64 0) := (cell_block HZR.out.err 1).trans rfl
                  have fz := free_block HZR.out.err
                  have lz := boxLt HZR.out.err
                  have hx9 := HX9.out
                  have hx9D : decide (x9 = 0) = false := decide_eq_false hx9
                  go_upto_region 23 with fail
                  go_region
                  all_goals go_wp2_with fail
                  all_goals exact ⟨rfl, _, results_rungs _ _ w.heap.size _ _ _ rfl rfl (HZR.out.fell _ _).2, (HZR.out.fell _ _).1.drew, by rw [HBAD.out]; rfl⟩
                | true =>
                  have BM := hid ((BN.out.call HGN.out (show LR wn bl (nmRest q) 0 by have h := H8.out; rw [if_pos hgn] at h; exact h)).name (nmOf q))
                  generalize wn.setCell ⟨bx, 2, none⟩ (st (nmOf q)) = wm at BM ⊢
                  have HGD := hid hgn
                  clear BN H8 HGN n2 fn ln hgn
                  rcases head_or (nmRest q) 41 with h41 | ⟨z, h41⟩
                  · have H41 := hid h41
                    obtain ⟨x9, hx9⟩ : ∃ x9 : Int, firstBad 0 3 = x9 := ⟨_, rfl⟩
                    have HX9 := hid (show x9 ≠ 0 by rw [← hx9]; decide)
                    have HE9 := hid hx9
                    have HBAD := hid (show res = .bad x9 k by have h := HRG.out; rw [HR.out, rungOf_close H40.out HKD.out h41] at h; rw [← hx9]; exact h.symm)
                    clear h41 hx9
                    go_upto_region 22 with (first
                      | (go_at_call 17; (with_reducible refine (takeR_no (nmRest q) 0 41 H41.out bl wm BM.out.lr).mono ?_); rintro e wy ⟨rfl, h8, hg8⟩; have BY := hid (BM.out.call hg8 h8); clear h8 hg8)
                      | (go_at_call 18; (with_reducible refine (failsR_any (bk (nmRest q)) 0 3 bl wy BY.out.lr).mono ?_); rintro e wz ⟨rfl, h8, hg8⟩; rw [HE9.out] at h8; have BZ := hid (BY.out.call hg8 h8); clear h8 hg8))
                    have HZR := hid (bad_next HRS2.out BZ.out)
                    have z1 : wz.cell? ⟨bl, 1, none⟩ = some (.int .i64 x9) := (cell_block BZ.out.lr 1).trans rfl
                    have e0 : wz.cell? ⟨w.heap.size, 0, none⟩ = some (.int .i64 0) := (cell_block HZR.out.err 0).trans rfl
                    have e1 : wz.cell? ⟨w.heap.size, 1, none⟩ = some (.int .i64 0) := (cell_block HZR.out.err 1).trans rfl
                    have fz := free_block HZR.out.err
                    have lz := boxLt HZR.out.err
                    have hx9 := HX9.out
                    have hx9D : decide (x9 = 0) = false := decide_eq_false hx9
                    go_upto_region 23 with fail
                    go_region
                    all_goals go_wp2_with fail
                    all_goals exact ⟨rfl, _, results_rungs _ _ w.heap.size _ _ _ rfl rfl (HZR.out.fell _ _).2, (HZR.out.fell _ _).1.drew, by rw [HBAD.out]; rfl⟩
                  · have H41 := hid h41
                    have HEZ := hid (rungOf_end (t := t) H40.out HKD.out HGD.out h41)
                    clear h41
                    cases hz : bk z with
                    | nil =>
                      have HZ := hid (show (bk z).take 1 = [] by rw [hz]; rfl)
                      have HRG5 := hid (show runLn (lines.drop (k + 1)) (k + 1) (acc ++ [⟨t, 2, nmOf q⟩]) = res by
                        have h := HRG.out
                        rw [HR.out, HEZ.out, if_pos hz] at h
                        exact h)
                      clear hz
                      go_upto_region 22 with (first
                        | (go_at_call 17; (with_reducible refine (takeR_yes (nmRest q) z 0 41 H41.out bl wm BM.out.lr).mono ?_); rintro e wy ⟨rfl, h8, hg8⟩; have BY := hid (BM.out.call hg8 h8); clear h8 hg8)
                        | (go_at_call 19; (with_reducible refine (next_any z 0 bl wy BY.out.lr).mono ?_); rintro e wz ⟨rfl, h8, hg8⟩; rw [HZ.out]; have BZ := hid (BY.out.call hg8 h8); clear h8 hg8))
                      have z1 : wz.cell? ⟨bl, 1, none⟩ = some (.int .i64 0) := (cell_block BZ.out.lr 1).trans rfl
                      have y0 : wz.cell? ⟨bx, 0, none⟩ = some (.slice a4 t.len q4) := (cell_block BZ.out.box 0).trans rfl
                      have y1 : wz.cell? ⟨bx, 1, none⟩ = some (.int .i64 2) := (cell_block BZ.out.box 1).trans rfl
                      have y2 : wz.cell? ⟨bx, 2, none⟩ = some (st (nmOf q)) := (cell_block BZ.out.box 2).trans rfl
                      have HZR := hid (bad_next HRS2.out BZ.out)
                      have hlz := boxLt BZ.out.box
                      obtain ⟨i0, hi, hz0, hz1, hz2⟩ := info_parts Tryz.infoRfRung
                      have HEL := hid (BZ.out.elem (B := w.heap.size + 2) (l := .slice al acc.length ql) (acc := acc) HRS2.out.size (fun k hk => (HRS2.out.acc.lt k hk).2))
                      go_wp2_with (at_builtin; refine rungRPush (w.heap.size + 2) _ wz rfl _ _ 25 rfl i0 _ 48 Tryz.underlying25 hi hz0 hz1 hz2 rfl (.slice al acc.length ql) acc ⟨t, 2, nmOf q⟩ acc.length rfl rfl HZR.out.acc (.slice a4 t.len q4) rfl rfl rfl HEL.out (by omega) (by decide) HZR.out.size ?_; intro av cv wb HRW HGB; have HP9 := hid (HZR.out.pushed HGB.out (fun k hk => (HZR.out.acc.lt k hk).1) HRW.out); clear HGB)
                      go_roundw
                      case rel => exact ⟨k + 1, acc ++ [⟨t, 2, nmOf q⟩], by go_num, by omega, HP9.out, HRG5.out, by simp; omega⟩
                      case measure => simp [intOf]; omega
                    | cons c8 z8 =>
                      have HZ := hid (show (bk z).take 1 = [c8] by rw [hz]; rfl)
                      obtain ⟨x9, hx9⟩ : ∃ x9 : Int, firstBad 0 3 = x9 := ⟨_, rfl⟩
                      have HX9 := hid (show x9 ≠ 0 by rw [← hx9]; decide)
                      have HE9 := hid hx9
                      have HBAD := hid (show res = .bad x9 k by have h := HRG.out; rw [HR.out, HEZ.out, if_neg (by rw [hz]; exact List.cons_ne_nil _ _)] at h; rw [← hx9]; exact h.symm)
                      clear hz hx9
                      go_upto_region 22 with (first
                        | (go_at_call 17; (with_reducible refine (takeR_yes (nmRest q) z 0 41 H41.out bl wm BM.out.lr).mono ?_); rintro e wy ⟨rfl, h8, hg8⟩; have BY := hid (BM.out.call hg8 h8); clear h8 hg8)
                        | (go_at_call 19; (with_reducible refine (next_any z 0 bl wy BY.out.lr).mono ?_); rintro e wx ⟨rfl, h8, hg8⟩; rw [HZ.out]; have BX := hid (BY.out.call hg8 h8); clear h8 hg8)
                        | (go_at_call 18; (with_reducible refine (failsR_any (bk z) 0 3 bl wx BX.out.lr).mono ?_); rintro e wz ⟨rfl, h8, hg8⟩; rw [HE9.out] at h8; have BZ := hid (BX.out.call hg8 h8); clear h8 hg8))
                      have HZR := hid (bad_next HRS2.out BZ.out)
                      have z1 : wz.cell? ⟨bl, 1, none⟩ = some (.int .i64 x9) := (cell_block BZ.out.lr 1).trans rfl
                      have e0 : wz.cell? ⟨w.heap.size, 0, none⟩ = some (.int .i64 0) := (cell_block HZR.out.err 0).trans rfl
                      have e1 : wz.cell? ⟨w.heap.size, 1, none⟩ = some (.int .i64 0) := (cell_block HZR.out.err 1).trans rfl
                      have fz := free_block HZR.out.err
                      have lz := boxLt HZR.out.err
                      have hx9 := HX9.out
                      have hx9D : decide (x9 = 0) = false := decide_eq_false hx9
                      go_upto_region 23 with fail
                      go_region
                      all_goals go_wp2_with fail
                      all_goals exact ⟨rfl, _, results_rungs _ _ w.heap.size _ _ _ rfl rfl (HZR.out.fell _ _).2, (HZR.out.fell _ _).1.drew, by rw [HBAD.out]; rfl⟩
              · have HQ := hid hq
                have H47 := hid (show (bk (bk u)).head? ≠ some 47 by rw [bk_bk, hq]; simp)
                have HH := hid (has2 83 32 q)
                have E2 := hid (show (⟨(83 :: 32 :: q).toArray⟩ : ByteArray).extract 2 (q.length + 1 + 1) = ⟨q.toArray⟩ from ex_drop (83 :: 32 :: q) 2 (q.length + 1 + 1) (by simp))
                have hql : q.length ≤ 1000000 := by have h1 := bk_len u; rw [hq] at h1; simp at h1; have := HXL.out; omega
                clear hq
                go_upto_region 16 with (first
                  | (go_at_call 17; (with_reducible refine (takeR_no (bk u) 0 47 H47.out bl w7 B7.out.lr).mono ?_); rintro e w8 ⟨rfl, h8, hg8⟩; rw [bk_bk, HQ.out] at h8; have B8 := hid (B7.out.call hg8 h8); (have q0 : w8.cell? ⟨bl, 0, none⟩ = some (st (83 :: 32 :: q)) := (cell_block B8.out.lr 0).trans rfl); clear h8 hg8)
                  | (go_at_call 20; (with_reducible refine (hasP_any (83 :: 32 :: q) [83, 32] w8).mono ?_); rintro e wi ⟨rfl, hw⟩; subst wi; rw [HH.out]))
                have d1 : w8.cell? ⟨bx, 1, none⟩ = some (.int .i64 1) := (cell_block B8.out.box 1).trans rfl
                have fb := free_block B8.out.box
                have lb := boxLt B8.out.box
                have fl := free_block B8.out.lr
                have ll := boxLt B8.out.lr
                have hnelx := B8.out.ne
                go_region
                all_goals go_upto_region 19 with fail
                rw [E2.out]
                have BN := hid (((B8.out.kind 3).text q).drew)
                generalize ((w8.setCell ⟨bx, 1, none⟩ (.int .i64 3)).setCell ⟨bl, 0, none⟩ (.string ⟨q.toArray⟩)).drew = wk at BN ⊢
                clear B8 d1 fb lb fl ll hnelx q0
                have HKD := hid hkd
                clear hkd
                go_upto_region 20 with (go_at_call 21; (with_reducible refine (nameLine_any q 0 bl hbl3 wk BN.out.lr (HM2.out.below BN.out.below) hql).mono ?_); rintro e wn ⟨rfl, hg8, h8⟩; have H8 := hid h8; have HGN := hid hg8; have hbxn := hg8.at' BN.out.box BN.out.ne; (have n2 : wn.cell? ⟨bx, 2, none⟩ = some (st []) := (cell_block hbxn 2).trans rfl); have fn := free_block hbxn; have ln := boxLt hbxn; clear h8 hg8 hbxn)
                cases hgn : goodName (nmOf q) with
                | false =>
                  obtain ⟨x9, hx9⟩ : ∃ x9 : Int, x9 = 3 := ⟨3, rfl⟩
                  have HX9 := hid (show x9 ≠ 0 by rw [hx9]; decide)
                  have BM := hid ((BN.out.call HGN.out (show LR wn bl [] x9 by have h := H8.out; rw [if_neg (by rw [hgn]; decide)] at h; rw [hx9]; exact h)).name (nmOf q))
                  have HBAD := hid (show res = .bad x9 k by have h := HRG.out; rw [HR.out, rungOf_is H40.out HKD.out, hgn, if_neg (by decide)] at h; rw [hx9]; exact h.symm)
                  generalize wn.setCell ⟨bx, 2, none⟩ (st (nmOf q)) = wm at BM ⊢
                  clear BN H8 HGN n2 fn ln hgn hx9
                  have HN20 : Hid ((bk []).head? ≠ some 41) := hid (by simp [bk, Lib.trimLeftB])
                  go_upto_region 22 with (first
                    | (go_at_call 17; (with_reducible refine (takeR_no [] x9 41 HN20.out bl wm BM.out.lr).mono ?_); rintro e wy ⟨rfl, h8, hg8⟩; rw [show bk [] = [] from rfl] at h8; have BY := hid (BM.out.call hg8 h8); clear h8 hg8)
                    | (go_at_call 18; (with_reducible refine (failsR_any [] x9 3 bl wy BY.out.lr).mono ?_); rintro e wz ⟨rfl, h8, hg8⟩; rw [firstBad_ne HX9.out] at h8; have BZ := hid (BY.out.call hg8 h8); clear h8 hg8))
                  have HZR := hid (bad_next HRS2.out BZ.out)
                  have z1 : wz.cell? ⟨bl, 1, none⟩ = some (.int .i64 x9) := (cell_block BZ.out.lr 1).trans rfl
                  have e0 : wz.cell? ⟨w.heap.size, 0, none⟩ = some (.int .i64 0) := (cell_block HZR.out.err 0).trans rfl
                  have e1 : wz.cell? ⟨w.heap.size, 1, none⟩ = some (.int .i64 0) := (cell_block HZR.out.err 1).trans rfl
                  have fz := free_block HZR.out.err
                  have lz := boxLt HZR.out.err
                  have hx9 := HX9.out
                  have hx9D : decide (x9 = 0) = false := decide_eq_false hx9
                  go_upto_region 23 with fail
                  go_region
                  all_goals go_wp2_with fail
                  all_goals exact ⟨rfl, _, results_rungs _ _ w.heap.size _ _ _ rfl rfl (HZR.out.fell _ _).2, (HZR.out.fell _ _).1.drew, by rw [HBAD.out]; rfl⟩
                | true =>
                  have BM := hid ((BN.out.call HGN.out (show LR wn bl (nmRest q) 0 by have h := H8.out; rw [if_pos hgn] at h; exact h)).name (nmOf q))
                  generalize wn.setCell ⟨bx, 2, none⟩ (st (nmOf q)) = wm at BM ⊢
                  have HGD := hid hgn
                  clear BN H8 HGN n2 fn ln hgn
                  rcases head_or (nmRest q) 41 with h41 | ⟨z, h41⟩
                  · have H41 := hid h41
                    obtain ⟨x9, hx9⟩ : ∃ x9 : Int, firstBad 0 3 = x9 := ⟨_, rfl⟩
                    have HX9 := hid (show x9 ≠ 0 by rw [← hx9]; decide)
                    have HE9 := hid hx9
                    have HBAD := hid (show res = .bad x9 k by have h := HRG.out; rw [HR.out, rungOf_close H40.out HKD.out h41] at h; rw [← hx9]; exact h.symm)
                    clear h41 hx9
                    go_upto_region 22 with (first
                      | (go_at_call 17; (with_reducible refine (takeR_no (nmRest q) 0 41 H41.out bl wm BM.out.lr).mono ?_); rintro e wy ⟨rfl, h8, hg8⟩; have BY := hid (BM.out.call hg8 h8); clear h8 hg8)
                      | (go_at_call 18; (with_reducible refine (failsR_any (bk (nmRest q)) 0 3 bl wy BY.out.lr).mono ?_); rintro e wz ⟨rfl, h8, hg8⟩; rw [HE9.out] at h8; have BZ := hid (BY.out.call hg8 h8); clear h8 hg8))
                    have HZR := hid (bad_next HRS2.out BZ.out)
                    have z1 : wz.cell? ⟨bl, 1, none⟩ = some (.int .i64 x9) := (cell_block BZ.out.lr 1).trans rfl
                    have e0 : wz.cell? ⟨w.heap.size, 0, none⟩ = some (.int .i64 0) := (cell_block HZR.out.err 0).trans rfl
                    have e1 : wz.cell? ⟨w.heap.size, 1, none⟩ = some (.int .i64 0) := (cell_block HZR.out.err 1).trans rfl
                    have fz := free_block HZR.out.err
                    have lz := boxLt HZR.out.err
                    have hx9 := HX9.out
                    have hx9D : decide (x9 = 0) = false := decide_eq_false hx9
                    go_upto_region 23 with fail
                    go_region
                    all_goals go_wp2_with fail
                    all_goals exact ⟨rfl, _, results_rungs _ _ w.heap.size _ _ _ rfl rfl (HZR.out.fell _ _).2, (HZR.out.fell _ _).1.drew, by rw [HBAD.out]; rfl⟩
                  · have H41 := hid h41
                    have HEZ := hid (rungOf_end (t := t) H40.out HKD.out HGD.out h41)
                    clear h41
                    cases hz : bk z with
                    | nil =>
                      have HZ := hid (show (bk z).take 1 = [] by rw [hz]; rfl)
                      have HRG5 := hid (show runLn (lines.drop (k + 1)) (k + 1) (acc ++ [⟨t, 3, nmOf q⟩]) = res by
                        have h := HRG.out
                        rw [HR.out, HEZ.out, if_pos hz] at h
                        exact h)
                      clear hz
                      go_upto_region 22 with (first
                        | (go_at_call 17; (with_reducible refine (takeR_yes (nmRest q) z 0 41 H41.out bl wm BM.out.lr).mono ?_); rintro e wy ⟨rfl, h8, hg8⟩; have BY := hid (BM.out.call hg8 h8); clear h8 hg8)
                        | (go_at_call 19; (with_reducible refine (next_any z 0 bl wy BY.out.lr).mono ?_); rintro e wz ⟨rfl, h8, hg8⟩; rw [HZ.out]; have BZ := hid (BY.out.call hg8 h8); clear h8 hg8))
                      have z1 : wz.cell? ⟨bl, 1, none⟩ = some (.int .i64 0) := (cell_block BZ.out.lr 1).trans rfl
                      have y0 : wz.cell? ⟨bx, 0, none⟩ = some (.slice a4 t.len q4) := (cell_block BZ.out.box 0).trans rfl
                      have y1 : wz.cell? ⟨bx, 1, none⟩ = some (.int .i64 3) := (cell_block BZ.out.box 1).trans rfl
                      have y2 : wz.cell? ⟨bx, 2, none⟩ = some (st (nmOf q)) := (cell_block BZ.out.box 2).trans rfl
                      have HZR := hid (bad_next HRS2.out BZ.out)
                      have hlz := boxLt BZ.out.box
                      obtain ⟨i0, hi, hz0, hz1, hz2⟩ := info_parts Tryz.infoRfRung
                      have HEL := hid (BZ.out.elem (B := w.heap.size + 2) (l := .slice al acc.length ql) (acc := acc) HRS2.out.size (fun k hk => (HRS2.out.acc.lt k hk).2))
                      go_wp2_with (at_builtin; refine rungRPush (w.heap.size + 2) _ wz rfl _ _ 25 rfl i0 _ 48 Tryz.underlying25 hi hz0 hz1 hz2 rfl (.slice al acc.length ql) acc ⟨t, 3, nmOf q⟩ acc.length rfl rfl HZR.out.acc (.slice a4 t.len q4) rfl rfl rfl HEL.out (by omega) (by decide) HZR.out.size ?_; intro av cv wb HRW HGB; have HP9 := hid (HZR.out.pushed HGB.out (fun k hk => (HZR.out.acc.lt k hk).1) HRW.out); clear HGB)
                      go_roundw
                      case rel => exact ⟨k + 1, acc ++ [⟨t, 3, nmOf q⟩], by go_num, by omega, HP9.out, HRG5.out, by simp; omega⟩
                      case measure => simp [intOf]; omega
                    | cons c8 z8 =>
                      have HZ := hid (show (bk z).take 1 = [c8] by rw [hz]; rfl)
                      obtain ⟨x9, hx9⟩ : ∃ x9 : Int, firstBad 0 3 = x9 := ⟨_, rfl⟩
                      have HX9 := hid (show x9 ≠ 0 by rw [← hx9]; decide)
                      have HE9 := hid hx9
                      have HBAD := hid (show res = .bad x9 k by have h := HRG.out; rw [HR.out, HEZ.out, if_neg (by rw [hz]; exact List.cons_ne_nil _ _)] at h; rw [← hx9]; exact h.symm)
                      clear hz hx9
                      go_upto_region 22 with (first
                        | (go_at_call 17; (with_reducible refine (takeR_yes (nmRest q) z 0 41 H41.out bl wm BM.out.lr).mono ?_); rintro e wy ⟨rfl, h8, hg8⟩; have BY := hid (BM.out.call hg8 h8); clear h8 hg8)
                        | (go_at_call 19; (with_reducible refine (next_any z 0 bl wy BY.out.lr).mono ?_); rintro e wx ⟨rfl, h8, hg8⟩; rw [HZ.out]; have BX := hid (BY.out.call hg8 h8); clear h8 hg8)
                        | (go_at_call 18; (with_reducible refine (failsR_any (bk z) 0 3 bl wx BX.out.lr).mono ?_); rintro e wz ⟨rfl, h8, hg8⟩; rw [HE9.out] at h8; have BZ := hid (BX.out.call hg8 h8); clear h8 hg8))
                      have HZR := hid (bad_next HRS2.out BZ.out)
                      have z1 : wz.cell? ⟨bl, 1, none⟩ = some (.int .i64 x9) := (cell_block BZ.out.lr 1).trans rfl
                      have e0 : wz.cell? ⟨w.heap.size, 0, none⟩ = some (.int .i64 0) := (cell_block HZR.out.err 0).trans rfl
                      have e1 : wz.cell? ⟨w.heap.size, 1, none⟩ = some (.int .i64 0) := (cell_block HZR.out.err 1).trans rfl
                      have fz := free_block HZR.out.err
                      have lz := boxLt HZR.out.err
                      have hx9 := HX9.out
                      have hx9D : decide (x9 = 0) = false := decide_eq_false hx9
                      go_upto_region 23 with fail
                      go_region
                      all_goals go_wp2_with fail
                      all_goals exact ⟨rfl, _, results_rungs _ _ w.heap.size _ _ _ rfl rfl (HZR.out.fell _ _).2, (HZR.out.fell _ _).1.drew, by rw [HBAD.out]; rfl⟩
              · have HQ := hid hq
                have H47 := hid (show (bk (bk u)).head? ≠ some 47 by rw [bk_bk, hq]; simp)
                have HS83 := hid (has2_no 83 32 (82 :: 32 :: q) (fun t e => by cases e))
                have HH := hid (has2 82 32 q)
                have E2 := hid (show (⟨(82 :: 32 :: q).toArray⟩ : ByteArray).extract 2 (q.length + 1 + 1) = ⟨q.toArray⟩ from ex_drop (82 :: 32 :: q) 2 (q.length + 1 + 1) (by simp))
                have hql : q.length ≤ 1000000 := by have h1 := bk_len u; rw [hq] at h1; simp at h1; have := HXL.out; omega
                clear hq
                go_upto_region 18 with (first
                  | (go_at_call 17; (with_reducible refine (takeR_no (bk u) 0 47 H47.out bl w7 B7.out.lr).mono ?_); rintro e w8 ⟨rfl, h8, hg8⟩; rw [bk_bk, HQ.out] at h8; have B8 := hid (B7.out.call hg8 h8); (have q0 : w8.cell? ⟨bl, 0, none⟩ = some (st (82 :: 32 :: q)) := (cell_block B8.out.lr 0).trans rfl); clear h8 hg8)
                  | (go_at_call 20; (with_reducible refine (hasP_any (82 :: 32 :: q) [83, 32] w8).mono ?_); rintro e wi ⟨rfl, hw⟩; subst wi; rw [HS83.out])
                  | (go_at_call 20; (with_reducible refine (hasP_any (82 :: 32 :: q) [82, 32] w8).mono ?_); rintro e wi ⟨rfl, hw⟩; subst wi; rw [HH.out]))
                have d1 : w8.cell? ⟨bx, 1, none⟩ = some (.int .i64 1) := (cell_block B8.out.box 1).trans rfl
                have fb := free_block B8.out.box
                have lb := boxLt B8.out.box
                have fl := free_block B8.out.lr
                have ll := boxLt B8.out.lr
                have hnelx := B8.out.ne
                go_region
                all_goals go_upto_region 19 with fail
                rw [E2.out]
                have BN := hid (((B8.out.kind 4).text q).drew)
                generalize ((w8.setCell ⟨bx, 1, none⟩ (.int .i64 4)).setCell ⟨bl, 0, none⟩ (.string ⟨q.toArray⟩)).drew = wk at BN ⊢
                clear B8 d1 fb lb fl ll hnelx q0
                have HKD := hid hkd
                clear hkd
                go_upto_region 20 with (go_at_call 21; (with_reducible refine (nameLine_any q 0 bl hbl3 wk BN.out.lr (HM2.out.below BN.out.below) hql).mono ?_); rintro e wn ⟨rfl, hg8, h8⟩; have H8 := hid h8; have HGN := hid hg8; have hbxn := hg8.at' BN.out.box BN.out.ne; (have n2 : wn.cell? ⟨bx, 2, none⟩ = some (st []) := (cell_block hbxn 2).trans rfl); have fn := free_block hbxn; have ln := boxLt hbxn; clear h8 hg8 hbxn)
                cases hgn : goodName (nmOf q) with
                | false =>
                  obtain ⟨x9, hx9⟩ : ∃ x9 : Int, x9 = 3 := ⟨3, rfl⟩
                  have HX9 := hid (show x9 ≠ 0 by rw [hx9]; decide)
                  have BM := hid ((BN.out.call HGN.out (show LR wn bl [] x9 by have h := H8.out; rw [if_neg (by rw [hgn]; decide)] at h; rw [hx9]; exact h)).name (nmOf q))
                  have HBAD := hid (show res = .bad x9 k by have h := HRG.out; rw [HR.out, rungOf_is H40.out HKD.out, hgn, if_neg (by decide)] at h; rw [hx9]; exact h.symm)
                  generalize wn.setCell ⟨bx, 2, none⟩ (st (nmOf q)) = wm at BM ⊢
                  clear BN H8 HGN n2 fn ln hgn hx9
                  have HN20 : Hid ((bk []).head? ≠ some 41) := hid (by simp [bk, Lib.trimLeftB])
                  go_upto_region 22 with (first
                    | (go_at_call 17; (with_reducible refine (takeR_no [] x9 41 HN20.out bl wm BM.out.lr).mono ?_); rintro e wy ⟨rfl, h8, hg8⟩; rw [show bk [] = [] from rfl] at h8; have BY := hid (BM.out.call hg8 h8); clear h8 hg8)
                    | (go_at_call 18; (with_reducible refine (failsR_any [] x9 3 bl wy BY.out.lr).mono ?_); rintro e wz ⟨rfl, h8, hg8⟩; rw [firstBad_ne HX9.out] at h8; have BZ := hid (BY.out.call hg8 h8); clear h8 hg8))
                  have HZR := hid (bad_next HRS2.out BZ.out)
                  have z1 : wz.cell? ⟨bl, 1, none⟩ = some (.int .i64 x9) := (cell_block BZ.out.lr 1).trans rfl
                  have e0 : wz.cell? ⟨w.heap.size, 0, none⟩ = some (.int .i64 0) := (cell_block HZR.out.err 0).trans rfl
                  have e1 : wz.cell? ⟨w.heap.size, 1, none⟩ = some (.int .i64 0) := (cell_block HZR.out.err 1).trans rfl
                  have fz := free_block HZR.out.err
                  have lz := boxLt HZR.out.err
                  have hx9 := HX9.out
                  have hx9D : decide (x9 = 0) = false := decide_eq_false hx9
                  go_upto_region 23 with fail
                  go_region
                  all_goals go_wp2_with fail
                  all_goals exact ⟨rfl, _, results_rungs _ _ w.heap.size _ _ _ rfl rfl (HZR.out.fell _ _).2, (HZR.out.fell _ _).1.drew, by rw [HBAD.out]; rfl⟩
                | true =>
                  have BM := hid ((BN.out.call HGN.out (show LR wn bl (nmRest q) 0 by have h := H8.out; rw [if_pos hgn] at h; exact h)).name (nmOf q))
                  generalize wn.setCell ⟨bx, 2, none⟩ (st (nmOf q)) = wm at BM ⊢
                  have HGD := hid hgn
                  clear BN H8 HGN n2 fn ln hgn
                  rcases head_or (nmRest q) 41 with h41 | ⟨z, h41⟩
                  · have H41 := hid h41
                    obtain ⟨x9, hx9⟩ : ∃ x9 : Int, firstBad 0 3 = x9 := ⟨_, rfl⟩
                    have HX9 := hid (show x9 ≠ 0 by rw [← hx9]; decide)
                    have HE9 := hid hx9
                    have HBAD := hid (show res = .bad x9 k by have h := HRG.out; rw [HR.out, rungOf_close H40.out HKD.out h41] at h; rw [← hx9]; exact h.symm)
                    clear h41 hx9
                    go_upto_region 22 with (first
                      | (go_at_call 17; (with_reducible refine (takeR_no (nmRest q) 0 41 H41.out bl wm BM.out.lr).mono ?_); rintro e wy ⟨rfl, h8, hg8⟩; have BY := hid (BM.out.call hg8 h8); clear h8 hg8)
                      | (go_at_call 18; (with_reducible refine (failsR_any (bk (nmRest q)) 0 3 bl wy BY.out.lr).mono ?_); rintro e wz ⟨rfl, h8, hg8⟩; rw [HE9.out] at h8; have BZ := hid (BY.out.call hg8 h8); clear h8 hg8))
                    have HZR := hid (bad_next HRS2.out BZ.out)
                    have z1 : wz.cell? ⟨bl, 1, none⟩ = some (.int .i64 x9) := (cell_block BZ.out.lr 1).trans rfl
                    have e0 : wz.cell? ⟨w.heap.size, 0, none⟩ = some (.int .i64 0) := (cell_block HZR.out.err 0).trans rfl
                    have e1 : wz.cell? ⟨w.heap.size, 1, none⟩ = some (.int .i64 0) := (cell_block HZR.out.err 1).trans rfl
                    have fz := free_block HZR.out.err
                    have lz := boxLt HZR.out.err
                    have hx9 := HX9.out
                    have hx9D : decide (x9 = 0) = false := decide_eq_false hx9
                    go_upto_region 23 with fail
                    go_region
                    all_goals go_wp2_with fail
                    all_goals exact ⟨rfl, _, results_rungs _ _ w.heap.size _ _ _ rfl rfl (HZR.out.fell _ _).2, (HZR.out.fell _ _).1.drew, by rw [HBAD.out]; rfl⟩
                  · have H41 := hid h41
                    have HEZ := hid (rungOf_end (t := t) H40.out HKD.out HGD.out h41)
                    clear h41
                    cases hz : bk z with
                    | nil =>
                      have HZ := hid (show (bk z).take 1 = [] by rw [hz]; rfl)
                      have HRG5 := hid (show runLn (lines.drop (k + 1)) (k + 1) (acc ++ [⟨t, 4, nmOf q⟩]) = res by
                        have h := HRG.out
                        rw [HR.out, HEZ.out, if_pos hz] at h
                        exact h)
                      clear hz
                      go_upto_region 22 with (first
                        | (go_at_call 17; (with_reducible refine (takeR_yes (nmRest q) z 0 41 H41.out bl wm BM.out.lr).mono ?_); rintro e wy ⟨rfl, h8, hg8⟩; have BY := hid (BM.out.call hg8 h8); clear h8 hg8)
                        | (go_at_call 19; (with_reducible refine (next_any z 0 bl wy BY.out.lr).mono ?_); rintro e wz ⟨rfl, h8, hg8⟩; rw [HZ.out]; have BZ := hid (BY.out.call hg8 h8); clear h8 hg8))
                      have z1 : wz.cell? ⟨bl, 1, none⟩ = some (.int .i64 0) := (cell_block BZ.out.lr 1).trans rfl
                      have y0 : wz.cell? ⟨bx, 0, none⟩ = some (.slice a4 t.len q4) := (cell_block BZ.out.box 0).trans rfl
                      have y1 : wz.cell? ⟨bx, 1, none⟩ = some (.int .i64 4) := (cell_block BZ.out.box 1).trans rfl
                      have y2 : wz.cell? ⟨bx, 2, none⟩ = some (st (nmOf q)) := (cell_block BZ.out.box 2).trans rfl
                      have HZR := hid (bad_next HRS2.out BZ.out)
                      have hlz := boxLt BZ.out.box
                      obtain ⟨i0, hi, hz0, hz1, hz2⟩ := info_parts Tryz.infoRfRung
                      have HEL := hid (BZ.out.elem (B := w.heap.size + 2) (l := .slice al acc.length ql) (acc := acc) HRS2.out.size (fun k hk => (HRS2.out.acc.lt k hk).2))
                      go_wp2_with (at_builtin; refine rungRPush (w.heap.size + 2) _ wz rfl _ _ 25 rfl i0 _ 48 Tryz.underlying25 hi hz0 hz1 hz2 rfl (.slice al acc.length ql) acc ⟨t, 4, nmOf q⟩ acc.length rfl rfl HZR.out.acc (.slice a4 t.len q4) rfl rfl rfl HEL.out (by omega) (by decide) HZR.out.size ?_; intro av cv wb HRW HGB; have HP9 := hid (HZR.out.pushed HGB.out (fun k hk => (HZR.out.acc.lt k hk).1) HRW.out); clear HGB)
                      go_roundw
                      case rel => exact ⟨k + 1, acc ++ [⟨t, 4, nmOf q⟩], by go_num, by omega, HP9.out, HRG5.out, by simp; omega⟩
                      case measure => simp [intOf]; omega
                    | cons c8 z8 =>
                      have HZ := hid (show (bk z).take 1 = [c8] by rw [hz]; rfl)
                      obtain ⟨x9, hx9⟩ : ∃ x9 : Int, firstBad 0 3 = x9 := ⟨_, rfl⟩
                      have HX9 := hid (show x9 ≠ 0 by rw [← hx9]; decide)
                      have HE9 := hid hx9
                      have HBAD := hid (show res = .bad x9 k by have h := HRG.out; rw [HR.out, HEZ.out, if_neg (by rw [hz]; exact List.cons_ne_nil _ _)] at h; rw [← hx9]; exact h.symm)
                      clear hz hx9
                      go_upto_region 22 with (first
                        | (go_at_call 17; (with_reducible refine (takeR_yes (nmRest q) z 0 41 H41.out bl wm BM.out.lr).mono ?_); rintro e wy ⟨rfl, h8, hg8⟩; have BY := hid (BM.out.call hg8 h8); clear h8 hg8)
                        | (go_at_call 19; (with_reducible refine (next_any z 0 bl wy BY.out.lr).mono ?_); rintro e wx ⟨rfl, h8, hg8⟩; rw [HZ.out]; have BX := hid (BY.out.call hg8 h8); clear h8 hg8)
                        | (go_at_call 18; (with_reducible refine (failsR_any (bk z) 0 3 bl wx BX.out.lr).mono ?_); rintro e wz ⟨rfl, h8, hg8⟩; rw [HE9.out] at h8; have BZ := hid (BX.out.call hg8 h8); clear h8 hg8))
                      have HZR := hid (bad_next HRS2.out BZ.out)
                      have z1 : wz.cell? ⟨bl, 1, none⟩ = some (.int .i64 x9) := (cell_block BZ.out.lr 1).trans rfl
                      have e0 : wz.cell? ⟨w.heap.size, 0, none⟩ = some (.int .i64 0) := (cell_block HZR.out.err 0).trans rfl
                      have e1 : wz.cell? ⟨w.heap.size, 1, none⟩ = some (.int .i64 0) := (cell_block HZR.out.err 1).trans rfl
                      have fz := free_block HZR.out.err
                      have lz := boxLt HZR.out.err
                      have hx9 := HX9.out
                      have hx9D : decide (x9 = 0) = false := decide_eq_false hx9
                      go_upto_region 23 with fail
                      go_region
                      all_goals go_wp2_with fail
                      all_goals exact ⟨rfl, _, results_rungs _ _ w.heap.size _ _ _ rfl rfl (HZR.out.fell _ _).2, (HZR.out.fell _ _).1.drew, by rw [HBAD.out]; rfl⟩
              · obtain ⟨q, hqe⟩ : ∃ q, bk u = q := ⟨_, rfl⟩
                have H47 := hid (show (bk (bk u)).head? ≠ some 47 by rw [bk_bk]; exact hq1)
                have HQE := hid hqe
                rw [hqe] at hkd
                have HS83 := hid (has2_no 83 32 q (by rw [← hqe]; exact hq2))
                have HS82 := hid (has2_no 82 32 q (by rw [← hqe]; exact hq3))
                have hql : q.length ≤ 1000000 := by have h1 := bk_len u; rw [hqe] at h1; have := HXL.out; omega
                clear hq1 hq2 hq3 hqe
                go_upto_region 19 with (first
                  | (go_at_call 17; (with_reducible refine (takeR_no (bk u) 0 47 H47.out bl w7 B7.out.lr).mono ?_); rintro e w8 ⟨rfl, h8, hg8⟩; rw [bk_bk, HQE.out] at h8; have BN := hid (B7.out.call hg8 h8); (have q0 : w8.cell? ⟨bl, 0, none⟩ = some (st q) := (cell_block BN.out.lr 0).trans rfl); clear h8 hg8)
                  | (go_at_call 20; (with_reducible refine (hasP_any q [83, 32] w8).mono ?_); rintro e wi ⟨rfl, hw⟩; subst wi; rw [HS83.out])
                  | (go_at_call 20; (with_reducible refine (hasP_any q [82, 32] w8).mono ?_); rintro e wi ⟨rfl, hw⟩; subst wi; rw [HS82.out]))
                rename World => wk
                clear q0
                have HKD := hid hkd
                clear hkd
                go_upto_region 20 with (go_at_call 21; (with_reducible refine (nameLine_any q 0 bl hbl3 wk BN.out.lr (HM2.out.below BN.out.below) hql).mono ?_); rintro e wn ⟨rfl, hg8, h8⟩; have H8 := hid h8; have HGN := hid hg8; have hbxn := hg8.at' BN.out.box BN.out.ne; (have n2 : wn.cell? ⟨bx, 2, none⟩ = some (st []) := (cell_block hbxn 2).trans rfl); have fn := free_block hbxn; have ln := boxLt hbxn; clear h8 hg8 hbxn)
                cases hgn : goodName (nmOf q) with
                | false =>
                  obtain ⟨x9, hx9⟩ : ∃ x9 : Int, x9 = 3 := ⟨3, rfl⟩
                  have HX9 := hid (show x9 ≠ 0 by rw [hx9]; decide)
                  have BM := hid ((BN.out.call HGN.out (show LR wn bl [] x9 by have h := H8.out; rw [if_neg (by rw [hgn]; decide)] at h; rw [hx9]; exact h)).name (nmOf q))
                  have HBAD := hid (show res = .bad x9 k by have h := HRG.out; rw [HR.out, rungOf_is H40.out HKD.out, hgn, if_neg (by decide)] at h; rw [hx9]; exact h.symm)
                  generalize wn.setCell ⟨bx, 2, none⟩ (st (nmOf q)) = wm at BM ⊢
                  clear BN H8 HGN n2 fn ln hgn hx9
                  have HN20 : Hid ((bk []).head? ≠ some 41) := hid (by simp [bk, Lib.trimLeftB])
                  go_upto_region 22 with (first
                    | (go_at_call 17; (with_reducible refine (takeR_no [] x9 41 HN20.out bl wm BM.out.lr).mono ?_); rintro e wy ⟨rfl, h8, hg8⟩; rw [show bk [] = [] from rfl] at h8; have BY := hid (BM.out.call hg8 h8); clear h8 hg8)
                    | (go_at_call 18; (with_reducible refine (failsR_any [] x9 3 bl wy BY.out.lr).mono ?_); rintro e wz ⟨rfl, h8, hg8⟩; rw [firstBad_ne HX9.out] at h8; have BZ := hid (BY.out.call hg8 h8); clear h8 hg8))
                  have HZR := hid (bad_next HRS2.out BZ.out)
                  have z1 : wz.cell? ⟨bl, 1, none⟩ = some (.int .i64 x9) := (cell_block BZ.out.lr 1).trans rfl
                  have e0 : wz.cell? ⟨w.heap.size, 0, none⟩ = some (.int .i64 0) := (cell_block HZR.out.err 0).trans rfl
                  have e1 : wz.cell? ⟨w.heap.size, 1, none⟩ = some (.int .i64 0) := (cell_block HZR.out.err 1).trans rfl
                  have fz := free_block HZR.out.err
                  have lz := boxLt HZR.out.err
                  have hx9 := HX9.out
                  have hx9D : decide (x9 = 0) = false := decide_eq_false hx9
                  go_upto_region 23 with fail
                  go_region
                  all_goals go_wp2_with fail
                  all_goals exact ⟨rfl, _, results_rungs _ _ w.heap.size _ _ _ rfl rfl (HZR.out.fell _ _).2, (HZR.out.fell _ _).1.drew, by rw [HBAD.out]; rfl⟩
                | true =>
                  have BM := hid ((BN.out.call HGN.out (show LR wn bl (nmRest q) 0 by have h := H8.out; rw [if_pos hgn] at h; exact h)).name (nmOf q))
                  generalize wn.setCell ⟨bx, 2, none⟩ (st (nmOf q)) = wm at BM ⊢
                  have HGD := hid hgn
                  clear BN H8 HGN n2 fn ln hgn
                  rcases head_or (nmRest q) 41 with h41 | ⟨z, h41⟩
                  · have H41 := hid h41
                    obtain ⟨x9, hx9⟩ : ∃ x9 : Int, firstBad 0 3 = x9 := ⟨_, rfl⟩
                    have HX9 := hid (show x9 ≠ 0 by rw [← hx9]; decide)
                    have HE9 := hid hx9
                    have HBAD := hid (show res = .bad x9 k by have h := HRG.out; rw [HR.out, rungOf_close H40.out HKD.out h41] at h; rw [← hx9]; exact h.symm)
                    clear h41 hx9
                    go_upto_region 22 with (first
                      | (go_at_call 17; (with_reducible refine (takeR_no (nmRest q) 0 41 H41.out bl wm BM.out.lr).mono ?_); rintro e wy ⟨rfl, h8, hg8⟩; have BY := hid (BM.out.call hg8 h8); clear h8 hg8)
                      | (go_at_call 18; (with_reducible refine (failsR_any (bk (nmRest q)) 0 3 bl wy BY.out.lr).mono ?_); rintro e wz ⟨rfl, h8, hg8⟩; rw [HE9.out] at h8; have BZ := hid (BY.out.call hg8 h8); clear h8 hg8))
                    have HZR := hid (bad_next HRS2.out BZ.out)
                    have z1 : wz.cell? ⟨bl, 1, none⟩ = some (.int .i64 x9) := (cell_block BZ.out.lr 1).trans rfl
                    have e0 : wz.cell? ⟨w.heap.size, 0, none⟩ = some (.int .i64 0) := (cell_block HZR.out.err 0).trans rfl
                    have e1 : wz.cell? ⟨w.heap.size, 1, none⟩ = some (.int .i64 0) := (cell_block HZR.out.err 1).trans rfl
                    have fz := free_block HZR.out.err
                    have lz := boxLt HZR.out.err
                    have hx9 := HX9.out
                    have hx9D : decide (x9 = 0) = false := decide_eq_false hx9
                    go_upto_region 23 with fail
                    go_region
                    all_goals go_wp2_with fail
                    all_goals exact ⟨rfl, _, results_rungs _ _ w.heap.size _ _ _ rfl rfl (HZR.out.fell _ _).2, (HZR.out.fell _ _).1.drew, by rw [HBAD.out]; rfl⟩
                  · have H41 := hid h41
                    have HEZ := hid (rungOf_end (t := t) H40.out HKD.out HGD.out h41)
                    clear h41
                    cases hz : bk z with
                    | nil =>
                      have HZ := hid (show (bk z).take 1 = [] by rw [hz]; rfl)
                      have HRG5 := hid (show runLn (lines.drop (k + 1)) (k + 1) (acc ++ [⟨t, 1, nmOf q⟩]) = res by
                        have h := HRG.out
                        rw [HR.out, HEZ.out, if_pos hz] at h
                        exact h)
                      clear hz
                      go_upto_region 22 with (first
                        | (go_at_call 17; (with_reducible refine (takeR_yes (nmRest q) z 0 41 H41.out bl wm BM.out.lr).mono ?_); rintro e wy ⟨rfl, h8, hg8⟩; have BY := hid (BM.out.call hg8 h8); clear h8 hg8)
                        | (go_at_call 19; (with_reducible refine (next_any z 0 bl wy BY.out.lr).mono ?_); rintro e wz ⟨rfl, h8, hg8⟩; rw [HZ.out]; have BZ := hid (BY.out.call hg8 h8); clear h8 hg8))
                      have z1 : wz.cell? ⟨bl, 1, none⟩ = some (.int .i64 0) := (cell_block BZ.out.lr 1).trans rfl
                      have y0 : wz.cell? ⟨bx, 0, none⟩ = some (.slice a4 t.len q4) := (cell_block BZ.out.box 0).trans rfl
                      have y1 : wz.cell? ⟨bx, 1, none⟩ = some (.int .i64 1) := (cell_block BZ.out.box 1).trans rfl
                      have y2 : wz.cell? ⟨bx, 2, none⟩ = some (st (nmOf q)) := (cell_block BZ.out.box 2).trans rfl
                      have HZR := hid (bad_next HRS2.out BZ.out)
                      have hlz := boxLt BZ.out.box
                      obtain ⟨i0, hi, hz0, hz1, hz2⟩ := info_parts Tryz.infoRfRung
                      have HEL := hid (BZ.out.elem (B := w.heap.size + 2) (l := .slice al acc.length ql) (acc := acc) HRS2.out.size (fun k hk => (HRS2.out.acc.lt k hk).2))
                      go_wp2_with (at_builtin; refine rungRPush (w.heap.size + 2) _ wz rfl _ _ 25 rfl i0 _ 48 Tryz.underlying25 hi hz0 hz1 hz2 rfl (.slice al acc.length ql) acc ⟨t, 1, nmOf q⟩ acc.length rfl rfl HZR.out.acc (.slice a4 t.len q4) rfl rfl rfl HEL.out (by omega) (by decide) HZR.out.size ?_; intro av cv wb HRW HGB; have HP9 := hid (HZR.out.pushed HGB.out (fun k hk => (HZR.out.acc.lt k hk).1) HRW.out); clear HGB)
                      go_roundw
                      case rel => exact ⟨k + 1, acc ++ [⟨t, 1, nmOf q⟩], by go_num, by omega, HP9.out, HRG5.out, by simp; omega⟩
                      case measure => simp [intOf]; omega
                    | cons c8 z8 =>
                      have HZ := hid (show (bk z).take 1 = [c8] by rw [hz]; rfl)
                      obtain ⟨x9, hx9⟩ : ∃ x9 : Int, firstBad 0 3 = x9 := ⟨_, rfl⟩
                      have HX9 := hid (show x9 ≠ 0 by rw [← hx9]; decide)
                      have HE9 := hid hx9
                      have HBAD := hid (show res = .bad x9 k by have h := HRG.out; rw [HR.out, HEZ.out, if_neg (by rw [hz]; exact List.cons_ne_nil _ _)] at h; rw [← hx9]; exact h.symm)
                      clear hz hx9
                      go_upto_region 22 with (first
                        | (go_at_call 17; (with_reducible refine (takeR_yes (nmRest q) z 0 41 H41.out bl wm BM.out.lr).mono ?_); rintro e wy ⟨rfl, h8, hg8⟩; have BY := hid (BM.out.call hg8 h8); clear h8 hg8)
                        | (go_at_call 19; (with_reducible refine (next_any z 0 bl wy BY.out.lr).mono ?_); rintro e wx ⟨rfl, h8, hg8⟩; rw [HZ.out]; have BX := hid (BY.out.call hg8 h8); clear h8 hg8)
                        | (go_at_call 18; (with_reducible refine (failsR_any (bk z) 0 3 bl wx BX.out.lr).mono ?_); rintro e wz ⟨rfl, h8, hg8⟩; rw [HE9.out] at h8; have BZ := hid (BX.out.call hg8 h8); clear h8 hg8))
                      have HZR := hid (bad_next HRS2.out BZ.out)
                      have z1 : wz.cell? ⟨bl, 1, none⟩ = some (.int .i64 x9) := (cell_block BZ.out.lr 1).trans rfl
                      have e0 : wz.cell? ⟨w.heap.size, 0, none⟩ = some (.int .i64 0) := (cell_block HZR.out.err 0).trans rfl
                      have e1 : wz.cell? ⟨w.heap.size, 1, none⟩ = some (.int .i64 0) := (cell_block HZR.out.err 1).trans rfl
                      have fz := free_block HZR.out.err
                      have lz := boxLt HZR.out.err
                      have hx9 := HX9.out
                      have hx9D : decide (x9 = 0) = false := decide_eq_false hx9
                      go_upto_region 23 with fail
                      go_region
                      all_goals go_wp2_with fail
                      all_goals exact ⟨rfl, _, results_rungs _ _ w.heap.size _ _ _ rfl rfl (HZR.out.fell _ _).2, (HZR.out.fell _ _).1.drew, by rw [HBAD.out]; rfl⟩
    · have hkI : ¬ (k : Int) < (lines.length : Int) := by omega
      have hk2 : k = lines.length := by omega
      have HEND := hid (show res = .ok acc by
        have h := HRUN.out
        rw [hk2, List.drop_length] at h
        exact h.symm)
      clear hk2
      have HFA := hid (HFIN.out.below HRS.out.below)
      have g0 := HFA.out.2.1
      have g1 := HFA.out.2.2
      have e0 : wa.cell? ⟨w.heap.size, 0, none⟩ = some (.int .i64 0) := (cell_block HRS.out.err 0).trans rfl
      have e1 : wa.cell? ⟨w.heap.size, 1, none⟩ = some (.int .i64 0) := (cell_block HRS.out.err 1).trans rfl
      have fz := free_block HRS.out.err
      have lz := boxLt HRS.out.err
      go_upto_region 26 with fail
      go_region
      all_goals go_wp2_with fail
      all_goals exact ⟨rfl, _, results_rungs _ _ w.heap.size _ _ _ rfl rfl (HRS.out.fell _ _).2, (HRS.out.fell _ _).1.drew, by rw [HEND.out]; exact ⟨_, rfl, HRS.out.last⟩⟩
end Go.Proofs.YtlaeflpddehipabGreatDoor
