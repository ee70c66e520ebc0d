/- Cells in memory. -/
import Derived.Test.YtlaeflpddehipabGreatDoorLdPlain
import Derived.Test.YtlaeflpddehipabGreatDoorOwnRow
import Derived.Maps.AppendAt
set_option linter.unusedVariables false
set_option linter.unusedSectionVars false
namespace Go.Proofs.YtlaeflpddehipabGreatDoor
open Go.RowKit

/-- A text. -/
abbrev st (l : Bs) : Value := .string ⟨l.toArray⟩
theorem st_list (s : ByteArray) : .string s = st s.data.toList := by
  unfold st
  simp
/-- Values that are cells one behind the other, or ways; what they point to lies where P holds. -/
def RepL (w : World) (P : Nat → Prop) : Tr → List Value → Prop
  | .nil, xs => xs = []
  | .one no nm n, xs => ∃ ys, xs = st nm :: .bool no :: .slice none 0 0 :: ys ∧ RepL w P n ys
  | .many ws n, xs => ∃ v ys, xs = st [] :: .bool false :: v :: ys ∧ (∃ a c zs, v = .slice a ws.len c ∧ ws.len ≤ c ∧ RepL w P ws zs ∧ (ws.len = 0 ∨ ∃ g cur T, a = some ⟨g, 0, none⟩ ∧ P g ∧ w.heap[g]? = some (.cells cur T (0, 0)) ∧ ∀ (j : Nat) (u : Value), zs[j]? = some u → cur[j]? = some u)) ∧ RepL w P n ys
  | .way l n, xs => ∃ v ys, xs = v :: ys ∧ (∃ a c zs, v = .slice a l.len c ∧ l.len ≤ c ∧ RepL w P l zs ∧ (l.len = 0 ∨ ∃ g cur T, a = some ⟨g, 0, none⟩ ∧ P g ∧ w.heap[g]? = some (.cells cur T (0, 0)) ∧ ∀ (j : Nat) (u : Value), zs[j]? = some u → cur[j]? = some u)) ∧ RepL w P n ys
/-- A slice of such. -/
def RepS (w : World) (P : Nat → Prop) (t : Tr) (v : Value) : Prop :=
  ∃ a c zs, v = .slice a t.len c ∧ t.len ≤ c ∧ RepL w P t zs ∧ (t.len = 0 ∨ ∃ g cur T, a = some ⟨g, 0, none⟩ ∧ P g ∧ w.heap[g]? = some (.cells cur T (0, 0)) ∧ ∀ (j : Nat) (u : Value), zs[j]? = some u → cur[j]? = some u)
theorem RepL.keep {w w' : World} {P P' : Nat → Prop} (hP : ∀ k, P k → P' k ∧ w'.heap[k]? = w.heap[k]?) : ∀ {t : Tr} {xs : List Value}, RepL w P t xs → RepL w' P' t xs
  | .nil, _, h => h
  | .one no nm n, _, ⟨ys, e, h⟩ => ⟨ys, e, RepL.keep hP h⟩
  | .many ws n, _, ⟨v, ys, e, ⟨a, c, zs, e1, hc, h1, h2⟩, h⟩ => ⟨v, ys, e, ⟨a, c, zs, e1, hc, RepL.keep hP h1, h2.imp id fun ⟨g, cur, T, ea, hg, hh, hz⟩ => ⟨g, cur, T, ea, (hP g hg).1, (hP g hg).2.trans hh, hz⟩⟩, RepL.keep hP h⟩
  | .way l n, _, ⟨v, ys, e, ⟨a, c, zs, e1, hc, h1, h2⟩, h⟩ => ⟨v, ys, e, ⟨a, c, zs, e1, hc, RepL.keep hP h1, h2.imp id fun ⟨g, cur, T, ea, hg, hh, hz⟩ => ⟨g, cur, T, ea, (hP g hg).1, (hP g hg).2.trans hh, hz⟩⟩, RepL.keep hP h⟩
theorem RepS.keep {w w' : World} {P P' : Nat → Prop} (hP : ∀ k, P k → P' k ∧ w'.heap[k]? = w.heap[k]?) {t : Tr} {v : Value} (h : RepS w P t v) : RepS w' P' t v := by
  obtain ⟨a, c, zs, e1, hc, h1, h2⟩ := h
  exact ⟨a, c, zs, e1, hc, h1.keep hP, h2.imp id fun ⟨g, cur, T, ea, hg, hh, hz⟩ => ⟨g, cur, T, ea, (hP g hg).1, (hP g hg).2.trans hh, hz⟩⟩
theorem RepL.app {w : World} {P : Nat → Prop} {u : Tr} {ys : List Value} (hu : RepL w P u ys) : ∀ {t : Tr} {xs : List Value}, RepL w P t xs → RepL w P (t.app u) (xs ++ ys)
  | .nil, _, h => by cases h; exact hu
  | .one no nm n, _, ⟨zs, e, h⟩ => by subst e; exact ⟨zs ++ ys, rfl, RepL.app hu h⟩
  | .many ws n, _, ⟨v, zs, e, hv, h⟩ => by subst e; exact ⟨v, zs ++ ys, rfl, hv, RepL.app hu h⟩
  | .way l n, _, ⟨v, zs, e, hv, h⟩ => by subst e; exact ⟨v, zs ++ ys, rfl, hv, RepL.app hu h⟩
/-- What is new. -/
def New (W w : World) (k : Nat) : Prop := W.heap.size ≤ k ∧ k < w.heap.size
/-- A row of the call's own that holds cells (or ways). -/
def RowRep (W w : World) (E sz : Nat) (v : Value) (t : Tr) : Prop :=
  ∃ xs P, w.ownsRow W.heap.size E sz v t.len xs ∧ RepL w P t xs ∧ ∀ k, P k → New W w k ∧ v.ownBlock ≠ some k
theorem RowRep.nil (W w : World) (E sz : Nat) : RowRep W w E sz (.slice none 0 0) .nil :=
  ⟨[], fun _ => False, World.ownsRow_nil _ _ _ _, rfl, fun _ h => h.elim⟩
theorem RowRep.grown {W w w' : World} {E sz r : Nat} {v : Value} {t : Tr} (h : RowRep W w E sz v t) (hg : w.grownBy w' (some r)) (hr : r < W.heap.size) : RowRep W w' E sz v t := by
  obtain ⟨xs, P, h1, h2, h3⟩ := h
  refine ⟨xs, P, rowKeep h1 fun k hk => hg.block k (h1.lt k hk).2 (by have := (h1.lt k hk).1; simp; omega), h2.keep fun k hk => ⟨hk, hg.block k (h3 k hk).1.2 (by have := (h3 k hk).1.1; simp; omega)⟩, fun k hk => ⟨⟨(h3 k hk).1.1, Nat.lt_of_lt_of_le (h3 k hk).1.2 hg.size⟩, (h3 k hk).2⟩⟩
theorem RowRep.below {W w w' : World} {E sz : Nat} {v : Value} {t : Tr} (h : RowRep W w E sz v t) (hb : Below w.heap.size w w') : RowRep W w' E sz v t := by
  obtain ⟨xs, P, h1, h2, h3⟩ := h
  exact ⟨xs, P, rowOld h1 hb, h2.keep fun k hk => ⟨hk, hb.block k (h3 k hk).1.2⟩, fun k hk => ⟨⟨(h3 k hk).1.1, Nat.lt_of_lt_of_le (h3 k hk).1.2 hb.size⟩, (h3 k hk).2⟩⟩
/-- At its end. -/
theorem RowRep.slice {W w : World} {E sz : Nat} {v : Value} {t : Tr} (h : RowRep W w E sz v t) : RepS w (New W w) t v := by
  obtain ⟨xs, P, h1, h2, h3⟩ := h
  have h2' : RepL w (New W w) t xs := h2.keep fun k hk => ⟨(h3 k hk).1, rfl⟩
  rcases h1.2 with ⟨rfl, h0⟩ | ⟨g, cap, cur, rfl, hg, hh, hn, hc, hs, ht⟩
  · exact ⟨none, 0, xs, by rw [h0], by omega, h2', .inl h0⟩
  · refine ⟨_, cap, xs, rfl, by omega, h2', .inr ⟨g, cur, E, rfl, ⟨hg, boxLt hh⟩, hh, fun j u hj => ?_⟩⟩
    rw [← ht, List.getElem?_take] at hj
    split at hj
    · rw [Array.getElem?_toList] at hj; exact hj
    · cases hj
/-- One more at the end. -/
theorem RowRep.push {W w w' : World} {E sz : Nat} {v v' : Value} {t u : Tr} {ys : List Value} {xs : List Value} {P : Nat → Prop} (h1 : w.ownsRow W.heap.size E sz v t.len xs) (h2 : RepL w P t xs) (h3 : ∀ k, P k → New W w k ∧ v.ownBlock ≠ some k)
    (hu : RepL w (fun k => New W w k ∧ v.ownBlock ≠ some k) u ys) (hg : w.grownBy w' v.ownBlock) (hrow : w'.ownsRow W.heap.size E sz v' (t.len + u.len) (xs ++ ys)) (hnew : v'.ownBlock = v.ownBlock ∨ ∀ k, v'.ownBlock = some k → w.heap.size ≤ k) : RowRep W w' E sz v' (t.app u) := by
  have hne : ∀ k, New W w k ∧ v.ownBlock ≠ some k → New W w' k ∧ v'.ownBlock ≠ some k := fun k ⟨hk, hv⟩ => by
    refine ⟨⟨hk.1, Nat.lt_of_lt_of_le hk.2 hg.size⟩, fun e => ?_⟩
    rcases hnew with h | h
    · exact hv (h ▸ e)
    · have := h k e
      have := hk.2
      omega
  refine ⟨xs ++ ys, fun k => New W w' k ∧ v'.ownBlock ≠ some k, by rw [Tr.len_app]; exact hrow, ?_, fun k hk => hk⟩
  have a1 : RepL w' (fun k => New W w' k ∧ v'.ownBlock ≠ some k) t xs := h2.keep fun k hk => ⟨hne k (h3 k hk), hg.block k (h3 k hk).1.2 (fun e => (h3 k hk).2 e.symm)⟩
  have a2 : RepL w' (fun k => New W w' k ∧ v'.ownBlock ≠ some k) u ys := hu.keep fun k hk => ⟨hne k hk, hg.block k hk.1.2 (fun e => hk.2 e.symm)⟩
  exact a2.app a1
/-- But for one block that lay nothing is turned. -/
abbrev Gr (W : World) (bp : Nat) (w : World) : Prop := W.grownBy w (some bp)
theorem Gr.of (W : World) (bp : Nat) : Gr W bp W := ⟨rfl, rfl, rfl, Nat.le_refl _, fun _ _ _ => rfl⟩
theorem Gr.below {W w w' : World} {bp : Nat} (h : Gr W bp w) (hb : Below w.heap.size w w') : Gr W bp w' :=
  ⟨hb.os.trans h.os, hb.tape.trans h.tape, hb.output.trans h.output, Nat.le_trans h.size hb.size, fun k hk hne => (hb.block k (Nat.lt_of_lt_of_le hk h.size)).trans (h.block k hk hne)⟩
theorem Gr.trans' {W w w' : World} {bp : Nat} (h : Gr W bp w) (h2 : Gr w bp w') : Gr W bp w' :=
  ⟨h2.os.trans h.os, h2.tape.trans h.tape, h2.output.trans h.output, Nat.le_trans h.size h2.size, fun k hk hne => (h2.block k (Nat.lt_of_lt_of_le hk h.size) hne).trans (h.block k hk hne)⟩
theorem Gr.own {W w w' : World} {bp : Nat} {row : Option Nat} (h : Gr W bp w) (hg : w.grownBy w' row) (hr : ∀ k, row = some k → W.heap.size ≤ k) : Gr W bp w' :=
  ⟨hg.os.trans h.os, hg.tape.trans h.tape, hg.output.trans h.output, Nat.le_trans h.size hg.size, fun k hk hne => (hg.block k (Nat.lt_of_lt_of_le hk h.size) (fun e => by have := hr k e.symm; omega)).trans (h.block k hk hne)⟩
theorem Gr.set {W w : World} {bp : Nat} (h : Gr W bp w) (j : Nat) (v : Value) : Gr W bp (w.setCell ⟨bp, j, none⟩ v) :=
  ⟨h.os, h.tape, h.output, by have := h.size; simpa [World.setCell] using this, fun k hk hne => (heap_setCell_other _ _ _ _ (fun e => hne (by rw [e]))).trans (h.block k hk hne)⟩
theorem Gr.setNew {W w : World} {bp b : Nat} (h : Gr W bp w) (hb : W.heap.size ≤ b) (j : Nat) (v : Value) : Gr W bp (w.setCell ⟨b, j, none⟩ v) :=
  ⟨h.os, h.tape, h.output, by have := h.size; simpa [World.setCell] using this, fun k hk hne => (heap_setCell_other _ _ _ _ (fun e => by simp only at e; omega)).trans (h.block k hk hne)⟩
theorem Gr.drew {W w : World} {bp : Nat} (h : Gr W bp w) : Gr W bp w.drew := ⟨h.os, h.tape, h.output, h.size, h.block⟩
/-- A reader of a line, and what is left of it. -/
abbrev LP (w : World) (bp : Nat) (s : Bs) : Prop := w.heap[bp]? = some (.cells #[st s] 71 (0, 0))
theorem RowRep.lt {W w : World} {E sz : Nat} {v : Value} {t : Tr} (h : RowRep W w E sz v t) : ∀ k, v.ownBlock = some k → W.heap.size ≤ k ∧ k < w.heap.size := by
  obtain ⟨xs, P, h1, _, _⟩ := h
  exact fun k hk => h1.lt k hk
theorem RowRep.form {W w : World} {E sz : Nat} {v : Value} {t : Tr} (h : RowRep W w E sz v t) : ∃ a c, v = .slice a t.len c := by
  obtain ⟨xs, P, h1, _, _⟩ := h
  rcases h1.2 with ⟨rfl, h0⟩ | ⟨g, cap, cur, rfl, _⟩
  · exact ⟨none, 0, by rw [h0]⟩
  · exact ⟨_, _, rfl⟩
/-- append(row, one more): where operations go in the text's order. -/
theorem ldPush {P : Program} {ops : Array Oper} {rest : List Oper} {o : Oper} {a : Act} {Q : Exit → Act → World → Prop} (W W1 wr : World) (hgd : o.guard = none) (s x : Operand) (t : TypeId)
    (ho : o.op = .call { callee := .builtin .append, args := #[s, x], argTypes := #[t, t] })
    (e : TypeId) (i : TypeInfo) (z : Value) (size bytes : Nat) (ht : P.underlying t = some (.slice e)) (hi : P.info? e = some i) (hz : i.zero = some z)
    (hsize : i.size = size) (hby : i.bytes = bytes) (hzs : z.cells.size = size) (hsz : 0 < size)
    (v : Value) (tr u : Tr) (n : Nat) (hn : tr.len = n) (hs : a.eval s = v) (hown : RowRep W wr e size v tr)
    (cs : Array Value) (hW : W1 = wr.alloc (.cells cs e)) (hx : a.eval x = .slice (some ⟨wr.heap.size, 0, none⟩) 1 1) (hl : cs.size = size) (h1 : cs.toList.all Value.oneCell' = true)
    (hu1 : u.len = 1) (hu : RepL wr (fun k => New W wr k ∧ v.ownBlock ≠ some k) u cs.toList)
    (hn4 : n ≤ 1000000) (hb4 : bytes ≤ 1000) (hB : W.heap.size ≤ wr.heap.size)
    (h : ∀ av' cv' wb, Hid (RowRep W wb e size (.slice av' (n + 1) cv') (tr.app u)) → Hid ((wr.alloc (.cells cs e)).grownBy wb v.ownBlock) → wpList P ops Q rest (a.put o.dst (.slice av' (n + 1) cv')) wb) :
    wpList P ops Q (o :: rest) a W1 := by
  subst hW hn
  obtain ⟨xs, P0, g1, g2, g3⟩ := hown
  have hb0 : Below wr.heap.size wr (wr.alloc (.cells cs e)) := (Below.refl _ _).alloc (Nat.le_refl _) _
  have hbytes : (tr.len + 1) * bytes ≤ 140737488355328 := Nat.le_trans (Nat.mul_le_mul (show tr.len + 1 ≤ 1000001 by omega) hb4) (by decide)
  refine wpList_append_own_at _ hgd s x t ho W.heap.size e i z size bytes ht hi hz hsize hby hzs hsz v tr.len xs hs (rowOld g1 hb0) ⟨wr.heap.size, 0, none⟩ 1 1 cs.toList hx (by simpa using hl) ?_ (fun u hu => List.all_eq_true.1 h1 u hu) (by unfold maxLen; omega) hbytes (Nat.le_trans hB (by simp)) ?_
  · intro j u hj
    rw [Addr.add_at, cell_new]
    simpa using hj
  · intro v' wb k1 k2 k3 k4
    obtain ⟨av', cv', rfl⟩ := owns_slice k1
    refine h av' cv' wb (hid (RowRep.push (w := wr.alloc (.cells cs e)) (xs := xs) (ys := cs.toList) (rowOld g1 hb0) (g2.keep fun k hk => ⟨hk, hb0.block k (g3 k hk).1.2⟩) (fun k hk => ⟨⟨(g3 k hk).1.1, Nat.lt_of_lt_of_le (g3 k hk).1.2 hb0.size⟩, (g3 k hk).2⟩)
      (hu.keep fun k hk => ⟨⟨⟨hk.1.1, Nat.lt_of_lt_of_le hk.1.2 hb0.size⟩, hk.2⟩, hb0.block k hk.1.2⟩) k2 (by rw [hu1]; exact k1) (k4.imp id fun e k hk => by rw [e] at hk; cases hk; exact Nat.le_refl _))) (hid k2)
end Go.Proofs.YtlaeflpddehipabGreatDoor
