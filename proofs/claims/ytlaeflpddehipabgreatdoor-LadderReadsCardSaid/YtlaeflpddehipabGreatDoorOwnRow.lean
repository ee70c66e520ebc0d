/- Rows and blocks of the call's own, one beside the other, when one of them is appended to or written. -/
import Derived.Test.YtlaeflpddehipabGreatDoorRegion
set_option linter.unusedVariables false
namespace Go.Proofs.YtlaeflpddehipabGreatDoor
open Go.RowKit

theorem rowKeep {w w' : World} {base e size n : Nat} {v : Value} {xs : List Value} (h : w.ownsRow base e size v n xs) (hk : ∀ k, v.ownBlock = some k → w'.heap[k]? = w.heap[k]?) : w'.ownsRow base e size v n xs := by
  obtain ⟨hl, h⟩ := h
  rcases h with h | ⟨g, cap, cur, rfl, h1, h2, h3⟩
  · exact ⟨hl, .inl h⟩
  · exact ⟨hl, .inr ⟨g, cap, cur, rfl, h1, (hk g rfl).trans h2, h3⟩⟩
theorem rowBase {w : World} {base base' E size n : Nat} {v : Value} {xs : List Value} (h : w.ownsRow base E size v n xs) (hb : base' ≤ base) : w.ownsRow base' E size v n xs := by
  obtain ⟨h1, h2⟩ := h
  refine ⟨h1, ?_⟩
  rcases h2 with h2 | ⟨g, cap, cur, hv, hg, r⟩
  · exact .inl h2
  · exact .inr ⟨g, cap, cur, hv, Nat.le_trans hb hg, r⟩
theorem boxSet {w : World} {b : Nat} {cs : Array Value} {T : TypeId} (h : w.heap[b]? = some (.cells cs T (0, 0))) (j : Nat) (v : Value) : (w.setCell ⟨b, j, none⟩ v).heap[b]? = some (.cells (cs.setIfInBounds j v) T (0, 0)) := by
  simp only [World.setCell, Array.getElem?_modify, if_true, h]
  rfl
theorem boxLt {w : World} {k : Nat} {o : Obj} (h : w.heap[k]? = some o) : k < w.heap.size := by
  rcases Nat.lt_or_ge k w.heap.size with h' | h'
  · exact h'
  · rw [Array.getElem?_eq_none h'] at h; cases h
theorem boxNe {w : World} {k1 k2 T1 T2 : Nat} {c1 c2 : Array Value} (h1 : w.heap[k1]? = some (.cells c1 T1 (0, 0))) (h2 : w.heap[k2]? = some (.cells c2 T2 (0, 0))) (hne : T1 ≠ T2) : k1 ≠ k2 := by
  intro e
  subst e
  rw [h1] at h2
  cases h2
  exact hne rfl
theorem rowNe {w : World} {b1 e1 s1 n1 b2 e2 s2 n2 : Nat} {v1 v2 : Value} {xs1 xs2 : List Value} (h1 : w.ownsRow b1 e1 s1 v1 n1 xs1) (h2 : w.ownsRow b2 e2 s2 v2 n2 xs2) (hne : e1 ≠ e2) (k : Nat) (hk : v2.ownBlock = some k) : v1.ownBlock ≠ some k := by
  intro hk'
  rcases h1.2 with ⟨rfl, _⟩ | ⟨g, cap, cur, rfl, _, hh, _⟩
  · simp [Value.ownBlock] at hk'
  · rcases h2.2 with ⟨rfl, _⟩ | ⟨g', cap', cur', rfl, _, hh', _⟩
    · simp [Value.ownBlock] at hk
    · simp only [Value.ownBlock, Option.some.injEq] at hk hk'
      subst hk'
      subst hk
      rw [hh] at hh'
      cases hh'
      exact hne rfl
theorem rowBoxNe {w : World} {b1 e1 s1 n1 k T : Nat} {v1 : Value} {xs1 : List Value} {cs : Array Value} (h1 : w.ownsRow b1 e1 s1 v1 n1 xs1) (h2 : w.heap[k]? = some (.cells cs T (0, 0))) (hne : e1 ≠ T) : v1.ownBlock ≠ some k := by
  intro hk'
  rcases h1.2 with ⟨rfl, _⟩ | ⟨g, cap, cur, rfl, _, hh, _⟩
  · simp [Value.ownBlock] at hk'
  · simp only [Value.ownBlock, Option.some.injEq] at hk'
    subst hk'
    rw [hh] at h2
    cases h2
    exact hne rfl
/-- A row beside another one of another type that was appended to. -/
theorem rowCross {W wb : World} {b1 e1 s1 n1 b2 e2 s2 n2 : Nat} {v1 v2 : Value} {xs1 xs2 : List Value} (hgb : W.grownBy wb v1.ownBlock) (h1 : W.ownsRow b1 e1 s1 v1 n1 xs1) (h2 : W.ownsRow b2 e2 s2 v2 n2 xs2) (hne : e1 ≠ e2) : wb.ownsRow b2 e2 s2 v2 n2 xs2 :=
  rowKeep h2 fun k hk => hgb.block k (h2.lt k hk).2 (fun e => rowNe h1 h2 hne k hk e.symm)
/-- A block beside a row that was appended to. -/
theorem boxCross {W wb : World} {b1 e1 s1 n1 k T : Nat} {v1 : Value} {xs1 : List Value} {cs : Array Value} (hgb : W.grownBy wb v1.ownBlock) (h1 : W.ownsRow b1 e1 s1 v1 n1 xs1) (h2 : W.heap[k]? = some (.cells cs T (0, 0))) (hne : e1 ≠ T) : wb.heap[k]? = some (.cells cs T (0, 0)) :=
  (hgb.block k (boxLt h2) (fun e => rowBoxNe h1 h2 hne e.symm)).trans h2
/-- A row beside a block of another type that was written. -/
theorem rowSet {w : World} {b1 e1 s1 n1 k T : Nat} {v1 : Value} {xs1 : List Value} {cs : Array Value} (h1 : w.ownsRow b1 e1 s1 v1 n1 xs1) (h2 : w.heap[k]? = some (.cells cs T (0, 0))) (hne : e1 ≠ T) (j : Nat) (u : Value) : (w.setCell ⟨k, j, none⟩ u).ownsRow b1 e1 s1 v1 n1 xs1 :=
  rowKeep h1 fun i hi => heap_setCell_other _ _ _ _ (by intro e; subst e; exact rowBoxNe h1 h2 hne hi)
/-- A row beside a block of another type that a call wrote. -/
theorem rowGrown {w w' : World} {b1 e1 s1 n1 k T : Nat} {v1 : Value} {xs1 : List Value} {cs : Array Value} (h1 : w.ownsRow b1 e1 s1 v1 n1 xs1) (h2 : w.heap[k]? = some (.cells cs T (0, 0))) (hne : e1 ≠ T) (hg : w.grownBy w' (some k)) : w'.ownsRow b1 e1 s1 v1 n1 xs1 :=
  rowKeep h1 fun i hi => hg.block i (h1.lt i hi).2 (by intro e; cases e; exact rowBoxNe h1 h2 hne hi)
theorem boxGrown {w w' : World} {k k' T T' : Nat} {cs cs' : Array Value} (h : w.heap[k']? = some (.cells cs' T' (0, 0))) (h2 : w.heap[k]? = some (.cells cs T (0, 0))) (hne : T' ≠ T) (hg : w.grownBy w' (some k)) : w'.heap[k']? = some (.cells cs' T' (0, 0)) :=
  (hg.block k' (boxLt h) (by intro e; cases e; exact boxNe h h2 hne rfl)).trans h
theorem belowGrown {B : Nat} {w wr : World} {r : Nat} (h : w.grownBy wr (some r)) (hB : B ≤ w.heap.size) (hr : B ≤ r) : Below B w wr :=
  ⟨h.os, h.tape, h.output, h.size, fun k hk => h.block k (by omega) (by simp; omega)⟩
theorem rowOld {w w' : World} {base e size n : Nat} {v : Value} {xs : List Value} (h : w.ownsRow base e size v n xs) (hb : Below w.heap.size w w') : w'.ownsRow base e size v n xs :=
  rowKeep h fun k hk => hb.block k (h.lt k hk).2

/-- As step_append_src_w; what was owned ahead of it is handed on. -/
theorem append_held {P : Program} {ops : Array Oper} {o : Oper} {a : Act} {w : World} {K : Act → World → Prop} {Q : Exit → Act → World → Prop} {E : Prop} (hw : Region.wanted o (yielded ops a.tmps) = true) (s x : Operand) (t : TypeId)
    (ho : o.op = .call { callee := .builtin .append, args := #[s, x], argTypes := #[t, t] })
    (base : Nat) (e : TypeId) (i : TypeInfo) (z : Value) (size bytes : Nat) (ht : P.underlying t = some (.slice e)) (hi : P.info? e = some i) (hz : i.zero = some z)
    (hsize : i.size = size) (hby : i.bytes = bytes) (hzs : z.cells.size = size) (hsz : 0 < size)
    (v : Value) (n : Nat) (xs : List Value) (hs : a.eval s = v) (hown : w.ownsRow base e size v n xs)
    (ad : Option Addr) (m c : Nat) (news : List Value) (hx : a.eval x = .slice ad m c) (hnil : ad = none → m = 0 ∧ c = 0) (hl : news.length = m * size) (hnews : ∀ ad', ad = some ad' → ∀ j u, news[j]? = some u → w.cell? (ad'.add j) = some u) (h1 : ∀ u ∈ news, u.oneCell' = true)
    (h63 : n + m ≤ maxLen) (hbytes : (n + m) * bytes ≤ 140737488355328) (hbase : base ≤ w.heap.size)
    (h : ∀ av cv w', Hid (w.ownsRow base e size v n xs) → Hid (w'.ownsRow base e size (.slice av (n + m) cv) (n + m) (xs ++ news)) → Hid (w.grownBy w' v.ownBlock) → K (a.put o.dst (.slice av (n + m) cv)) w') :
    if Region.wanted o (yielded ops a.tmps) = true then Oper.wp P o a w K Q else E :=
  step_append_src_w hw s x t ho base e i z size bytes ht hi hz hsize hby hzs hsz v n xs hs hown ad m c news hx hnil hl hnews h1 h63 hbytes hbase (fun av cv w' h2 h3 => h av cv w' hown h2 h3)
end Go.Proofs.YtlaeflpddehipabGreatDoor
