/- 'append(out, src...)' where out is the call's own; rows of bits. -/
import Derived.Test.YtlaeflpddehipabBesideMem
import Derived.Test.YtlaeflpddehipabTwUse
set_option linter.unusedVariables false
namespace Go.Proofs.Ytlaeflpddehipab
open Go.RowKit

/-- 'append(out, src...)': out is the call's own, src whatever slice whose cells are known (nil too). -/
theorem wpSrc {P : Program} {ops : Array Oper} {rest : List Oper} {o : Oper} {a : Act} {Q : Exit → Act → World → Prop} (w : World) (hgd : o.guard = none) (s x : Operand) (t : TypeId)
    (ho : o.op = .call { callee := .builtin .append, args := #[s, x], argTypes := #[t, t] })
    (base : Nat) (e : TypeId) (i : TypeInfo) (z : Value) (size bytes : Nat) (ht : P.underlying t = some (.slice e)) (hi : P.info? e = some i) (hz : i.zero = some z)
    (hsize : i.size = size) (hby : i.bytes = bytes) (hzs : z.cells.size = size) (hsz : 0 < size)
    (v : Value) (n : Nat) (xs : List Value) (hs : a.eval s = v) (hown : w.ownsRow base e size v n xs)
    (ad : Option Addr) (m c : Nat) (news : List Value) (hx : a.eval x = .slice ad m c) (hnil : ad = none → m = 0 ∧ c = 0) (hl : news.length = m * size) (hnews : ∀ ad', ad = some ad' → ∀ j u, news[j]? = some u → w.cell? (ad'.add j) = some u) (h1 : ∀ u ∈ news, u.oneCell' = true)
    (h63 : n + m ≤ maxLen) (hbytes : (n + m) * bytes ≤ 140737488355328) (hbase : base ≤ w.heap.size)
    (h : ∀ av cv w', Hid (w.ownsRow base e size v n xs) → Hid (w'.ownsRow base e size (.slice av (n + m) cv) (n + m) (xs ++ news)) → Hid (w.grownBy w' v.ownBlock) → wpList P ops Q rest (a.put o.dst (.slice av (n + m) cv)) w') : wpList P ops Q (o :: rest) a w := by
  cases ad with
  | none =>
    obtain ⟨rfl, rfl⟩ := hnil rfl
    have hn : news = [] := List.eq_nil_of_length_eq_zero (by simpa using hl)
    subst hn
    refine wpList_append_own_none hgd s x t ho base e i size ht hi v n xs hs hown hx ?_
    have h' := hown
    obtain ⟨av, cv, rfl⟩ := owns_slice hown
    exact h av cv w h' (by simpa [Hid] using h') ⟨rfl, rfl, rfl, Nat.le_refl _, fun _ _ _ => rfl⟩
  | some ad' =>
    exact wpList_append_own _ hgd s x t ho base e i z size bytes ht hi hz hsize hby hzs hsz v n xs hs hown ad' m c news hx hl (hnews ad' rfl) h1 h63 hbytes hbase fun v' w' h2 h3 _ => (by
      obtain ⟨av, cv, rfl⟩ := owns_slice h2
      exact h av cv w' hown h2 h3)

theorem ownsNil {w : World} {base e size n c : Nat} {a : Option Addr} {xs : List Value} (h : w.ownsRow base e size (.slice a n c) n xs) : a = none → n = 0 ∧ c = 0 := by
  rintro rfl
  rcases h.2 with ⟨h0, h1⟩ | ⟨g, cap, cur, h0, _⟩
  · simp only [Value.slice.injEq, true_and] at h0; exact ⟨h1, h0.2⟩
  · cases h0
theorem ownsNews {w w' : World} {base n c : Nat} {a : Option Addr} {l : List Bool} (h : w.ownsRow base 4 1 (.slice a n c) n (l.map .bool)) (hb : ∀ k, w.heap[k]? ≠ none → a.map Addr.block = some k → w'.heap[k]? = w.heap[k]?) :
    ∀ ad', a = some ad' → ∀ j u, (l.map Value.bool)[j]? = some u → w'.cell? (ad'.add j) = some u := by
  rintro ad' rfl j u hj
  have hl := owns_len h
  rw [List.length_map] at hl
  have hc := (bits_cells h).news (xs := l.map Value.bool) (by simpa using hl) (fun j hj => by simp [List.getD_eq_getElem?_getD, hl, hj]) j u hj
  rw [← hc]
  refine World.cell?_of_block ?_
  have hbl : (ad'.add j).block = ad'.block := by unfold Addr.add; split <;> rfl
  rw [hbl]
  refine hb _ ?_ rfl
  rcases h.2 with ⟨h0, h1⟩ | ⟨g, cap, cur, h0, _, h2, _⟩
  · cases h0
  · simp only [Value.slice.injEq, Option.some.injEq] at h0
    obtain ⟨rfl, _⟩ := h0
    rw [h2]
    simp

theorem bitsNews2 {B : Nat} {W : World} {a : Option Addr} {n : Nat} {l : List Bool} (h : Cells B W a n (fun j => .bool (l.getD j false))) (hl : l.length = n) :
    ∀ ad', a = some ad' → ∀ j u, (l.map Value.bool)[j]? = some u → W.cell? (ad'.add j) = some u := by
  rintro ad' rfl
  exact h.news (by simpa using hl) (fun j hj => by simp [List.getD_eq_getElem?_getD, hl, hj])
theorem lsBase0 {w : World} {base base' e size n : Nat} {v : Value} {xs : List Value} (h : w.ownsRow base e size v n xs) (hb : base' ≤ base) : w.ownsRow base' e size v n xs := by
  obtain ⟨h1, h2⟩ := h
  refine ⟨h1, ?_⟩
  rcases h2 with h2 | ⟨g, cap, cur, hv, hg, h3⟩
  · exact .inl h2
  · exact .inr ⟨g, cap, cur, hv, Nat.le_trans hb hg, h3⟩
theorem bitRow {w : World} {base n : Nat} {v : Value} {l : List Bool} (h : w.ownsRow base 4 1 v n (l.map .bool)) : ∃ a c, v = .slice a n c ∧ Cells w.heap.size w a n (fun j => .bool (l.getD j false)) := by
  obtain ⟨a, c, rfl, _, _, hc⟩ := Cells.of_owns h
  exact ⟨a, c, rfl, bits_cells h⟩
theorem bitSnoc {w : World} {base k : Nat} {v : Value} {l l' : List Bool} {b : Bool} (h : w.ownsRow base 4 1 v (k + 1) (l.map .bool ++ #[Value.bool b].toList)) (e : l' = l ++ [b]) : w.ownsRow base 4 1 v (k + 1) (l'.map .bool) := by
  rw [e, List.map_append]
  exact h
theorem bitTake {w : World} {base j : Nat} {v : Value} {l : List Bool} {b : Bool} (h : w.ownsRow base 4 1 v (j + 1) ((l.map Value.bool).take j ++ [Value.bool b])) (e : l.take (j + 1) = l.take j ++ [b]) : w.ownsRow base 4 1 v (j + 1) ((l.take (j + 1)).map .bool) := by
  rw [e, List.map_append, List.map_take]
  exact h
theorem srcLe {n : Nat} {w : World} (h : n ≤ w.heap.size) (o : Obj) : n ≤ (w.alloc o).heap.size := by simp; omega
theorem take_snoc {α : Type} (l : List α) (k : Nat) (z : α) (h : k < l.length) : l.take (k + 1) = l.take k ++ [l.getD k z] := by
  rw [List.take_succ_eq_append_getElem h]
  simp [List.getD_eq_getElem?_getD, h]

end Go.Proofs.Ytlaeflpddehipab
