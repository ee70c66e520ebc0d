/- Rows and blocks of different types, one beside the other, when one of them is appended to; nets in the making. -/
import Derived.Test.YtlaeflpddehipabTwUse
import Derived.Test.YtlaeflpddehipabJoinsPlain
set_option linter.unusedVariables false
namespace Go.Proofs.Ytlaeflpddehipab
open Go.RowKit

/-- As step_append_src; what was owned ahead of it is handed on. -/
theorem step_append_held {P : Program} {ops : Array Oper} {o : Oper} {a : Act} {w : World} {K : Act → World → Prop} {Q : Exit → Act → World → Prop} {E : Prop} (hw : Region.wanted o (yielded ops a.tmps) = true) (s x : Operand) (t : TypeId)
    (ho : o.op = .call { callee := .builtin .append, args := #[s, x], argTypes := #[t, t] })
    (base : Nat) (e : TypeId) (i : TypeInfo) (z : Value) (size bytes : Nat) (ht : P.underlying t = some (.slice e)) (hi : P.info? e = some i) (hz : i.zero = some z)
    (hsize : i.size = size) (hby : i.bytes = bytes) (hzs : z.cells.size = size) (hsz : 0 < size)
    (v : Value) (n : Nat) (xs : List Value) (hs : a.eval s = v) (hown : w.ownsRow base e size v n xs)
    (ad : Option Addr) (m c : Nat) (news : List Value) (hx : a.eval x = .slice ad m c) (hnil : ad = none → m = 0 ∧ c = 0) (hl : news.length = m * size) (hnews : ∀ ad', ad = some ad' → ∀ j u, news[j]? = some u → w.cell? (ad'.add j) = some u) (h1 : ∀ u ∈ news, u.oneCell' = true)
    (h63 : n + m ≤ maxLen) (hbytes : (n + m) * bytes ≤ 140737488355328) (hbase : base ≤ w.heap.size)
    (h : ∀ av cv w', Hid (w.ownsRow base e size v n xs) → Hid (w'.ownsRow base e size (.slice av (n + m) cv) (n + m) (xs ++ news)) → Hid (w.grownBy w' v.ownBlock) → K (a.put o.dst (.slice av (n + m) cv)) w') :
    if Region.wanted o (yielded ops a.tmps) = true then Oper.wp P o a w K Q else E :=
  step_append_src_w hw s x t ho base e i z size bytes ht hi hz hsize hby hzs hsz v n xs hs hown ad m c news hx hnil hl hnews h1 h63 hbytes hbase (fun av cv w' h2 h3 => h av cv w' hown h2 h3)

/-- As wpList_push; the new block's number is spelled as the walk spells it. -/
theorem wpList_push_g {P : Program} {ops : Array Oper} {rest : List Oper} {o : Oper} {a : Act} {Q : Exit → Act → World → Prop} (W w0 wr : World) (g : Nat) (hg : wr.heap.size = g) (hgd : o.guard = none) (s x : Operand) (t : TypeId)
    (ho : o.op = .call { callee := .builtin .append, args := #[s, x], argTypes := #[t, t] })
    (e : TypeId) (i : TypeInfo) (z : Value) (size bytes : Nat) (ht : P.underlying t = some (.slice e)) (hi : P.info? e = some i) (hz : i.zero = some z)
    (hsize : i.size = size) (hby : i.bytes = bytes) (hzs : z.cells.size = size) (hsz : 0 < size)
    (base : Nat) (v : Value) (n : Nat) (xs : List Value) (hs : a.eval s = v) (hown : wr.ownsRow base e size v n xs)
    (m c : Nat) (cs : Array Value) (hW : W = wr.alloc (.cells cs e)) (hx : a.eval x = .slice (some ⟨g, 0, none⟩) m c) (hl : cs.size = m * size) (h1 : cs.toList.all Value.oneCell' = true)
    (h63 : n + m ≤ maxLen) (hbytes : (n + m) * bytes ≤ 140737488355328) (hbel : Below w0.heap.size w0 wr) (hbase : w0.heap.size ≤ base) (hbase' : base ≤ wr.heap.size)
    (h : ∀ v' w', w'.ownsRow base e size v' (n + m) (xs ++ cs.toList) → Below w0.heap.size w0 w' → wr.grownBy w' v.ownBlock → (v' = .slice none 0 0 ↔ v = .slice none 0 0 ∧ m = 0) → wpList P ops Q rest (a.put o.dst v') w') :
    wpList P ops Q (o :: rest) a W := by
  subst hg
  exact wpList_push W w0 wr hgd s x t ho e i z size bytes ht hi hz hsize hby hzs hsz base v n xs hs hown m c cs hW hx hl h1 h63 hbytes hbel hbase hbase' h

theorem own_ne {w : World} {b1 e1 s1 n1 b2 e2 s2 n2 : Nat} {v1 v2 : Value} {xs1 xs2 : List Value} (h1 : w.ownsRow b1 e1 s1 v1 n1 xs1) (h2 : w.ownsRow b2 e2 s2 v2 n2 xs2) (hne : e1 ≠ e2) (k : Nat) (hk : v2.ownBlock = some k) : v1.ownBlock ≠ some k := by
  intro hk'
  rcases h1.2 with ⟨rfl, _⟩ | ⟨g, cap, cur, rfl, _, hh, _⟩
  · simp [Value.ownBlock] at hk'
  · rcases h2.2 with ⟨rfl, _⟩ | ⟨g', cap', cur', rfl, _, hh', _⟩
    · simp [Value.ownBlock] at hk
    · simp only [Value.ownBlock, Option.some.injEq] at hk hk'
      subst hk'
      subst hk
      rw [hh] at hh'
      cases hh'
      exact hne rfl
theorem box_ne {w : World} {b1 e1 s1 n1 k T : Nat} {v1 : Value} {xs1 : List Value} {cs : Array Value} (h1 : w.ownsRow b1 e1 s1 v1 n1 xs1) (h2 : w.heap[k]? = some (.cells cs T (0, 0))) (hne : e1 ≠ T) : v1.ownBlock ≠ some k := by
  intro hk'
  rcases h1.2 with ⟨rfl, _⟩ | ⟨g, cap, cur, rfl, _, hh, _⟩
  · simp [Value.ownBlock] at hk'
  · simp only [Value.ownBlock, Option.some.injEq] at hk'
    subst hk'
    rw [hh] at h2
    cases h2
    exact hne rfl

theorem cross_row {W wb : World} {b1 e1 s1 n1 b2 e2 s2 n2 : Nat} {v1 v2 : Value} {xs1 xs2 : List Value} (hgb : W.grownBy wb v1.ownBlock) (h1 : W.ownsRow b1 e1 s1 v1 n1 xs1) (h2 : W.ownsRow b2 e2 s2 v2 n2 xs2) (hne : e1 ≠ e2) : wb.ownsRow b2 e2 s2 v2 n2 xs2 :=
  owns_keep h2 fun k hk => hgb.block k (h2.lt k hk).2 (fun e => own_ne h1 h2 hne k hk e.symm)
theorem lt_of_block {w : World} {k : Nat} {o : Obj} (h : w.heap[k]? = some o) : k < w.heap.size := by
  rcases Nat.lt_or_ge k w.heap.size with h' | h'
  · exact h'
  · rw [Array.getElem?_eq_none h'] at h; cases h
theorem cross_box {W wb : World} {b1 e1 s1 n1 k T : Nat} {v1 : Value} {xs1 : List Value} {cs : Array Value} (hgb : W.grownBy wb v1.ownBlock) (h1 : W.ownsRow b1 e1 s1 v1 n1 xs1) (h2 : W.heap[k]? = some (.cells cs T (0, 0))) (hne : e1 ≠ T) : wb.heap[k]? = some (.cells cs T (0, 0)) :=
  (hgb.block k (lt_of_block h2) (fun e => box_ne h1 h2 hne e.symm)).trans h2
theorem cross_below {B : Nat} {w W wb : World} {e1 s1 n1 : Nat} {v1 : Value} {xs1 : List Value} (hgb : W.grownBy wb v1.ownBlock) (h1 : W.ownsRow B e1 s1 v1 n1 xs1) (hb : Below B w W) (hB : B ≤ W.heap.size) : Below B w wb :=
  hb.grown hgb hB (fun k hk => (h1.lt k hk).1)

theorem empty_g {B : Nat} (w : World) (e size g : Nat) (hg : w.heap.size = g) (hB : B ≤ w.heap.size) : (w.alloc (.cells #[] e)).ownsRow B e size (.slice (some ⟨g, 0, none⟩) 0 0) 0 [] := by
  subst hg
  exact ownsRow_base (World.ownsRow_lit w #[] 0 (Nat.le_refl _) (Nat.zero_le _) (by simp)) hB
theorem box_top (w : World) (cs : Array Value) (T : Nat) : (w.alloc (.cells cs T)).heap[w.heap.size]? = some (.cells cs T (0, 0)) := alloc_at _ _
theorem box_under {w : World} {k : Nat} {o : Obj} (o' : Obj) (h : w.heap[k]? = some o) : (w.alloc o').heap[k]? = some o := (Below.heap_alloc _ _ _ (lt_of_block h)).trans h
theorem box_drew {w : World} {k : Nat} {o : Obj} (h : w.heap[k]? = some o) : w.drew.heap[k]? = some o := h

theorem nodeVals_app1 (L : List GN) (x : GN) : nodeVals (L ++ [x]) = nodeVals L ++ x.cells.toList := by
  apply List.ext_getElem?
  intro j
  by_cases h1 : j < L.length * 4
  · rw [List.getElem?_append_left (by rw [nodeVals_len]; exact h1), nodeVals_get _ _ h1, nodeVals_get _ _ (by simp; omega)]
    have : j / 4 < L.length := by omega
    simp [nodeCell, List.getD_eq_getElem?_getD, List.getElem?_append_left this]
  · rw [List.getElem?_append_right (by rw [nodeVals_len]; omega), nodeVals_len]
    by_cases h2 : j < L.length * 4 + 4
    · rw [nodeVals_get _ _ (by simp; omega)]
      obtain ⟨k, hk⟩ : ∃ k, j = L.length * 4 + k := ⟨j - L.length * 4, by omega⟩
      have hk8 : k < 4 := by omega
      subst hk
      rw [Nat.add_sub_cancel_left]
      have e1 : (L.length * 4 + k) / 4 = L.length := by omega
      have e2 : (L.length * 4 + k) % 4 = k := by omega
      unfold nodeCell
      rw [e1, e2]
      have e3 : (L ++ [x]).getD L.length GN.zero = x := by simp [List.getD_eq_getElem?_getD]
      rw [e3]
      match k, hk8 with
      | 0, _ => rfl
      | 1, _ => rfl
      | 2, _ => rfl
      | 3, _ => rfl
    · rw [List.getElem?_eq_none (by rw [nodeVals_len]; simp; omega), List.getElem?_eq_none (by simp [GN.cells]; omega)]

theorem map_take_succ {α β : Type} [Inhabited α] (l : List α) (f : α → β) (d : α) {i : Nat} (h : i < l.length) : (l.take (i + 1)).map f = (l.take i).map f ++ [f (l.getD i d)] := by
  rw [List.take_succ_eq_append_getElem h, List.map_append]
  simp [List.getD_eq_getElem?_getD, h]

theorem le_alloc {n : Nat} {w : World} (h : n ≤ w.heap.size) (o : Obj) : n ≤ (w.alloc o).heap.size := by
  rw [World.size_alloc]; omega

theorem le_drew {n : Nat} {w : World} (h : n ≤ w.heap.size) : n ≤ w.drew.heap.size := h
theorem own_wrapped {w : World} {b e s n : Nat} {v : Value} {xs : List Value} {z : Int} (h : w.ownsRow b e s v n (xs ++ [.int .i64 (IntKind.i64.wrap z)])) (h0 : 0 ≤ z) (h1 : z < 9223372036854775808) : w.ownsRow b e s v n (xs ++ [.int .i64 z]) := by
  rw [wrap_low z h0 h1] at h
  exact h

/-- A net in the making, out of its parts. -/
theorem TwAt.of {w3 wx : World} {N : Net} {bm : Nat} {L : List GN} {O : List Int} {ad ao : Option Addr} {cn co : Nat} (hbm : w3.heap.size ≤ bm) (hm : wx.heap[bm]? = some (.cells #[.int .i64 N.given, .slice ad L.length cn, .slice ao O.length co] 51 (0, 0)))
    (hN : wx.ownsRow w3.heap.size 48 4 (.slice ad L.length cn) L.length (nodeVals L)) (hO : wx.ownsRow w3.heap.size 3 1 (.slice ao O.length co) O.length (O.map (.int .i64))) (hb : Below w3.heap.size w3 wx) : TwAt w3 N bm L O wx :=
  ⟨ad, cn, ao, co, hbm, hm, hN, hO, owns_apart hN hm (by decide), owns_apart hO hm (by decide), owns_apart2 hN hO (by decide), hb⟩

theorem TwAt.bway1 {w3 wb : World} {N : Net} {L : List GN} {O : List Int} {ad ao : Option Addr} {cn co : Nat} (hN : wb.ownsRow w3.heap.size 48 4 (.slice ad (0 + L.length) cn) (0 + L.length) ([] ++ nodeVals L))
    (hO : wb.ownsRow w3.heap.size 3 1 (.slice ao (0 + O.length) co) (0 + O.length) ([] ++ O.map (.int .i64))) (hb : Below w3.heap.size w3 wb) :
    TwAt w3 N wb.heap.size L O (wb.alloc (.cells #[.int .i64 N.given, .slice ad L.length cn, .slice ao O.length co] 51)) := by
  simp only [Nat.zero_add, List.nil_append] at hN hO
  exact TwAt.of hb.size (alloc_at _ _) (hN.alloc _) (hO.alloc _) (hb.alloc hb.size _)
theorem own_not {w : World} {b1 e1 s1 n1 k T : Nat} {v1 : Value} {xs1 : List Value} {cs : Array Value} (h1 : w.ownsRow b1 e1 s1 v1 n1 xs1) (h2 : w.heap[k]? = some (.cells cs T (0, 0))) (hne : e1 ≠ T) (j : Nat) (u : Value) : (w.setCell ⟨k, j, none⟩ u).ownsRow b1 e1 s1 v1 n1 xs1 :=
  owns_keep h1 fun i hi => heap_setCell_other _ _ _ _ (by intro e; subst e; exact box_ne h1 h2 hne hi)
theorem TwAt.bway2 {w3 wb : World} {N : Net} {bm : Nat} {L : List GN} {O : List Int} {ad ao : Option Addr} {cn co : Nat} (hN : wb.ownsRow w3.heap.size 48 4 (.slice ad (0 + L.length) cn) (0 + L.length) ([] ++ nodeVals L))
    (hO : wb.ownsRow w3.heap.size 3 1 (.slice ao (0 + O.length) co) (0 + O.length) ([] ++ O.map (.int .i64))) (hb : Below w3.heap.size w3 wb) (hbm : w3.heap.size ≤ bm)
    (hm : wb.heap[bm]? = some (.cells #[.int .i64 0, .slice none 0 0, .slice none 0 0] 51 (0, 0))) :
    TwAt w3 N bm L O (((wb.setCell ⟨bm, 0, none⟩ (.int .i64 N.given)).setCell ⟨bm, 1, none⟩ (.slice ad L.length cn)).setCell ⟨bm, 2, none⟩ (.slice ao O.length co)) := by
  simp only [Nat.zero_add, List.nil_append] at hN hO
  have h1 := set_box hm 0 (.int .i64 N.given)
  have h2 := set_box h1 1 (.slice ad L.length cn)
  have h3 := set_box h2 2 (.slice ao O.length co)
  exact TwAt.of hbm h3 (own_not (own_not (own_not hN hm (by decide) _ _) h1 (by decide) _ _) h2 (by decide) _ _) (own_not (own_not (own_not hO hm (by decide) _ _) h1 (by decide) _ _) h2 (by decide) _ _) (((hb.setCell hbm _).setCell hbm _).setCell hbm _)

/-- The count of bits given is set. -/
theorem TwAt.setGiven {w3 wx : World} {N N' : Net} {bm : Nat} {L : List GN} {O : List Int} (h : TwAt w3 N bm L O wx) : TwAt w3 N' bm L O (wx.setCell ⟨bm, 0, none⟩ (.int .i64 N'.given)) := by
  obtain ⟨ad, cn, ao, co, hbm, hm, hN, hO, _, _, _, hb⟩ := h
  exact TwAt.of hbm (set_box hm 0 _) (own_not hN hm (by decide) _ _) (own_not hO hm (by decide) _ _) (hb.setCell hbm _)

/-- One node more. -/
theorem TwAt.addN1 {w3 wb : World} {N : Net} {bm : Nat} {L : List GN} {O : List Int} {x : GN} {ad ao av : Option Addr} {cn co cv : Nat}
    (hbm : w3.heap.size ≤ bm) (hm : wb.heap[bm]? = some (.cells #[.int .i64 N.given, .slice ad L.length cn, .slice ao O.length co] 51 (0, 0)))
    (hN : wb.ownsRow w3.heap.size 48 4 (.slice av (L.length + 1) cv) (L.length + 1) (nodeVals L ++ x.cells.toList))
    (hO : wb.ownsRow w3.heap.size 3 1 (.slice ao O.length co) O.length (O.map (.int .i64))) (hb : Below w3.heap.size w3 wb) :
    TwAt w3 N bm (L ++ [x]) O (wb.setCell ⟨bm, 1, none⟩ (.slice av (L.length + 1) cv)) := by
  rw [← nodeVals_app1] at hN
  have e : (L ++ [x]).length = L.length + 1 := by simp
  rw [← e] at hN ⊢
  exact TwAt.of hbm (by rw [set_box hm 1]; simp) (own_not hN hm (by decide) _ _) (own_not hO hm (by decide) _ _) (hb.setCell hbm _)

theorem ints_one (l : List Int) : ∀ u ∈ l.map (Value.int .i64), u.oneCell' = true := by
  intro u hu
  obtain ⟨b, _, rfl⟩ := List.mem_map.1 hu
  rfl
theorem boxes3 (w : World) (x y z : Array Value) (T : Nat) : ((((w.alloc (.cells x T)).alloc (.cells y T)).alloc (.cells z T)).heap[w.heap.size]? = some (.cells x T (0, 0)) ∧ (((w.alloc (.cells x T)).alloc (.cells y T)).alloc (.cells z T)).heap[w.heap.size + 1]? = some (.cells y T (0, 0)) ∧
    (((w.alloc (.cells x T)).alloc (.cells y T)).alloc (.cells z T)).heap[w.heap.size + 2]? = some (.cells z T (0, 0))) ∧ (((w.alloc (.cells x T)).alloc (.cells y T)).alloc (.cells z T)).heap.size = w.heap.size + 3 ∧ Below w.heap.size w (((w.alloc (.cells x T)).alloc (.cells y T)).alloc (.cells z T)) := by
  refine ⟨⟨?_, ?_, ?_⟩, by simp, (((Below.refl _ _).alloc (Nat.le_refl _) _).alloc (by simp) _).alloc (by simp; omega) _⟩
  · exact box_under _ (box_under _ (box_top _ _ _))
  · have h := box_top (w.alloc (.cells x T)) y T
    rw [World.size_alloc] at h
    exact box_under _ h
  · have h := box_top ((w.alloc (.cells x T)).alloc (.cells y T)) z T
    simp only [World.size_alloc] at h
    exact h

/-- What is made, as a value: its rows. -/
theorem TwAt.rows {w3 wx : World} {N J : Net} {bm : Nat} (hg : J.given = N.given) (h : TwAt w3 N bm J.nodes J.outs wx) (hl : J.nodes.length ≤ maxLen) (hlo : J.outs.length ≤ maxLen) :
    ∃ ad cn ao co, wx.heap[bm]? = some (.cells (netVal ad cn ao co J) 51 (0, 0)) ∧ NetRows wx.heap.size wx ad cn ao co J ∧ (ad = none → J.nodes.length = 0 ∧ cn = 0) ∧ (ao = none → J.outs.length = 0 ∧ co = 0) := by
  obtain ⟨ad, cn, ao, co, hbm, hm, hN, hO, hd1, hd2, hd3, hbe⟩ := h
  obtain ⟨a1, c1, e1, _, _, hc1⟩ := Cells.of_owns hN
  obtain ⟨a2, c2, e2, _, _, hc2⟩ := Cells.of_owns hO
  cases e1
  cases e2
  refine ⟨ad, cn, ao, co, by rw [hm]; unfold netVal; rw [hg], ⟨hc1.congr fun j hj => ?_, ?_, hl, hlo⟩, ?_, ?_⟩
  · rw [List.getD_eq_getElem?_getD, nodeVals_get _ _ hj]
    rfl
  · have hc2' := hc2
    rw [Nat.mul_one] at hc2'
    exact hc2'.congr fun j hj => by
      simp only [List.getD_eq_getElem?_getD, List.getElem?_map]
      rw [List.getElem?_eq_getElem hj]
      rfl
  · rintro rfl
    rcases hN.2 with ⟨h, h0⟩ | ⟨g, cap, cur, h, _⟩
    · simp only [Value.slice.injEq, true_and] at h; exact h
    · cases h
  · rintro rfl
    rcases hO.2 with ⟨h, h0⟩ | ⟨g, cap, cur, h, _⟩
    · simp only [Value.slice.injEq, true_and] at h; exact h
    · cases h
/-- What is made, handed back in block r, which lies below. -/
theorem TwAt.back {w w3 wx : World} {N J : Net} {bm r : Nat} (hg : J.given = N.given) (h : TwAt w3 N bm J.nodes J.outs wx) (hl : J.nodes.length ≤ maxLen) (hlo : J.outs.length ≤ maxLen) (hw : Below w.heap.size w w3) (hr : w.heap.size ≤ r) (hr3 : r < w3.heap.size) {cs : Array Value} (hbr : w3.heap[r]? = some (.cells cs 51 (0, 0))) (hcs : cs.size = 3) :
    ∃ ad cn ao co, wx.heap[bm]? = some (.cells #[.int .i64 J.given, .slice ad J.nodes.length cn, .slice ao J.outs.length co] 51 (0, 0)) ∧ wx.heap[r]? = some (.cells cs 51 (0, 0)) ∧ bm < wx.heap.size ∧
      (∀ w' : World, (∀ k, k ≠ r → w'.heap[k]? = wx.heap[k]?) → w'.os = wx.os → w'.tape = wx.tape → w'.output = wx.output → w'.heap.size = wx.heap.size → NetRows w'.heap.size w' ad cn ao co J ∧ (ad = none → J.nodes.length = 0 ∧ cn = 0) ∧ (ao = none → J.outs.length = 0 ∧ co = 0) ∧ Below w.heap.size w w') := by
  obtain ⟨ad, cn, ao, co, hbm, hm, hN, hO, hd1, hd2, hd3, hbe⟩ := h
  refine ⟨ad, cn, ao, co, by rw [hg]; exact hm, (hbe.block r hr3).trans hbr, lt_of_block hm, fun w' hk h1 h2 h3 hsz => ?_⟩
  have hN' : w'.ownsRow w3.heap.size 48 4 (.slice ad J.nodes.length cn) J.nodes.length (nodeVals J.nodes) := owns_keep hN fun k hk' => hk k (by have := (hN.lt k hk').1; omega)
  have hO' : w'.ownsRow w3.heap.size 3 1 (.slice ao J.outs.length co) J.outs.length (J.outs.map (.int .i64)) := owns_keep hO fun k hk' => hk k (by have := (hO.lt k hk').1; omega)
  obtain ⟨a1, c1, e1, _, _, hc1⟩ := Cells.of_owns hN'
  obtain ⟨a2, c2, e2, _, _, hc2⟩ := Cells.of_owns hO'
  cases e1
  cases e2
  refine ⟨⟨hc1.congr fun j hj => ?_, ?_, hl, hlo⟩, ?_, ?_, ?_⟩
  · rw [List.getD_eq_getElem?_getD, nodeVals_get _ _ hj]
    rfl
  · have hc2' := hc2
    rw [Nat.mul_one] at hc2'
    exact hc2'.congr fun j hj => by
      simp only [List.getD_eq_getElem?_getD, List.getElem?_map]
      rw [List.getElem?_eq_getElem hj]
      rfl
  · rintro rfl
    rcases hN.2 with ⟨h, h0⟩ | ⟨g, cap, cur, h, _⟩
    · simp only [Value.slice.injEq, true_and] at h; exact h
    · cases h
  · rintro rfl
    rcases hO.2 with ⟨h, h0⟩ | ⟨g, cap, cur, h, _⟩
    · simp only [Value.slice.injEq, true_and] at h; exact h
    · cases h
  · have hb := hw.trans (hbe.mono hw.size)
    exact ⟨h1.trans hb.os, h2.trans hb.tape, h3.trans hb.output, by rw [hsz]; exact hb.size, fun k hk' => (hk k (by omega)).trans (hb.block k hk')⟩

theorem set3_same (w : World) (r : Nat) (x y z : Value) : let w' := ((w.setCell ⟨r, 0, none⟩ x).setCell ⟨r, 1, none⟩ y).setCell ⟨r, 2, none⟩ z
    (∀ k, k ≠ r → w'.heap[k]? = w.heap[k]?) ∧ w'.os = w.os ∧ w'.tape = w.tape ∧ w'.output = w.output ∧ w'.heap.size = w.heap.size := by
  refine ⟨fun k hk => ?_, rfl, rfl, rfl, by simp [World.setCell]⟩
  rw [heap_setCell_other _ _ _ _ hk, heap_setCell_other _ _ _ _ hk, heap_setCell_other _ _ _ _ hk]
end Go.Proofs.Ytlaeflpddehipab
