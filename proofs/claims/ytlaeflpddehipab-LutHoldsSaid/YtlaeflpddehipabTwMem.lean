/- Nets in the making: rows of nodes, blocks, what stays. -/
import Derived.Test.YtlaeflpddehipabTwBase
import Derived.Test.YtlaeflpddehipabEqual
import Derived.Test.YtlaeflpddehipabTwicePlain
import Derived.Test.YtlaeflpddehipabBits
import Derived.Deep.DeepCutAuto
import Derived.Deep.RegionLaw
set_option linter.unusedVariables false
namespace Go.Proofs.Ytlaeflpddehipab
open Go.RowKit
attribute [local go_sem ↓] Go.wp_at_zero Go.wp_at_succ

theorem Try.infoNode : (Try.prog.info? 48).map (fun i => (i.zero, i.size, i.bytes)) = some (some (.agg #[.int .i64 0, .int .i64 0, .int .i64 0, .int .i64 0]), 4, 32) := by kernel_rfl
theorem Try.infoInt : (Try.prog.info? 3).map (fun i => (i.zero, i.size, i.bytes)) = some (some (.int .i64 0), 1, 8) := by kernel_rfl

/-- The cells of nodes, one behind the other. -/
def nodeVals (l : List GN) : List Value := (List.range (l.length * 4)).map (nodeCell l)
theorem nodeVals_len (l : List GN) : (nodeVals l).length = l.length * 4 := by simp [nodeVals]
theorem nodeVals_one (l : List GN) : ∀ u ∈ nodeVals l, u.oneCell' = true := by
  intro u hu
  obtain ⟨j, _, rfl⟩ := List.mem_map.1 hu
  unfold nodeCell GN.cell
  split <;> rfl
theorem nodeVals_get (l : List GN) (j : Nat) (hj : j < l.length * 4) : (nodeVals l)[j]? = some (nodeCell l j) := by simp [nodeVals, hj]

theorem keep2 {w3 w' : World} {b0 : Nat} {x y : Value} (hlt : b0 < w3.heap.size) (h0 : w3.cell? ⟨b0, 0, none⟩ = some x) (h1 : w3.cell? ⟨b0, 1, none⟩ = some y) (h : Below w3.heap.size w3 w') :
    w'.cell? ⟨b0, 0, none⟩ = some x ∧ w'.cell? ⟨b0, 1, none⟩ = some y ∧ Below w3.heap.size w3 w' :=
  ⟨(h.cell (p := ⟨b0, 0, none⟩) hlt).trans h0, (h.cell (p := ⟨b0, 1, none⟩) hlt).trans h1, h⟩

/-- A net in the making: its nodes and its outs lie in rows of their own. -/
def TwAt (w3 : World) (N : Net) (bm : Nat) (nodes : List GN) (outs : List Int) (wx : World) : Prop :=
  ∃ ad cn ao co, w3.heap.size ≤ bm ∧ wx.heap[bm]? = some (.cells #[.int .i64 N.given, .slice ad nodes.length cn, .slice ao outs.length co] 51 (0, 0)) ∧
    wx.ownsRow w3.heap.size 48 4 (.slice ad nodes.length cn) nodes.length (nodeVals nodes) ∧ wx.ownsRow w3.heap.size 3 1 (.slice ao outs.length co) outs.length (outs.map (.int .i64)) ∧
    (∀ g, ad = some g → g.block ≠ bm) ∧ (∀ g, ao = some g → g.block ≠ bm) ∧ (∀ g g', ad = some g → ao = some g' → g.block ≠ g'.block) ∧ Below w3.heap.size w3 wx

theorem owns_keep {w w' : World} {base e size n : Nat} {v : Value} {xs : List Value} (h : w.ownsRow base e size v n xs) (hk : ∀ k, v.ownBlock = some k → w'.heap[k]? = w.heap[k]?) : w'.ownsRow base e size v n xs := by
  obtain ⟨hl, h⟩ := h
  rcases h with h | ⟨g, cap, cur, rfl, h1, h2, h3⟩
  · exact ⟨hl, .inl h⟩
  · exact ⟨hl, .inr ⟨g, cap, cur, rfl, h1, (hk g rfl).trans h2, h3⟩⟩
/-- A row of one type does not lie in a block of another. -/
theorem owns_apart {w : World} {base e size n m c b T : Nat} {ad : Option Addr} {xs : List Value} {cs : Array Value} (h : w.ownsRow base e size (.slice ad m c) n xs) (hb : w.heap[b]? = some (.cells cs T (0, 0))) (hne : e ≠ T) : ∀ g, ad = some g → g.block ≠ b := by
  rintro g rfl e'
  rcases h.2 with ⟨h, _⟩ | ⟨g', cap, cur, h, _, h2, _⟩
  · cases h
  · cases h
    rw [← e', h2] at hb
    cases hb
    exact hne rfl
theorem owns_apart2 {w : World} {base e size n m c base' e' size' n' m' c' : Nat} {ad ad' : Option Addr} {xs xs' : List Value} (h : w.ownsRow base e size (.slice ad m c) n xs) (h' : w.ownsRow base' e' size' (.slice ad' m' c') n' xs') (hne : e ≠ e') :
    ∀ g g', ad = some g → ad' = some g' → g.block ≠ g'.block := by
  rintro g g' rfl rfl
  rcases h'.2 with ⟨h1, _⟩ | ⟨g1, cap, cur, h1, _, h2, _⟩
  · cases h1
  · cases h1
    exact owns_apart h h2 hne g rfl
theorem set_box {w : World} {b : Nat} {cs : Array Value} {T : Nat} (h : w.heap[b]? = some (.cells cs T (0, 0))) (j : Nat) (v : Value) : (w.setCell ⟨b, j, none⟩ v).heap[b]? = some (.cells (cs.setIfInBounds j v) T (0, 0)) := by
  simp only [World.setCell, Array.getElem?_modify, if_true, h]
  rfl
theorem TwAt.begin {w3 wx : World} {N : Net} {bm : Nat} {ad : Option Addr} {cn : Nat} (hbm : w3.heap.size ≤ bm) (hm : wx.heap[bm]? = some (.cells #[.int .i64 N.given, .slice ad N.nodes.length cn, .slice none 0 0] 51 (0, 0)))
    (ho : wx.ownsRow w3.heap.size 48 4 (.slice ad (0 + N.nodes.length) cn) (0 + N.nodes.length) ([] ++ nodeVals N.nodes)) (hb : Below w3.heap.size w3 wx) : TwAt w3 N bm N.nodes [] wx := by
  have ho' : wx.ownsRow w3.heap.size 48 4 (.slice ad N.nodes.length cn) N.nodes.length (nodeVals N.nodes) := by simpa using ho
  exact ⟨ad, cn, none, 0, hbm, hm, ho', ⟨rfl, .inl ⟨rfl, rfl⟩⟩, owns_apart ho' hm (by decide), (fun g h => by cases h), (fun g g' _ h => by cases h), hb⟩
theorem TwAt.way1 {w3 wb : World} {N : Net} {av : Option Addr} {cv : Nat} (ho : Hid (wb.ownsRow w3.heap.size 48 4 (.slice av (0 + N.nodes.length) cv) (0 + N.nodes.length) ([] ++ nodeVals N.nodes))) (hb : Below w3.heap.size w3 wb) :
    TwAt w3 N wb.heap.size N.nodes [] (wb.alloc (.cells #[.int .i64 N.given, .slice av N.nodes.length cv, .slice none 0 0] 51)) :=
  TwAt.begin hb.size (alloc_at _ _) (ho.out.alloc _) (hb.alloc hb.size _)
theorem TwAt.way2 {w3 wb : World} {N : Net} {bm : Nat} {av : Option Addr} {cv : Nat} (ho : Hid (wb.ownsRow w3.heap.size 48 4 (.slice av (0 + N.nodes.length) cv) (0 + N.nodes.length) ([] ++ nodeVals N.nodes))) (hb : Below w3.heap.size w3 wb) (hbm : w3.heap.size ≤ bm)
    (hm : Hid (wb.heap[bm]? = some (.cells #[.int .i64 0, .slice none 0 0, .slice none 0 0] 51 (0, 0)))) :
    TwAt w3 N bm N.nodes [] (((wb.setCell ⟨bm, 0, none⟩ (.int .i64 N.given)).setCell ⟨bm, 1, none⟩ (.slice av N.nodes.length cv)).setCell ⟨bm, 2, none⟩ (.slice none 0 0)) := by
  have hne := owns_apart ho.out hm.out (by decide)
  refine TwAt.begin hbm (set_box (set_box (set_box hm.out 0 _) 1 _) 2 _) (owns_keep ho.out fun k hk => ?_) (((hb.setCell hbm _).setCell hbm _).setCell hbm _)
  have : k ≠ bm := by
    cases av with
    | none => simp [Value.ownBlock] at hk
    | some g => have := hne g rfl; simp [Value.ownBlock] at hk; omega
  rw [heap_setCell_other _ _ _ _ (by exact this), heap_setCell_other _ _ _ _ (by exact this), heap_setCell_other _ _ _ _ (by exact this)]

theorem grown_box {w wb : World} {v : Value} (h : Hid (w.grownBy wb v.ownBlock)) (k : Nat) (o : Obj) (hne : v.ownBlock ≠ some k) (hk : w.heap[k]? = some o) : wb.heap[k]? = some o := by
  have hlt : k < w.heap.size := by
    rcases Nat.lt_or_ge k w.heap.size with h' | h'
    · exact h'
    · rw [Array.getElem?_eq_none h'] at hk; cases hk
  exact (h.out.block k hlt (fun e => hne e.symm)).trans hk
theorem beside_row {wr wb : World} {o : Obj} {base e size n l cn co : Nat} {ad ao : Option Addr} {xs : List Value} (h : Hid ((wr.alloc o).drew.grownBy wb (Value.slice ad l cn).ownBlock)) (hO : wr.ownsRow base e size (.slice ao n co) n xs) (hd : ∀ g g', ad = some g → ao = some g' → g.block ≠ g'.block) : wb.ownsRow base e size (.slice ao n co) n xs := by
  refine owns_keep hO fun k hk => ?_
  have hlt := (hO.lt k hk).2
  refine (h.out.block k (Nat.lt_of_lt_of_le hlt (by simp)) ?_).trans (Below.heap_alloc _ _ _ hlt)
  cases ao with
  | none => simp [Value.ownBlock] at hk
  | some g' =>
    cases ad with
    | none => simp [Value.ownBlock]
    | some g =>
      have := hd g g' rfl rfl
      simp [Value.ownBlock] at hk ⊢
      omega
theorem beside_row0 {wr wb : World} {base e size n l cn co : Nat} {ad ao : Option Addr} {xs : List Value} (h : wr.grownBy wb (Value.slice ad l cn).ownBlock) (hO : wr.ownsRow base e size (.slice ao n co) n xs) (hd : ∀ g g', ad = some g → ao = some g' → g.block ≠ g'.block) : wb.ownsRow base e size (.slice ao n co) n xs := by
  refine owns_keep hO fun k hk => ?_
  refine h.block k (hO.lt k hk).2 ?_
  cases ao with
  | none => simp [Value.ownBlock] at hk
  | some g' =>
    cases ad with
    | none => simp [Value.ownBlock]
    | some g =>
      have := hd g g' rfl rfl
      simp [Value.ownBlock] at hk ⊢
      omega
theorem beside_below {w3 wr wb : World} {o : Obj} {v : Value} {e size n : Nat} {xs : List Value} (h : Hid ((wr.alloc o).drew.grownBy wb v.ownBlock)) (hb : Below w3.heap.size w3 wr) (hv : wr.ownsRow w3.heap.size e size v n xs) : Hid (Below w3.heap.size w3 wb) :=
  Below.grown (hb.alloc hb.size o).drew h.out (Nat.le_trans hb.size (by simp)) (fun k hk => (hv.lt k hk).1)
theorem box2_first (w : World) (A B : Obj) : ((w.alloc A).alloc B).drew.heap[w.heap.size]? = some A :=
  (Below.heap_alloc (w.alloc A) B w.heap.size (by simp)).trans (alloc_at w A)
theorem box2_second (w : World) (A B : Obj) : ((w.alloc A).alloc B).drew.heap[w.heap.size + 1]? = some B := by
  have h := alloc_at (w.alloc A) B
  rw [World.size_alloc] at h
  exact h

theorem nodeVals_two (L : List GN) (x y : GN) : nodeVals (L ++ [x, y]) = nodeVals L ++ (x.cells.toList ++ y.cells.toList) := by
  apply List.ext_getElem?
  intro j
  by_cases h1 : j < L.length * 4
  · rw [List.getElem?_append_left (by rw [nodeVals_len]; exact h1), nodeVals_get _ _ h1, nodeVals_get _ _ (by simp; omega)]
    have : j / 4 < L.length := by omega
    simp [nodeCell, List.getD_eq_getElem?_getD, List.getElem?_append_left this]
  · rw [List.getElem?_append_right (by rw [nodeVals_len]; omega), nodeVals_len]
    by_cases h2 : j < L.length * 4 + 8
    · rw [nodeVals_get _ _ (by simp; omega)]
      obtain ⟨k, hk⟩ : ∃ k, j = L.length * 4 + k := ⟨j - L.length * 4, by omega⟩
      have hk8 : k < 8 := by omega
      subst hk
      rw [Nat.add_sub_cancel_left]
      have e1 : (L.length * 4 + k) / 4 = L.length + k / 4 := by omega
      have e2 : (L.length * 4 + k) % 4 = k % 4 := by omega
      unfold nodeCell
      rw [e1, e2]
      have e3 : (L ++ [x, y]).getD (L.length + k / 4) GN.zero = [x, y].getD (k / 4) GN.zero := by
        simp [List.getD_eq_getElem?_getD, List.getElem?_append_right]
      rw [e3]
      match k, hk8 with
      | 0, _ => rfl
      | 1, _ => rfl
      | 2, _ => rfl
      | 3, _ => rfl
      | 4, _ => rfl
      | 5, _ => rfl
      | 6, _ => rfl
      | 7, _ => rfl
    · rw [List.getElem?_eq_none (by rw [nodeVals_len]; simp; omega), List.getElem?_eq_none (by simp [GN.cells]; omega)]

theorem TwAt.below {w3 wx : World} {N : Net} {bm : Nat} {L : List GN} {O : List Int} (h : TwAt w3 N bm L O wx) : Below w3.heap.size w3 wx := h.choose_spec.choose_spec.choose_spec.choose_spec.2.2.2.2.2.2.2

theorem Cells.congr {B : Nat} {w : World} {a : Option Addr} {m : Nat} {f g : Nat → Value} (h : Cells B w a m f) (e : ∀ j, j < m → f j = g j) : Cells B w a m g := by
  rcases h with h | ⟨b, off, rfl, hB, hc⟩
  · exact .inl h
  · exact .inr ⟨b, off, rfl, hB, fun j hj => (hc j hj).trans (by rw [e j hj])⟩

theorem TwAt.netIn {w3 wx : World} {N : Net} {bm : Nat} (h : TwAt w3 N bm (N.nodes ++ dbl N.nodes.length N.outs N.outs.length) (dblO N.nodes.length N.outs.length) wx) (h1 : N.nodes.length ≤ 60) (h2 : N.outs.length ≤ 30) :
    ∃ ad cn ao co, NetIn wx.heap.size wx bm ad cn ao co N.twice := by
  obtain ⟨ad, cn, ao, co, hbm, hm, hN, hO, hd1, hd2, hd3, hbe⟩ := h
  have hl := N.twice_nodes
  have hlo := N.twice_outs
  obtain ⟨a1, c1, e1, _, _, hc1⟩ := Cells.of_owns hN
  obtain ⟨a2, c2, e2, _, _, hc2⟩ := Cells.of_owns hO
  cases e1
  cases e2
  have hlt : bm < wx.heap.size := by
    rcases Nat.lt_or_ge bm wx.heap.size with h' | h'
    · exact h'
    · rw [Array.getElem?_eq_none h'] at hm; cases hm
  refine ⟨ad, cn, ao, co, by rw [cell_block hm]; rfl, by rw [cell_block hm]; rfl, by rw [cell_block hm]; rfl, hc1.congr fun j hj => ?_, ?_, hlt, by unfold maxLen; omega, by unfold maxLen; omega⟩
  · rw [List.getD_eq_getElem?_getD, nodeVals_get _ _ hj]
    rfl
  · have hc2' := hc2
    rw [Nat.mul_one] at hc2'
    exact hc2'.congr fun j hj => by
      simp only [List.getD_eq_getElem?_getD, List.getElem?_map]
      rw [show N.twice.outs = dblO N.nodes.length N.outs.length from rfl, List.getElem?_eq_getElem (by exact hj)]
      rfl

theorem TwAt.addN {w3 wb : World} {N : Net} {bm : Nat} {L : List GN} {O : List Int} {x y : GN} {ad ao av : Option Addr} {cn co cv : Nat}
    (hbm : w3.heap.size ≤ bm) (hm : wb.heap[bm]? = some (.cells #[.int .i64 N.given, .slice ad L.length cn, .slice ao O.length co] 51 (0, 0)))
    (hN : wb.ownsRow w3.heap.size 48 4 (.slice av (L.length + 2) cv) (L.length + 2) (nodeVals L ++ (x.cells.toList ++ y.cells.toList)))
    (hO : wb.ownsRow w3.heap.size 3 1 (.slice ao O.length co) O.length (O.map (.int .i64))) (hb : Below w3.heap.size w3 wb) :
    TwAt w3 N bm (L ++ [x, y]) O (wb.setCell ⟨bm, 1, none⟩ (.slice av (L.length + 2) cv)) := by
  have hne := owns_apart hN hm (by decide)
  have hne' := owns_apart hO hm (by decide)
  rw [← nodeVals_two] at hN
  refine ⟨av, cv, ao, co, hbm, ?_, ?_, ?_, hne, hne', owns_apart2 hN hO (by decide), hb.setCell hbm _⟩
  · rw [set_box hm 1]; simp
  · rw [show (L ++ [x, y]).length = L.length + 2 by simp]
    exact owns_keep hN fun k hk => heap_setCell_other _ _ _ _ (by cases av with | none => simp [Value.ownBlock] at hk | some g => have := hne g rfl; simp [Value.ownBlock] at hk; simp; omega)
  · exact owns_keep hO fun k hk => heap_setCell_other _ _ _ _ (by cases ao with | none => simp [Value.ownBlock] at hk | some g => have := hne' g rfl; simp [Value.ownBlock] at hk; simp; omega)
theorem TwAt.addO {w3 wb : World} {N : Net} {bm : Nat} {L : List GN} {O : List Int} {x : Int} {ad ao av : Option Addr} {cn co cv : Nat}
    (hbm : w3.heap.size ≤ bm) (hm : wb.heap[bm]? = some (.cells #[.int .i64 N.given, .slice ad L.length cn, .slice ao O.length co] 51 (0, 0)))
    (hN : wb.ownsRow w3.heap.size 48 4 (.slice ad L.length cn) L.length (nodeVals L))
    (hO : wb.ownsRow w3.heap.size 3 1 (.slice av (O.length + 1) cv) (O.length + 1) (O.map (.int .i64) ++ [.int .i64 x])) (hb : Below w3.heap.size w3 wb) :
    TwAt w3 N bm L (O ++ [x]) (wb.setCell ⟨bm, 2, none⟩ (.slice av (O.length + 1) cv)) := by
  have hne := owns_apart hN hm (by decide)
  have hne' := owns_apart hO hm (by decide)
  refine ⟨ad, cn, av, cv, hbm, ?_, ?_, ?_, hne, hne', owns_apart2 hN hO (by decide), hb.setCell hbm _⟩
  · rw [set_box hm 2]; simp
  · exact owns_keep hN fun k hk => heap_setCell_other _ _ _ _ (by cases ad with | none => simp [Value.ownBlock] at hk | some g => have := hne g rfl; simp [Value.ownBlock] at hk; simp; omega)
  · rw [show (O ++ [x]).length = O.length + 1 by simp, List.map_append]
    exact owns_keep hO fun k hk => heap_setCell_other _ _ _ _ (by cases av with | none => simp [Value.ownBlock] at hk | some g => have := hne' g rfl; simp [Value.ownBlock] at hk; simp; omega)

theorem wrap_low (n : Int) (h0 : 0 ≤ n) (h1 : n < 9223372036854775808) : IntKind.i64.wrap n = n := by
  obtain ⟨x, rfl⟩ := Int.eq_ofNat_of_zero_le h0
  exact wrap_nat x (by omega)
/-- Rows of bits that are given. -/
structure GivenRows (B : Nat) (w : World) (ag : Option Addr) (gs : List (List Bool)) (A : Nat → Option Addr) (C : Nat → Nat) : Prop where
  heads : Cells B w ag gs.length (fun i => .slice (A i) (gs.getD i []).length (C i))
  rows : ∀ i, i < gs.length → Cells B w (A i) (gs.getD i []).length (fun j => .bool ((gs.getD i []).getD j false))
  lens : ∀ i, (gs.getD i []).length ≤ maxLen
  nils : ∀ i, i < gs.length → A i = none → (gs.getD i []).length = 0 ∧ C i = 0
theorem GivenRows.stay {B : Nat} {w w' : World} {ag : Option Addr} {gs : List (List Bool)} {A : Nat → Option Addr} {C : Nat → Nat} (h : GivenRows B w ag gs A C) (hb : Below B w w') : GivenRows B w' ag gs A C :=
  ⟨h.heads.stay hb, fun i hi => (h.rows i hi).stay hb, h.lens, h.nils⟩

theorem bits_of {B : Nat} {w : World} {ai : Option Addr} {g : List Bool} {r : Nat} (h : Cells B w ai g.length (fun j => .bool (g.getD j false))) (hl : g.length ≤ maxLen) (hB : B ≤ w.heap.size) (hr : B ≤ r) : Bits w ai g r := by
  refine ⟨h.mono hB, ?_, hl⟩
  rintro bg off rfl hpos
  rcases h with h | ⟨b, off', e, hb, _⟩
  · omega
  · cases e
    omega

theorem keep1 {w3 w' : World} {b0 k : Nat} {x : Value} (hlt : b0 < w3.heap.size) (h0 : w3.cell? ⟨b0, k, none⟩ = some x) (h : Below w3.heap.size w3 w') : w'.cell? ⟨b0, k, none⟩ = some x ∧ Below w3.heap.size w3 w' :=
  ⟨(h.cell (p := ⟨b0, k, none⟩) hlt).trans h0, h⟩

end Go.Proofs.Ytlaeflpddehipab
