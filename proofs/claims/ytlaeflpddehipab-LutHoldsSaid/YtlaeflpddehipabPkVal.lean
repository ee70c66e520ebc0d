/- lut.packer.value, at a leaf, at an and of leaves, at an or of such. -/
import Derived.Test.YtlaeflpddehipabPkTog
import Derived.Test.YtlaeflpddehipabLsStep
import Derived.Maps.OwnSet
import Derived.Maps.OwnOps
import Derived.Maps.Views
import Derived.Maps.RangeWalk
set_option linter.unusedVariables false
set_option linter.unusedSimpArgs false
set_option linter.unusedSectionVars false
namespace Go.Proofs.Ytlaeflpddehipab
open Go.RowKit Go.Maps
attribute [local go_sem ↓] Go.wp_at_zero Go.wp_at_succ

theorem Try.pkKey : Keyed Try.prog 3 := int_keyed Try.underlying3
theorem pkWf {z : Int} (h : 0 ≤ z ∧ z ≤ 1000000) : (Lit.int .i64 z).wf = true := by
  have e1 : IntKind.i64.min = -9223372036854775808 := by decide
  have e2 : IntKind.i64.max = 9223372036854775807 := by decide
  unfold Lit.wf
  simp [e1, e2]
  omega
/-- A map of numbers, a map of bits: what is asked of it. -/
theorem pkLookI {w : World} {bm n : Nat} {D : DataW Unit} (h : w.ownsMap Try.prog 3 (plainElem Try.prog 3) bm n D) (k : Nat) (hk : k ≤ 1000000) (hit : Bool) (z : Int) (hh : Maps.has D (.int .i64 (k : Int)) = hit) (hv : D.atKey (.int .i64 (k : Int)) (.lit (.int .i64 0)) = .lit (.int .i64 z)) :
    (Instr.lookup 68 (.map (some bm)) (.int .i64 (k : Int)) true).run Try.prog w = .ok (.tuple #[.int .i64 z, .bool hit]) w := by
  obtain ⟨v, ps, hrun, hv'⟩ := h.look_ok Try.pkKey Try.underlying68 (z := .int .i64 0) (by kernel_rfl) (zd := .lit (.int .i64 0)) (zp := []) (plainElem_int Try.underlying3 (by decide)) (keyOf_int_mk Try.underlying3 (pkWf ⟨by omega, by omega⟩ : (Lit.int .i64 (k : Int)).wf = true))
  rw [hv] at hv'
  obtain ⟨c, rfl, hc, _⟩ := plainElem_int_inv Try.underlying3 hv'
  simp only [Prod.mk.injEq, DataW.lit.injEq, Lit.int.injEq, true_and] at hc
  rw [hrun, hh, hc.1]
theorem pkBool_inv {H : Type} {P : Program} {e : TypeId} (he : P.underlying e = some .bool) {v : Value} {z : DataW H × List MemPlace} (h : plainElem P e v = some z) : ∃ b, v = .bool b ∧ z = (.lit (.bool b), []) := by
  unfold plainElem at h
  rw [he] at h
  cases v <;> simp at h
  exact ⟨_, rfl, h.symm⟩
theorem pkLookB {w : World} {bm n : Nat} {D : DataW Unit} (h : w.ownsMap Try.prog 3 (plainElem Try.prog 4) bm n D) (k : Nat) (hk : k ≤ 1000000) (hh : Maps.has D (.int .i64 (k : Int)) = false) :
    (Instr.lookup 87 (.map (some bm)) (.int .i64 (k : Int)) true).run Try.prog w = .ok (.tuple #[.bool false, .bool false]) w := by
  obtain ⟨v, ps, hrun, hv'⟩ := h.look_ok Try.pkKey Try.underlying87 (z := .bool false) (by kernel_rfl) (zd := .lit (.bool false)) (zp := []) (plainElem_bool Try.underlying4 _) (keyOf_int_mk Try.underlying3 (pkWf ⟨by omega, by omega⟩ : (Lit.int .i64 (k : Int)).wf = true))
  rw [atKey_of_not_has hh] at hv'
  obtain ⟨c, rfl, hc⟩ := pkBool_inv Try.underlying4 hv'
  simp only [Prod.mk.injEq, DataW.lit.injEq, Lit.bool.injEq] at hc
  rw [hrun, hh, hc.1]

theorem pkFrom {w W w' : World} {r : Option Nat} (hb : Below w.heap.size w W) (h : W.grownBy w' r) : w.grownBy w' r :=
  ⟨h.os.trans hb.os, h.tape.trans hb.tape, h.output.trans hb.output, Nat.le_trans hb.size h.size, fun k hk hne => (h.block k (Nat.lt_of_lt_of_le hk hb.size) hne).trans (hb.block k hk)⟩
/-- Bit i of b. -/
def bitB (b i : Nat) : Bool := (((b / 2 ^ i : Nat) : Int) % 2 == 1)
/-- The packer's way to a node. -/
structure PkM (W : World) (bp bN bl n cn : Nat) : Prop where
  x0 : W.cell? ⟨bp, 0, none⟩ = some (.pointer (some ⟨bN, 0, none⟩))
  x1 : W.cell? ⟨bN, 1, none⟩ = some (.slice (some ⟨bl, 0, none⟩) n cn)
  l0 : bp < W.heap.size
  l1 : bN < W.heap.size
  l2 : bl < W.heap.size
theorem PkM.stay {W W' : World} {bp bN bl n cn : Nat} (h : PkM W bp bN bl n cn) (hb : Below W.heap.size W W') : PkM W' bp bN bl n cn :=
  ⟨(hb.cell (p := ⟨bp, 0, none⟩) h.l0).trans h.x0, (hb.cell (p := ⟨bN, 1, none⟩) h.l1).trans h.x1, Nat.lt_of_lt_of_le h.l0 hb.size, Nat.lt_of_lt_of_le h.l1 hb.size, Nat.lt_of_lt_of_le h.l2 hb.size⟩
structure PkNode (W : World) (bl k : Nat) (op a b nx : Int) : Prop where
  d0 : W.cell? ⟨bl, k * 4, none⟩ = some (.int .i64 op)
  d1 : W.cell? ⟨bl, k * 4 + 1, none⟩ = some (.int .i64 a)
  d2 : W.cell? ⟨bl, k * 4 + 2, none⟩ = some (.int .i64 b)
  d3 : W.cell? ⟨bl, k * 4 + 3, none⟩ = some (.int .i64 nx)
theorem PkNode.stay {W W' : World} {bl k : Nat} {op a b nx : Int} (h : PkNode W bl k op a b nx) (hl : bl < W.heap.size) (hb : Below W.heap.size W W') : PkNode W' bl k op a b nx :=
  ⟨(hb.cell (p := ⟨bl, _, none⟩) hl).trans h.d0, (hb.cell (p := ⟨bl, _, none⟩) hl).trans h.d1, (hb.cell (p := ⟨bl, _, none⟩) hl).trans h.d2, (hb.cell (p := ⟨bl, _, none⟩) hl).trans h.d3⟩
/-- Leaves in memory. -/
def Leaves (W : World) (g : Nat) (l : List Int) : Prop := ∀ j, j < l.length → W.cell? ⟨g, 0 + j, none⟩ = some (.int .i64 (l.getD j 0))
theorem Leaves.stay {W W' : World} {g : Nat} {l : List Int} (h : Leaves W g l) (hg : g < W.heap.size) (hb : Below W.heap.size W W') : Leaves W' g l := fun j hj => (hb.cell (p := ⟨g, 0 + j, none⟩) hg).trans (h j hj)
theorem Leaves.grown {W W' : World} {g r : Nat} {l : List Int} (h : Leaves W g l) (hg : g < W.heap.size) (hne : g ≠ r) (hb : W.grownBy W' (some r)) : Leaves W' g l := fun j hj => by
  have e := hb.block g hg (by simp; exact hne)
  rw [← h j hj]
  unfold World.cell?
  simp only
  rw [e]

theorem PkIdx (W : World) (g m c : Nat) (l : List Int) (k z : Int) (hm : l.length = m) (hL : Leaves W g l) (hz : Lib.idxOf l k = z) (hm2 : m ≤ 1000) :
    Calls Try.prog 44 #[.slice (some ⟨g, 0, none⟩) m c, .int .i64 k] W fun e w' => e = .returned (.int .i64 z) ∧ w' = W := by
  subst hm hz
  have key := Try.slices_Index_int g 0 l.length c l k W (Nat.le_refl _) (by omega) hL
  rw [List.take_of_length_le (Nat.le_refl _)] at key
  exact key
set_option maxHeartbeats 1600000 in
theorem PkLeaf (W : World) (pv kv : Value) (g m c b i : Nat) (l : List Int) (k : Int) (hm : l.length = m) (hL : Leaves W g l) (hk : Lib.idxOf l k = ((i : Nat) : Int)) (hi : i < 4) (hm2 : m ≤ 1000) :
    Calls Try.prog 34 #[pv, .int .i64 k, .slice (some ⟨g, 0, none⟩) m c, .int .i64 (b : Int), kv] W fun e w' => e = .returned (.bool (bitB b i)) ∧ w' = W := by
  have HK := hid hk
  have HL := hid hL
  have HM := hid hm
  have hi0 : (0 : Int) ≤ (i : Int) := by omega
  have HB : Hid ((bits BinOp.and IntKind.i64 ((b : Int) / 2 ^ i) 1 == 1) = bitB b i) := shiftBit b i
  clear hk hL hm
  go_enter Try.func34, Try.ntmps34
  go_wp2_with (go_at_call 44; (with_reducible refine (PkIdx W g m c l k _ HM.out HL.out HK.out hm2).mono ?_); rintro e w1 ⟨rfl, hw1⟩; subst w1)
  go_ret
  exact ⟨ret_bool HB.out, rfl⟩
section
variable (bp bN bl n cn : Nat)
set_option maxRecDepth 100000 in
set_option maxHeartbeats 3200000 in
theorem PkAnd (W : World) (g m c b i j bk nm : Nat) (l : List Int) (D : DataW Unit) (k : Nat) (x y nx : Int) (hM : PkM W bp bN bl n cn) (hN : PkNode W bl k 5 x y nx) (hkn : k < n) (hk6 : k ≤ 1000000) (hm : l.length = m) (hL : Leaves W g l) (hg : g < W.heap.size) (hm2 : m ≤ 1000)
    (h0 : Lib.idxOf l (k : Int) = -1) (hx : Lib.idxOf l x = ((i : Nat) : Int)) (hi : i < 4) (hy : Lib.idxOf l y = ((j : Nat) : Int)) (hj : j < 4)
    (hmap : W.ownsMap Try.prog 3 (plainElem Try.prog 4) bk nm D) (hmiss : Maps.has D (.int .i64 (k : Int)) = false) (hnm : nm ≤ 1000) :
    Calls Try.prog 34 #[.pointer (some ⟨bp, 0, none⟩), .int .i64 (k : Int), .slice (some ⟨g, 0, none⟩) m c, .int .i64 (b : Int), .map (some bk)] W fun e w' =>
      e = .returned (.bool (bitB b j && bitB b i)) ∧ w'.ownsMap Try.prog 3 (plainElem Try.prog 4) bk (nm + 1) (D.put (.int .i64 (k : Int)) (.lit (.bool (bitB b j && bitB b i)))) ∧ W.grownBy w' (some bk) := by
  have x0 := hM.x0
  have x1 := hM.x1
  have d0 := hN.d0
  have d1 := hN.d1
  have d2 := hN.d2
  have d3 := hN.d3
  have hlk := pkLookB hmap k hk6 hmiss
  have HM := hid hm
  have HBW := hid (show Below W.heap.size W (W.alloc (.cells #[.int .i64 5, .int .i64 x, .int .i64 y, .int .i64 nx] 48)) from (Below.refl _ _).alloc (Nat.le_refl _) _)
  have HL1 := hid (hL.stay hg HBW.out)
  have HL := hid hL
  have H0 := hid h0
  have HX := hid hx
  have HY := hid hy
  have HMAP := hid (hmap.alloc (.cells #[.int .i64 5, .int .i64 x, .int .i64 y, .int .i64 nx] 48))
  have hbk := hmap.lt
  have hwf : (Lit.int .i64 (k : Int)).wf = true := pkWf ⟨by omega, by omega⟩
  have hkI : (k : Int) < (n : Int) := by omega
  have hk0 : (0 : Int) ≤ (k : Int) := by omega
  obtain ⟨ra, hra⟩ : ∃ r, bitB b i = r := ⟨_, rfl⟩
  obtain ⟨rb, hrb⟩ : ∃ r, bitB b j = r := ⟨_, rfl⟩
  have HRA := hid hra
  have HRB := hid hrb
  rw [hra, hrb]
  clear hm hL h0 hx hy hmap hra hrb hM hN hmiss
  go_enter Try.func34, Try.ntmps34
  cases rb
  all_goals
    go_wp2_with (first
      | (go_at_call 44; (with_reducible refine (PkIdx W g m c l (k : Int) _ HM.out HL.out H0.out hm2).mono ?_); rintro e w1 ⟨rfl, hw1⟩; subst w1)
      | (go_at_call 34; (with_reducible refine (PkLeaf _ _ _ g m c b i l x HM.out HL1.out HX.out hi hm2).mono ?_); rintro e w1 ⟨rfl, hw1⟩; subst w1; rw [HRA.out])
      | (go_at_call 34; (with_reducible refine (PkLeaf _ _ _ g m c b j l y HM.out HL1.out HY.out hj hm2).mono ?_); rintro e w1 ⟨rfl, hw1⟩; subst w1; rw [HRB.out])
      | (at_mapUpdate; refine wpList_mapUpdate_own _ rfl _ _ _ 87 rfl 3 4 Try.pkKey Try.underlying87 _ bk nm D rfl HMAP.out (by unfold maxLen; omega) _ _ _ rfl rfl (keyOf_int_mk Try.underlying3 hwf) _ [] (plainElem_bool Try.underlying4 _) ?_; intro w3 hown3 hg3; have HOWN3 := hid hown3; have HG3 := hid (pkFrom HBW.out hg3); clear hown3 hg3))
    go_ret
    exact ⟨by simp, by simpa using HOWN3.out, HG3.out⟩
set_option maxRecDepth 100000 in
set_option maxHeartbeats 3200000 in
theorem PkOr (W : World) (g m c b i j q bk nm : Nat) (l : List Int) (D : DataW Unit) (k k3 : Nat) (x y nx y2 nx2 : Int) (hM : PkM W bp bN bl n cn) (hN : PkNode W bl k 6 (k3 : Int) y2 nx2) (hN3 : PkNode W bl k3 5 x y nx) (hkn : k < n) (hkn3 : k3 < n) (hn6 : n ≤ 1000000) (hm : l.length = m) (hL : Leaves W g l) (hg : g < W.heap.size) (hgb : g ≠ bk) (hm2 : m ≤ 1000)
    (h0 : Lib.idxOf l (k : Int) = -1) (h03 : Lib.idxOf l (k3 : Int) = -1) (hx : Lib.idxOf l x = ((i : Nat) : Int)) (hi : i < 4) (hy : Lib.idxOf l y = ((j : Nat) : Int)) (hj : j < 4) (hy2 : Lib.idxOf l y2 = ((q : Nat) : Int)) (hq : q < 4)
    (hmap : W.ownsMap Try.prog 3 (plainElem Try.prog 4) bk nm D) (hmiss : Maps.has D (.int .i64 (k : Int)) = false) (hmiss3 : Maps.has D (.int .i64 (k3 : Int)) = false) (hnm : nm ≤ 900) :
    Calls Try.prog 34 #[.pointer (some ⟨bp, 0, none⟩), .int .i64 (k : Int), .slice (some ⟨g, 0, none⟩) m c, .int .i64 (b : Int), .map (some bk)] W fun e w' =>
      e = .returned (.bool (bitB b q || (bitB b j && bitB b i))) ∧ W.grownBy w' (some bk) := by
  have x0 := hM.x0
  have x1 := hM.x1
  have d0 := hN.d0
  have d1 := hN.d1
  have d2 := hN.d2
  have d3 := hN.d3
  have hlk := pkLookB hmap k (by omega) hmiss
  have HM := hid hm
  have HBW := hid (show Below W.heap.size W (W.alloc (.cells #[.int .i64 6, .int .i64 (k3 : Int), .int .i64 y2, .int .i64 nx2] 48)) from (Below.refl _ _).alloc (Nat.le_refl _) _)
  have HM1 := hid (hM.stay HBW.out)
  have HN31 := hid (hN3.stay hM.l2 HBW.out)
  have HL1 := hid (hL.stay hg HBW.out)
  have HL := hid hL
  have H0 := hid h0
  have H03 := hid h03
  have HX := hid hx
  have HY := hid hy
  have HY2 := hid hy2
  have HMAP := hid (hmap.alloc (.cells #[.int .i64 6, .int .i64 (k3 : Int), .int .i64 y2, .int .i64 nx2] 48))
  have HMISS3 := hid hmiss3
  have hbk := hmap.lt
  have HSZ := hid (show (W.alloc (.cells #[.int .i64 6, .int .i64 (k3 : Int), .int .i64 y2, .int .i64 nx2] 48)).heap.size = W.heap.size + 1 by simp)
  have HBX := hid (show (W.alloc (.cells #[.int .i64 6, .int .i64 (k3 : Int), .int .i64 y2, .int .i64 nx2] 48)).heap[W.heap.size]? = some (.cells #[.int .i64 6, .int .i64 (k3 : Int), .int .i64 y2, .int .i64 nx2] 48 (0, 0)) from alloc_at _ _)
  have hwf : (Lit.int .i64 (k : Int)).wf = true := pkWf ⟨by omega, by omega⟩
  have hkI : (k : Int) < (n : Int) := by omega
  have hk0 : (0 : Int) ≤ (k : Int) := by omega
  obtain ⟨r3, hr3⟩ : ∃ r, (bitB b j && bitB b i) = r := ⟨_, rfl⟩
  obtain ⟨rq, hrq⟩ : ∃ r, bitB b q = r := ⟨_, rfl⟩
  have HR3 := hid hr3
  have HRQ := hid hrq
  rw [hr3, hrq]
  have hne : W.heap.size ≠ bk := by omega
  clear hm hL h0 h03 hx hy hy2 hmap hr3 hrq hM hN hN3 hmiss hmiss3
  go_enter Try.func34, Try.ntmps34
  cases rq
  all_goals
    go_wp2_with (first
      | (go_at_call 44; (with_reducible refine (PkIdx W g m c l (k : Int) _ HM.out HL.out H0.out hm2).mono ?_); rintro e w1 ⟨rfl, hw1⟩; subst w1)
      | (go_at_call 34; (with_reducible refine (PkAnd bp bN bl n cn _ g m c b i j bk nm l D k3 x y nx HM1.out HN31.out hkn3 (by omega) HM.out HL1.out (by rw [HSZ.out]; omega) hm2 H03.out HX.out hi HY.out hj HMAP.out HMISS3.out (by omega)).mono ?_); rintro e w2 ⟨rfl, hown2, hg2⟩; rw [HR3.out]; rw [HR3.out] at hown2; have HOWN2 := hid hown2; have HG2 := hid (pkFrom HBW.out hg2); have hbx2 := (hg2.block W.heap.size (by rw [HSZ.out]; omega) (by simp; exact hne)).trans HBX.out; have z0 : w2.cell? ⟨W.heap.size, 0, none⟩ = some (.int .i64 6) := (cell_block hbx2 0).trans rfl; have z2 : w2.cell? ⟨W.heap.size, 2, none⟩ = some (.int .i64 y2) := (cell_block hbx2 2).trans rfl; have HL2 := hid (HL1.out.grown (by rw [HSZ.out]; omega) hgb hg2); clear hown2 hg2 hbx2)
      | (go_at_call 34; (with_reducible refine (PkLeaf w2 _ _ g m c b q l y2 HM.out HL2.out HY2.out hq hm2).mono ?_); rintro e w1 ⟨rfl, hw1⟩; subst w1; rw [HRQ.out])
      | (at_mapUpdate; refine wpList_mapUpdate_own _ rfl _ _ _ 87 rfl 3 4 Try.pkKey Try.underlying87 _ bk (nm + 1) _ rfl HOWN2.out (by unfold maxLen; omega) _ _ _ rfl rfl (keyOf_int_mk Try.underlying3 hwf) _ [] (plainElem_bool Try.underlying4 _) ?_; intro w3 hown3 hg3; have HG3 := hid (HG2.out.trans hg3); clear hown3 hg3))
    go_ret
    exact ⟨by simp, HG3.out⟩
end
end Go.Proofs.Ytlaeflpddehipab
