/- clean.maker.node, walked. -/
import Derived.Test.YtlaeflpddehipaaMakMem
import Derived.Deep.DeepCutAuto
import Derived.Deep.RegionLaw
set_option linter.unusedVariables false
namespace Go.Proofs.Ytlaeflpddehipaa
open Go.RowKit
attribute [local go_sem ↓] Go.wp_at_zero Go.wp_at_succ

theorem Try.infoNodeM : (Try.prog.info? 52).map (fun i => (i.zero, i.size, i.bytes)) = some (some (.agg #[.int .i64 0, .int .i64 0, .int .i64 0, .int .i64 0]), 4, 32) := by kernel_rfl

theorem SeenMap.drew {w : World} {bs : Nat} {M : List GN} (h : SeenMap w bs M) : SeenMap w.drew bs M := h.stay (Below.refl _ _).drew
theorem Mak.drew {B bm bo bn bf bs : Nat} {g : Int} {av : Option Addr} {cv : Nat} {M S : List GN} {of : List Int} {W : World} (h : Mak B bm bo bn bf bs g av cv M S of W) : Mak B bm bo bn bf bs g av cv M S of W.drew := h.stay (Below.refl _ _).drew
theorem Keep.drew {A B : World} (h : Keep A B) : Keep A B.drew := h
set_option maxRecDepth 100000 in
theorem look_run {w : World} {bs : Nat} {M : List GN} {o p q n : Int} (h : SeenMap w bs M) (hx : GN.low ⟨o, p, q, n⟩) {v : Int} {b : Bool} (hv : v = if o ≠ 4 ∧ (⟨o, p, q, n⟩ : GN) ∈ M then ((M.idxOf (⟨o, p, q, n⟩ : GN) : Nat) : Int) else 0) (hb : b = decide (o ≠ 4 ∧ (⟨o, p, q, n⟩ : GN) ∈ M)) :
    (Instr.lookup 102 (.map (some bs)) (.agg #[.int .i64 o, .int .i64 p, .int .i64 q, .int .i64 n]) true).run Try.prog w = .ok (.tuple #[.int .i64 v, .bool b]) w := by
  subst hv hb
  exact Op_look (x := ⟨o, p, q, n⟩) h hx
set_option maxRecDepth 100000 in
theorem store_run {w : World} {bs : Nat} {M : List GN} {o p q n : Int} (h : SeenMap w bs M) (hx : GN.low ⟨o, p, q, n⟩) (ho : o ≠ 4) (hm : (⟨o, p, q, n⟩ : GN) ∉ M) (hM : M.length ≤ 100000) :
    ∃ w', (Instr.mapUpdate 102 (.map (some bs)) (.agg #[.int .i64 o, .int .i64 p, .int .i64 q, .int .i64 n]) (.int .i64 (M.length : Nat))).run Try.prog w = .ok () w' ∧ SeenMap w' bs (M ++ [⟨o, p, q, n⟩]) ∧ w.grownBy w' (some bs) :=
  Op_store (x := ⟨o, p, q, n⟩) h hx ho hm hM

/-- What cells of other types keep; and whatever is not the net, the map or the row v keeps. -/
def KeepF (bn bs : Nat) (v : Value) (W W' : World) : Prop := Keep W W' ∧ ∀ (k : Nat) (o : Obj), W.heap[k]? = some o → k ≠ bn → k ≠ bs → v.ownBlock ≠ some k → W'.heap[k]? = some o
theorem KeepF.below {bn bs : Nat} {v : Value} {A B : World} (h : Below A.heap.size A B) : KeepF bn bs v A B := ⟨Keep.below h, fun k o hk _ _ _ => (h.block k (boxLt hk)).trans hk⟩
theorem KeepF.trans {bn bs : Nat} {v : Value} {A B C : World} (h : KeepF bn bs v A B) (h' : KeepF bn bs v B C) : KeepF bn bs v A C := ⟨h.1.trans h'.1, fun k o hk h1 h2 h3 => h'.2 k o (h.2 k o hk h1 h2 h3) h1 h2 h3⟩
theorem KeepF.drew {bn bs : Nat} {v : Value} {A B : World} (h : KeepF bn bs v A B) : KeepF bn bs v A B.drew := h
theorem KeepF.stored {bn bs : Nat} {v : Value} {A B : World} (h : Keep A B) (hg : A.grownBy B (some bs)) : KeepF bn bs v A B := ⟨h, fun k o hk _ h2 _ => (hg.block k (boxLt hk) (by simpa using h2)).trans hk⟩
/-- What a step of the maker hands back. -/
def Makes (B bm bo bn bf bs : Nat) (g : Int) (v : Value) (of : List Int) (W : World) (r : List GN × Int) (e : Ending) (w' : World) : Prop :=
  e = .returned (.int .i64 r.2) ∧ (∃ av cv, Mak B bm bo bn bf bs g av cv r.1 r.1 of w') ∧ KeepF bn bs v W w' ∧ Below B W w'
theorem box_at (w : World) (o : Obj) : (w.alloc o).heap[w.heap.size]? = some o := by
  show (w.heap.push o)[_]? = _
  simp
theorem box_under2 {w : World} {k : Nat} {o : Obj} (o' : Obj) (h : w.heap[k]? = some o) : (w.alloc o').heap[k]? = some o := (Below.heap_alloc _ _ _ (boxLt h)).trans h
theorem box_drew2 {w : World} {k : Nat} {o : Obj} (h : w.heap[k]? = some o) : w.drew.heap[k]? = some o := h
theorem mk_alloc (w : World) (o : Obj) : Below w.heap.size w (w.alloc o) := (Below.refl _ _).alloc (Nat.le_refl _) o

theorem mk_alloc_drew (w : World) (o : Obj) : Below w.heap.size w (w.alloc o).drew := (mk_alloc w o).drew
theorem mk_drew_alloc (w : World) (o : Obj) : Below w.heap.size w (w.drew.alloc o) := ((Below.refl w.heap.size w).drew).alloc (Nat.le_refl _) o
/-- A box that the row is not, when the row has grown. -/
theorem box_past {bn av' : Nat} {w1 wb : World} {v u : Value} {k : Nat} {o : Obj} (hk : w1.heap[k]? = some o) (hg : w1.grownBy wb v.ownBlock) (hv : ∀ j, v.ownBlock = some j → j < k) (hn : bn < k) : (wb.setCell ⟨bn, av', none⟩ u).heap[k]? = some o := by
  rw [heap_setCell_other _ _ _ _ (by show k ≠ bn; omega)]
  exact (hg.block k (boxLt hk) (fun e => by have := hv k e.symm; omega)).trans hk

theorem below_grown_from {B r : Nat} {w w' : World} (hg : w.grownBy w' (some r)) (hB : B ≤ w.heap.size) (hr : B ≤ r) : Below B w w' := belowGrown hg hB hr
/-- Behind region 4: a node more; its own box stands. -/
def NodeRel (B bm bo bn bf bs : Nat) (g : Int) (v : Value) (M S : List GN) (of : List Int) (b3 : Nat) (o : Obj) (w2 wx : World) : Prop :=
  ∃ av' cv', Mak B bm bo bn bf bs g av' cv' M S of wx ∧ wx.heap[b3]? = some o ∧ KeepF bn bs v w2 wx ∧ Below B w2 wx
structure Pushed (B bm bo bn bf bs : Nat) (g : Int) (av : Option Addr) (cv : Nat) (M : List GN) (of : List Int) (b3 : Nat) (o : Obj) (x : GN) (w2 wb : World) (u : Value) : Prop where
  cb : wb.cell? ⟨bn, 1, none⟩ = some (.slice av M.length cv)
  fb : ∀ j, wb.frozen? ⟨bn, j, none⟩ = false
  lb : bn < wb.heap.size
  cm : wb.cell? ⟨bm, 1, none⟩ = some (.pointer (some ⟨bn, 0, none⟩))
  lm : bm < wb.heap.size
  rel : NodeRel B bm bo bn bf bs g (.slice av M.length cv) (M ++ [x]) M of b3 o w2 (wb.setCell ⟨bn, 1, none⟩ u)
theorem push_end {B bm bo bn bf bs : Nat} {g : Int} {av av' : Option Addr} {cv cv' : Nat} {M : List GN} {of : List Int} {b3 : Nat} {o : Obj} {x : GN} {w2 W1 wb : World} (h : Mak B bm bo bn bf bs g av cv M M of w2) (hbx : w2.heap[b3]? = some o) (hrb : ∀ j, (Value.slice av M.length cv).ownBlock = some j → j < b3) (hnb : bn < b3)
    (hb : Below w2.heap.size w2 W1) (hg : W1.grownBy wb (Value.slice av M.length cv).ownBlock) (hown : wb.ownsRow B 52 4 (.slice av' (M.length + 1) cv') (M.length + 1) (nvals M ++ x.cells.toList)) :
    Pushed B bm bo bn bf bs g av cv M of b3 o x w2 wb (.slice av' (M.length + 1) cv') := by
  obtain ⟨h1, h2, h3, h4⟩ := Mak.push (h.stay hb) hg hown
  exact ⟨(cell_block h1 1).trans rfl, free_block h1, boxLt h1, (cell_block h2 1).trans rfl, boxLt h2, av', cv', h3, box_past ((hb.block b3 (boxLt hbx)).trans hbx) hg hrb hnb, ⟨(Keep.below hb).trans h4, fun k o hk h5 h6 h7 => by rw [heap_setCell_other _ _ _ _ (by exact h5)]; exact (hg.block k (Nat.lt_of_lt_of_le (boxLt hk) hb.size) (fun e => h7 e.symm)).trans ((hb.block k (boxLt hk)).trans hk)⟩, ((hb.mono h.hB).grown hg (Nat.le_trans h.hB hb.size) (fun k hk => ((h.stay hb).rn.lt k hk).1)).setCell h.hbn _⟩

set_option maxRecDepth 100000 in
set_option maxHeartbeats 3200000 in
theorem node_any {B bm bo bn bf bs : Nat} {g : Int} {av : Option Addr} {cv : Nat} {M : List GN} {of : List Int} (x : GN) (W : World) (h : Mak B bm bo bn bf bs g av cv M M of W) (hx : x.low) (hM : M.length ≤ 100000) :
    Calls Try.prog 78 #[.pointer (some ⟨bm, 0, none⟩), .agg x.cells] W (Makes B bm bo bn bf bs g (.slice av M.length cv) of W (mkN M x)) := by
  obtain ⟨i0, hi, hz0, hz1, hz2⟩ := info_parts Try.infoNodeM
  have HX := hid hx
  have HM := hid h
  have hrb : Hid (∀ j, (Value.slice av M.length cv).ownBlock = some j → j < W.heap.size) := fun j hj => (h.rn.lt j hj).2
  have hnb := boxLt h.boxn
  have hB := h.hB
  clear h hx
  obtain ⟨o, p, q, n⟩ := x
  show Calls Try.prog 78 #[.pointer (some ⟨bm, 0, none⟩), .agg #[.int .i64 o, .int .i64 p, .int .i64 q, .int .i64 n]] W _
  go_enter Try.func78, Try.ntmps78
  go_upto_region 1 with fail
  obtain ⟨b3, hb3⟩ : ∃ b, W.heap.size = b := ⟨_, rfl⟩
  have hm1 := HM.out.stay (mk_alloc W (.cells #[.int .i64 o, .int .i64 p, .int .i64 q, .int .i64 n] 52))
  have hk1 := KeepF.below (bn := bn) (bs := bs) (v := .slice av M.length cv) (mk_alloc W (.cells #[.int .i64 o, .int .i64 p, .int .i64 q, .int .i64 n] 52))
  have hb1 := (mk_alloc W (.cells #[.int .i64 o, .int .i64 p, .int .i64 q, .int .i64 n] 52)).mono hB
  have x0 := cell_new W #[.int .i64 o, .int .i64 p, .int .i64 q, .int .i64 n] 52 0
  have x1 := cell_new W #[.int .i64 o, .int .i64 p, .int .i64 q, .int .i64 n] 52 1
  have x2 := cell_new W #[.int .i64 o, .int .i64 p, .int .i64 q, .int .i64 n] 52 2
  have x3 := cell_new W #[.int .i64 o, .int .i64 p, .int .i64 q, .int .i64 n] 52 3
  simp only [List.getElem?_toArray, List.getElem?_cons_succ, List.getElem?_cons_zero] at x0 x1 x2 x3
  have hbx := box_at W (.cells #[.int .i64 o, .int .i64 p, .int .i64 q, .int .i64 n] 52)
  rw [hb3] at x0 x1 x2 x3 hbx hrb hnb ⊢
  generalize W.alloc (.cells #[.int .i64 o, .int .i64 p, .int .i64 q, .int .i64 n] 52) = w1 at *
  have HM1 := hid hm1
  have HK1 := hid hk1
  have HB1 := hid hb1
  have c3 := hm1.c3
  have c1 := hm1.c1
  have n1 := hm1.n1
  have hbmlt := boxLt hm1.boxm
  have hbnlt := boxLt hm1.boxn
  have hmf := free_block hm1.boxn
  clear hm1 hk1 hb1 HM
  by_cases hfound : o ≠ 4 ∧ (⟨o, p, q, n⟩ : GN) ∈ M
  · have HF := hid hfound
    clear hfound
    have hlook := look_run HM1.out.mp.drew HX.out (if_pos HF.out).symm (decide_eq_true HF.out).symm
    go_region
    go_wp2_with fail
    have e : mkN M ⟨o, p, q, n⟩ = (M, ((M.idxOf (⟨o, p, q, n⟩ : GN) : Nat) : Int)) := by unfold mkN; rw [if_pos HF.out]
    rw [e]
    go_ret
    exact ⟨rfl, ⟨av, cv, HM1.out.drew⟩, HK1.out.drew, HB1.out.drew⟩
  · have e : mkN M ⟨o, p, q, n⟩ = (M ++ [⟨o, p, q, n⟩], (M.length : Int)) := by unfold mkN; rw [if_neg hfound]
    have HE := hid e
    have HF := hid hfound
    clear hfound e
    have hlook := look_run HM1.out.mp.drew HX.out (if_neg HF.out).symm (decide_eq_false HF.out).symm
    go_region
    clear hlook
    have HM2 := hid HM1.out.drew
    have HK2 := hid HK1.out.drew
    have HB2 := hid HB1.out.drew

    have z0 : w1.drew.cell? ⟨b3, 0, none⟩ = some (.int .i64 o) := x0
    have z1 : w1.drew.cell? ⟨b3, 1, none⟩ = some (.int .i64 p) := x1
    have z2 : w1.drew.cell? ⟨b3, 2, none⟩ = some (.int .i64 q) := x2
    have z3 : w1.drew.cell? ⟨b3, 3, none⟩ = some (.int .i64 n) := x3
    have hbx2 : w1.drew.heap[b3]? = some (.cells #[.int .i64 o, .int .i64 p, .int .i64 q, .int .i64 n] 52 (0, 0)) := hbx
    have HBX := hid hbx2
    clear hbx2 hbx x0 x1 x2 x3 HM1 HK1 HB1 c3 c1 n1 hbmlt hbnlt hmf
    generalize w1.drew = w2 at *
    have c1 := HM2.out.c1
    have n1 := HM2.out.n1
    have hbmlt := boxLt HM2.out.boxm
    have hbnlt := boxLt HM2.out.boxn
    have hmf := free_block HM2.out.boxn
    go_upto_region 4 with fail
    go_cut [] (fun wx => NodeRel B bm bo bn bf bs g (.slice av M.length cv) (M ++ [⟨o, p, q, n⟩]) M of b3 (.cells #[.int .i64 o, .int .i64 p, .int .i64 q, .int .i64 n] 52 (0, 0)) w2 wx)
    case first =>
     --[stub
     rename_i J0 K0 hJ hK
     go_region_law (first
      | ((refine append_held (by rfl) _ _ 46 (by rfl) B 52 i0 _ 4 32 Try.underlying46 hi hz0 hz1 hz2 (by rfl) (by decide) (.slice av M.length cv) M.length (nvals M) (by rfl) ?_ (some ⟨w2.heap.size, 0, none⟩) 1 1 [.int .i64 o, .int .i64 p, .int .i64 q, .int .i64 n] (by rfl) (by intro h; cases h) (by rfl) ?_ (by simp [Value.oneCell']) ?_ ?_ ?_ ?_); (focus ((repeat (first | with_reducible exact HM2.out.rn | with_reducible refine World.ownsRow.drew ?_ | with_reducible refine World.ownsRow.alloc ?_ _)); done)); (focus (rintro ad' h j' u hj'; cases h; rw [Addr.add_at]; exact (cell_new _ _ _ _).trans (by simpa using hj'))); (focus (unfold maxLen; omega)); (focus omega); (focus (first | (simp; done) | (simp; omega) | (have := HM2.out.hB; simp; omega) | fail)); intro av1 cv1 wb HPO HRN hgb; (have P := push_end (x := ⟨o, p, q, n⟩) HM2.out HBX.out hrb.out hnb (by first | with_reducible exact mk_alloc _ _ | with_reducible exact mk_alloc_drew _ _ | with_reducible exact mk_drew_alloc _ _ | fail) hgb.out HRN.out); have cb := P.cb; have hbf := P.fb; have hblt := P.lb; have cbm := P.cm; have hmlt := P.lm; have HEND := hid P.rel; clear P HPO HRN hgb)
      | fail)
     all_goals exact hK _ _ (Met.intro (hJ _ _ ⟨_, _, _, _, _, _, _, _, _, _, _, _, _, _, _, _, _, _, _, _, _, _, _, _, _, _, _, _, _, _, _, _, _, _, _, _, _, _, _, _, _, _, _, _, _, _, HEND.out, rfl⟩))
     --stub]
    case rest =>
    obtain ⟨av2, cv2, hm3, hbx3, hk3, hb3x⟩ := hcut
    have n1 := hm3.n1
    have c1 := hm3.c1
    have e1 : (M ++ [(⟨o, p, q, n⟩ : GN)]).length = M.length + 1 := by simp
    rw [e1] at n1
    have z0 := (cell_block hbx3 0).trans (List.getElem?_toArray.trans rfl)
    have z1 := (cell_block hbx3 1).trans (List.getElem?_toArray.trans rfl)
    have z2 := (cell_block hbx3 2).trans (List.getElem?_toArray.trans rfl)
    have z3 := (cell_block hbx3 3).trans (List.getElem?_toArray.trans rfl)
    have c3 := hm3.c3
    have HM3 := hid hm3
    have HK3 := hid (HK2.out.trans hk3)
    have HB3 := hid (HB2.out.trans hb3x)
    clear hm3 hbx3 hk3 hb3x e1
    by_cases ho : o = 4
    · have HS := hid (HM3.out.mp.reg (x := ⟨o, p, q, n⟩) ho)
      subst ho
      go_wp2_with fail
      go_ret
      rw [HE.out]
      exact ⟨rfl, ⟨av2, cv2, (HM3.out.stored (W' := wc) ⟨rfl, rfl, rfl, Nat.le_refl _, fun _ _ _ => rfl⟩ HS.out).1⟩, HK3.out, HB3.out⟩
    · have hnm : (⟨o, p, q, n⟩ : GN) ∉ M := fun h => HF.out ⟨ho, h⟩
      obtain ⟨w4, hrun, hs4, hg4⟩ := store_run HM3.out.mp.drew HX.out ho hnm hM
      have HG4 := hid hg4
      have HS4 := hid hs4
      clear hg4 hs4 hnm
      go_upto_region 7 with fail
      go_region
      go_wp2_with fail
      go_ret
      rw [HE.out]
      have h := HM3.out.drew.stored HG4.out HS4.out
      have hkf := KeepF.stored (bn := bn) (v := .slice av M.length cv) h.2 HG4.out
      exact ⟨rfl, ⟨av2, cv2, h.1⟩, HK3.out.trans hkf, HB3.out.drew.trans (below_grown_from HG4.out HM3.out.hB HM3.out.hbs)⟩
end Go.Proofs.Ytlaeflpddehipaa
