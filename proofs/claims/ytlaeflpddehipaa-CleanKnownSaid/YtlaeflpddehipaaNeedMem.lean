/- clean.needed: what it holds in memory; its closure, walked. -/
import Derived.Test.YtlaeflpddehipaaStill
import Derived.Test.YtlaeflpddehipaaNeedPlain
set_option linter.unusedVariables false
namespace Go.Proofs.Ytlaeflpddehipaa
open Go.RowKit
attribute [local go_sem ↓] Go.wp_at_zero Go.wp_at_succ

theorem Try.infoIntN : (Try.prog.info? 3).map (fun i => (i.zero, i.size, i.bytes)) = some (some (.int .i64 0), 1, 8) := by kernel_rfl
structure NeedAt (B b3 b4 br : Nat) (av : Option Addr) (cv : Nat) (need : List Bool) (wait : List Int) (W : World) : Prop where
  h3 : B ≤ b3
  h4 : B ≤ b4
  hr : B ≤ br
  hB : B ≤ W.heap.size
  box3 : W.heap[b3]? = some (.cells #[.slice (some ⟨br, 0, none⟩) need.length need.length] 41 (0, 0))
  box4 : W.heap[b4]? = some (.cells #[.slice av wait.length cv] 24 (0, 0))
  rw : W.ownsRow B 3 1 (.slice av wait.length cv) wait.length (wait.map (.int .i64))
  row : Row W br need
def KeepN (W W' : World) : Prop := ∀ (k : Nat) (c : Array Value) (T : TypeId), W.heap[k]? = some (Obj.cells c T (0, 0)) → T ≠ 4 → T ≠ 3 → T ≠ 24 → W'.heap[k]? = some (Obj.cells c T (0, 0))
theorem KeepN.refl (W : World) : KeepN W W := fun _ _ _ h _ _ _ => h
theorem KeepN.trans {A B C : World} (h : KeepN A B) (h' : KeepN B C) : KeepN A C := fun k c T hk h1 h2 h3 => h' k c T (h k c T hk h1 h2 h3) h1 h2 h3
theorem KeepN.below {A B : World} (h : Below A.heap.size A B) : KeepN A B := fun k c T hk _ _ _ => (h.block k (boxLt hk)).trans hk
section
variable {B b3 b4 br : Nat} {av : Option Addr} {cv : Nat} {need : List Bool} {wait : List Int} {W W' : World}
theorem NeedAt.stay (h : NeedAt B b3 b4 br av cv need wait W) (hb : Below W.heap.size W W') : NeedAt B b3 b4 br av cv need wait W' :=
  ⟨h.h3, h.h4, h.hr, Nat.le_trans h.hB hb.size, (hb.block _ (boxLt h.box3)).trans h.box3, (hb.block _ (boxLt h.box4)).trans h.box4, rowOld h.rw hb, (hb.block _ (boxLt h.row)).trans h.row⟩
theorem NeedAt.c3 (h : NeedAt B b3 b4 br av cv need wait W) : W.cell? ⟨b3, 0, none⟩ = some (.slice (some ⟨br, 0, none⟩) need.length need.length) := (cell_block h.box3 0).trans rfl
theorem NeedAt.c4 (h : NeedAt B b3 b4 br av cv need wait W) : W.cell? ⟨b4, 0, none⟩ = some (.slice av wait.length cv) := (cell_block h.box4 0).trans rfl
theorem NeedAt.mark (h : NeedAt B b3 b4 br av cv need wait W) (k : Nat) (v : Bool) : NeedAt B b3 b4 br av cv (need.set k v) wait (W.setCell ⟨br, k, none⟩ (.bool v)) ∧ KeepN W (W.setCell ⟨br, k, none⟩ (.bool v)) := by
  have e2 : (W.setCell ⟨br, k, none⟩ (.bool v)).heap.size = W.heap.size := by simp [World.setCell]
  refine ⟨⟨h.h3, h.h4, h.hr, by rw [e2]; exact h.hB, ?_, ?_, rowSet h.rw h.row (by decide) _ _, h.row.set k v⟩, ?_⟩
  · rw [heap_setCell_other _ _ _ _ (by exact boxNe h.box3 h.row (by decide)), List.length_set]; exact h.box3
  · rw [heap_setCell_other _ _ _ _ (by exact boxNe h.box4 h.row (by decide))]; exact h.box4
  · intro j c T hj h1 _ _
    rw [heap_setCell_other _ _ _ _ (by exact boxNe hj h.row h1)]; exact hj
theorem NeedAt.push {wb W1 : World} {x : Int} {av' : Option Addr} {cv' : Nat} (h : NeedAt B b3 b4 br av cv need wait W1) (hg : W1.grownBy wb (Value.slice av wait.length cv).ownBlock)
    (hown : wb.ownsRow B 3 1 (.slice av' (wait.length + 1) cv') (wait.length + 1) (wait.map (.int .i64) ++ [.int .i64 x])) :
    wb.heap[b4]? = some (.cells #[.slice av wait.length cv] 24 (0, 0)) ∧ NeedAt B b3 b4 br av' cv' need (wait ++ [x]) (wb.setCell ⟨b4, 0, none⟩ (.slice av' (wait.length + 1) cv')) ∧ KeepN W1 (wb.setCell ⟨b4, 0, none⟩ (.slice av' (wait.length + 1) cv')) := by
  have h4 := boxCross hg h.rw h.box4 (by decide)
  have h3 := boxCross hg h.rw h.box3 (by decide)
  have hr := boxCross hg h.rw h.row (by decide)
  have e : (wait ++ [x]).length = wait.length + 1 := by simp
  have e3 : wait.map (Value.int .i64) ++ [.int .i64 x] = (wait ++ [x]).map (.int .i64) := by simp
  have e2 : (wb.setCell ⟨b4, 0, none⟩ (.slice av' (wait.length + 1) cv')).heap.size = wb.heap.size := by simp [World.setCell]
  refine ⟨h4, ⟨h.h3, h.h4, h.hr, by rw [e2]; exact Nat.le_trans h.hB hg.size, ?_, ?_, ?_, ?_⟩, ?_⟩
  · rw [heap_setCell_other _ _ _ _ (by exact boxNe h3 h4 (by decide))]; exact h3
  · rw [boxSet h4, e]; rfl
  · rw [e3] at hown; rw [e]; exact rowSet hown h4 (by decide) _ _
  · show (wb.setCell _ _).heap[br]? = _
    rw [heap_setCell_other _ _ _ _ (by exact boxNe hr h4 (by decide))]; exact hr
  · intro j c T hj _ h2 h5
    have hj' := boxCross hg h.rw hj (fun e => h2 e.symm)
    rw [heap_setCell_other _ _ _ _ (by exact boxNe hj' h4 h5)]; exact hj'
/-- The last is taken off. -/
theorem NeedAt.pop {x : Int} (h : NeedAt B b3 b4 br av cv need (wait ++ [x]) W) : NeedAt B b3 b4 br av cv need wait (W.setCell ⟨b4, 0, none⟩ (.slice av wait.length cv)) ∧ KeepN W (W.setCell ⟨b4, 0, none⟩ (.slice av wait.length cv)) := by
  have e2 : (W.setCell ⟨b4, 0, none⟩ (.slice av wait.length cv)).heap.size = W.heap.size := by simp [World.setCell]
  have hrw : W.ownsRow B 3 1 (.slice av wait.length cv) wait.length (wait.map (.int .i64)) := by
    obtain ⟨hl, h1⟩ := h.rw
    refine ⟨by simp, ?_⟩
    rcases h1 with ⟨hv, hn⟩ | ⟨gb, cap, cur, hv, h1, h2, h3, h4, h5, h6⟩
    · simp at hn
    · right
      simp only [Value.slice.injEq, true_and] at hv
      obtain ⟨rfl, rfl⟩ := hv
      refine ⟨gb, cv, cur, rfl, h1, h2, by simp at h3; omega, h4, h5, ?_⟩
      have e : (wait ++ [x]).map (Value.int .i64) = wait.map (.int .i64) ++ [.int .i64 x] := by simp
      rw [e] at h6
      have h7 := congrArg (List.take (wait.length * 1)) h6
      rw [List.take_take] at h7
      have e3 : min (wait.length * 1) ((wait ++ [x]).length * 1) = wait.length * 1 := by simp
      rw [e3] at h7
      rw [h7, List.take_append_of_le_length (by simp), List.take_of_length_le (by simp)]
  refine ⟨⟨h.h3, h.h4, h.hr, by rw [e2]; exact h.hB, ?_, ?_, rowSet hrw h.box4 (by decide) _ _, ?_⟩, ?_⟩
  · rw [heap_setCell_other _ _ _ _ (by exact boxNe h.box3 h.box4 (by decide))]; exact h.box3
  · rw [boxSet h.box4]; rfl
  · show (W.setCell _ _).heap[br]? = _
    rw [heap_setCell_other _ _ _ _ (by exact boxNe h.row h.box4 (by decide))]; exact h.row
  · intro j c T hj _ _ h5
    rw [heap_setCell_other _ _ _ _ (by exact boxNe hj h.box4 h5)]; exact hj

/-- 'append(out, x)': out is the call's own, x was just laid. -/
theorem wpList_push_b {P : Program} {ops : Array Oper} {rest : List Oper} {o : Oper} {a : Act} {Q : Exit → Act → World → Prop} (W1 wr : World) (hgd : o.guard = none) (s x : Operand) (t : TypeId)
    (ho : o.op = .call { callee := .builtin .append, args := #[s, x], argTypes := #[t, t] }) (B : Nat)
    (e : TypeId) (i : TypeInfo) (z : Value) (size bytes : Nat) (ht : P.underlying t = some (.slice e)) (hi : P.info? e = some i) (hz : i.zero = some z)
    (hsize : i.size = size) (hby : i.bytes = bytes) (hzs : z.cells.size = size) (hsz : 0 < size)
    (v : Value) (n : Nat) (xs : List Value) (hs : a.eval s = v) (hown : wr.ownsRow B e size v n xs)
    (cs : Array Value) (hW : W1 = wr.alloc (.cells cs e)) (hx : a.eval x = .slice (some ⟨wr.heap.size, 0, none⟩) 1 1) (hl : cs.size = size) (h1 : cs.toList.all Value.oneCell' = true)
    (h63 : n + 1 ≤ maxLen) (hbytes : (n + 1) * bytes ≤ 140737488355328) (hB : B ≤ wr.heap.size)
    (h : ∀ av' cv' wb, Hid (wb.ownsRow B e size (.slice av' (n + 1) cv') (n + 1) (xs ++ cs.toList)) → Hid ((wr.alloc (.cells cs e)).grownBy wb v.ownBlock) → wpList P ops Q rest (a.put o.dst (.slice av' (n + 1) cv')) wb) :
    wpList P ops Q (o :: rest) a W1 := by
  subst hW
  have hbig : B ≤ (wr.alloc (.cells cs e)).heap.size := Nat.le_trans hB (by simp)
  refine wpList_append_own _ hgd s x t ho B e i z size bytes ht hi hz hsize hby hzs hsz v n xs hs (hown.alloc _) ⟨wr.heap.size, 0, none⟩ 1 1 cs.toList hx (by simpa using hl) ?_ (fun u hu => List.all_eq_true.1 h1 u hu) h63 hbytes hbig ?_
  · intro j u hj
    rw [Addr.add_at, cell_new]
    simpa using hj
  · intro v' wb h2 h3 _
    obtain ⟨av', cv', rfl⟩ := owns_slice h2
    exact h av' cv' wb h2 h3
set_option maxRecDepth 100000 in
set_option maxHeartbeats 6400000 in
theorem add_any (k : Nat) (hk : k < need.length) (hw : wait.length ≤ 100000) (W : World) (h : NeedAt B b3 b4 br av cv need wait W) :
    Calls Try.prog 83 #[.int .i64 ((k : Nat) : Int), .pointer (some ⟨b3, 0, none⟩), .pointer (some ⟨b4, 0, none⟩)] W fun e w' =>
      e = .returned (.tuple #[]) ∧ (∃ av' cv', NeedAt B b3 b4 br av' cv' (addW need wait k).1 (addW need wait k).2 w') ∧ KeepN W w' ∧ Below B W w' := by
  obtain ⟨i0, hi, hz0, hz1, hz2⟩ := info_parts Try.infoIntN
  have c3 := h.c3
  have c4 := h.c4
  have cr := h.row.cell k hk
  have hfr := h.row.free
  have hkI : ((k : Nat) : Int) < (need.length : Int) := by omega
  have HN := hid h
  have hB := h.hB
  clear h
  cases hv : need.getD k false
  · have e : addW need wait k = (need.set k true, wait ++ [(k : Int)]) := by unfold addW; rw [hv]; rfl
    have hm := HN.out.mark k true
    have HE := hid e
    have HM := hid hm
    have ne3 := boxNe HN.out.box3 HN.out.row (by decide)
    have ne4 := boxNe HN.out.box4 HN.out.row (by decide)
    rw [hv] at cr
    clear e hm hv
    go_enter Try.func83, Try.ntmps83
    go_upto_region 2 with fail
    have hbel1 := (Below.refl B W).setCell (p := ⟨br, k, none⟩) HN.out.hr (.bool true)
    generalize W.setCell ⟨br, k, none⟩ (.bool true) = w1 at *
    have c4' := HM.out.1.c4
    have HB1 := hid hbel1
    clear hbel1 c3 c4 cr hfr
    go_wp2_with (at_builtin; refine wpList_push_b _ w1 rfl _ _ 24 rfl B 3 i0 _ 1 8 Try.underlying24 hi hz0 hz1 hz2 rfl (by decide) (.slice av wait.length cv) wait.length (wait.map (.int .i64)) rfl HM.out.1.rw _ rfl rfl rfl rfl (by unfold maxLen; omega) (by omega) HM.out.1.hB ?_; intro av' cv' wb HRN hgb; (have P := NeedAt.push (x := (k : Int)) (HM.out.1.stay (mk_alloc _ _)) hgb.out HRN.out); (have cb := (cell_block P.1 0).trans (List.getElem?_toArray.trans rfl)); have hbf := free_block P.1; have hblt := boxLt P.1; have HP := hid P.2; (have HBW := hid ((((HB1.out.trans ((mk_alloc w1 _).mono HM.out.1.hB)).grown hgb.out (Nat.le_trans HM.out.1.hB (mk_alloc w1 _).size) (fun k hk => (HM.out.1.rw.lt k hk).1)).setCell (p := ⟨b4, 0, none⟩) HN.out.h4 (.slice av' (wait.length + 1) cv')))); clear P)
    go_end0
    rw [HE.out]
    exact ⟨rfl, ⟨_, _, HP.out.1⟩, HM.out.2.trans ((KeepN.below (mk_alloc _ _)).trans HP.out.2), HBW.out⟩
  · have e : addW need wait k = (need, wait) := by unfold addW; rw [hv]; rfl
    have HE := hid e
    rw [hv] at cr
    clear e hv
    go_enter Try.func83, Try.ntmps83
    go_wp2_with fail
    go_end0
    rw [HE.out]
    exact ⟨rfl, ⟨_, _, HN.out⟩, KeepN.refl _, Below.refl _ _⟩
end
end Go.Proofs.Ytlaeflpddehipaa
