/- sameStmts: the same statements at two places. -/
import Derived.Test.YtlaeflpddehipabGreatDoorSameEx
import Derived.Test.YtlaeflpddehipabGreatDoorSq
import Derived.Test.YtlaeflpddehipabGreatDoorPlaceAt
import Derived.BigQuiet
import Derived.Deep.QuietTactic
import Derived.Deep.DeepCutAuto
import Derived.Test.YtlaeflpddehipabGreatDoorEnds
set_option linter.unusedVariables false
set_option linter.unusedSimpArgs false
namespace Go.Proofs.YtlaeflpddehipabGreatDoor
open Go.RowKit
attribute [local go_sem ↓] Go.wp_at_zero Go.wp_at_succ

theorem RepE.isPtr {w : World} {P : Nat → Prop} {e : Ex} {v : Value} (h : RepE w P e v) : ∃ p, v = .pointer p := by
  cases e with
  | none => exact ⟨none, h⟩
  | node => obtain ⟨b, _, _, e, _⟩ := h; exact ⟨_, e⟩
theorem sameExpr_at {w : World} {e : Ex} {v v' : Value} (h : ExAt w e v) (h' : ExAt w e v') : Calls Tryz.prog 31 #[v, v'] w fun e w' => e = .returned (.bool true) ∧ ∃ m, w' = w.drewN m := sameExpr_any _ _ e v v' w h h'
theorem QSAt.nil (w : World) : QSAt w .nil (.slice none 0 0) := ⟨none, 0, rfl, Nat.le_refl _, .inl rfl⟩
/-- Two operations may come up. -/
theorem wpEnds.two {P : Program} {ops : Array Oper} {Q : Exit → Act → World → Prop} {md : Region.Mode} {S : World → Prop} {L : Nat} (i j : Nat) {o o' : Oper} {n : Nat} {l : Array Bool} {a : Act} {w : World} (hr : Region.ready md ops l = [i, j]) (ho : ops[i]? = some o) (ho' : ops[j]? = some o')
    (h : ∀ K' : Act → World → Prop, Hid (∀ a w, S w → wpEnds P md ops Q S L n (l.setIfInBounds i true) a w → K' a w) → if Region.wanted o (yielded ops a.tmps) = true then Oper.wp P o a w K' Q else K' (a.put o.dst undef) w)
    (h' : ∀ K' : Act → World → Prop, Hid (∀ a w, S w → wpEnds P md ops Q S L n (l.setIfInBounds j true) a w → K' a w) → if Region.wanted o' (yielded ops a.tmps) = true then Oper.wp P o' a w K' Q else K' (a.put o'.dst undef) w) : wpEnds P md ops Q S L (n + 1) l a w := by
  refine ⟨fun h0 => (by rw [h0] at hr; cases hr), fun k hk => ?_⟩
  rw [hr] at hk
  simp only [List.mem_cons, List.not_mem_nil, or_false] at hk
  rcases hk with rfl | rfl
  · exact wpOp_step ho (fun K' hK => h K' (fun a w hS hW => hK a w ⟨fun _ => hS, hW⟩))
  · exact wpOp_step ho' (fun K' hK => h' K' (fun a w hS hW => hK a w ⟨fun _ => hS, hW⟩))
set_option maxRecDepth 100000 in
set_option maxHeartbeats 3200000 in
theorem sameStmts_any : ∀ (N : Nat) (t : Sq), t.tot < N → t.tot ≤ 1000000 → ∀ (v v' : Value) (w : World), QSAt w t v → QSAt w t v' → Calls Tryz.prog 11 #[v, v'] w fun e w' => e = .returned (.bool true) ∧ Below w.heap.size w w' := by
  intro N
  induction N with
  | zero => intro t h; omega
  | succ N ih =>
    intro t hN ht v v' w hv hv'
    have IH := hid ih
    obtain ⟨a, c, rfl, hc, h1⟩ := hv
    obtain ⟨a', c', rfl, hc', h1'⟩ := hv'
    clear ih
    have hlt := t.len_tot
    have hnn : ((t.len : Int) != (t.len : Int)) = false := by simp
    have hnD : decide ((t.len : Int) = (t.len : Int)) = true := decide_eq_true rfl
    go_enter Tryz.func11, Tryz.ntmps11
    go_upto_region 4 with fail
    by_cases h0 : t.len = 0
    · have h0I : ¬ (0 : Int) < (t.len : Int) := by omega
      go_loopw [5] (fun u wr => u = .int .i64 0 ∧ wr = w) (fun _ _ => 0)
      case atStart => exact ⟨rfl, rfl⟩
      case round =>
        obtain ⟨rfl, hwr⟩ := hrel
        subst wr
        go_wp2_with fail
        go_ret
        exact ⟨rfl, Below.refl _ _⟩
    · obtain ⟨g, rfl, hg⟩ := h1.resolve_left h0
      obtain ⟨g', rfl, hg'⟩ := h1'.resolve_left h0
      go_loopw [5] (fun u wr => ∃ (k : Nat) (tr : Sq), u = .int .i64 k ∧ Below w.heap.size w wr ∧ QAt w tr g (k * 8) ∧ QAt w tr g' (k * 8) ∧ k + tr.len = t.len ∧ tr.tot ≤ t.tot) (fun u _ => t.len - (intOf u).toNat)
      case atStart => exact ⟨0, t, rfl, Below.refl _ _, hg, hg', Nat.zero_add _, Nat.le_refl _⟩
      case round =>
        obtain ⟨k, tr, rfl, hb, hc1, hc2, hk, htt⟩ := hrel
        have HB := hid hb
        cases tr with
        | nil =>
          have hkI : ¬ (k : Int) < (t.len : Int) := by simp [Sq.len] at hk; omega
          clear hk htt hb
          go_wp2_with fail
          go_ret
          exact ⟨rfl, HB.out⟩
        | cons ck cl nm e tn n =>
          obtain ⟨x0, x1, x2, ⟨xe, x3, xE⟩, x4, x5, ⟨xa, xc, x6, hxc, xT⟩, x7, _⟩ := hc1.below hb
          obtain ⟨y0, y1, y2, ⟨ye, y3, yE⟩, y4, y5, ⟨ya, yc, y6, hyc, yT⟩, y7, _⟩ := hc2.below hb
          have X8 := hid hc1.2.2.2.2.2.2.2.2
          have Y8 := hid hc2.2.2.2.2.2.2.2.2
          obtain ⟨xp, rfl⟩ := xE.isPtr
          obtain ⟨yp, rfl⟩ := yE.isPtr
          have XE := hid xE
          have YE := hid yE
          have XT := hid (show QSAt wr tn (.slice xa tn.len xc) from ⟨xa, xc, rfl, hxc, xT⟩)
          have YT := hid (show QSAt wr tn (.slice ya tn.len yc) from ⟨ya, yc, rfl, hyc, yT⟩)
          have hkI : (k : Int) < (t.len : Int) := by simp [Sq.len] at hk; omega
          have hk0 : (0 : Int) ≤ (k : Int) := by omega
          have hkl : k < t.len := by omega
          have HKN := hid (show k + 1 + n.len = t.len by simp [Sq.len] at hk; omega)
          have htn : 1 + tn.tot + n.tot ≤ t.tot := htt
          have HTN := hid (show n.tot ≤ t.tot by omega)
          have hl1 : tn.tot < N := by omega
          have hl2 : tn.tot ≤ 1000000 := by omega
          have hl3 := tn.len_tot
          have HN0 := hid (show (Sq.nil).tot < N by have : (Sq.nil).tot = 0 := rfl; omega)
          clear htn hk htt hc1 hc2 xE yE xT yT hb
          go_upto_region 6 with fail
          go_cut [6, 7] (fun s6 s7 wx => ∃ b6 b7, s6 = .pointer (some ⟨b6, 0, none⟩) ∧ s7 = .pointer (some ⟨b7, 0, none⟩) ∧ Below wr.heap.size wr wx ∧ wx.heap[b6]? = some (.cells (sC ck cl nm (.pointer xp) (.slice xa tn.len xc)).toArray 93 (0, 0)) ∧ wx.heap[b7]? = some (.cells (sC ck cl nm (.pointer yp) (.slice ya tn.len yc)).toArray 93 (0, 0)))
          case first =>
            refine wpEnds.begin (fun w' => Below wr.heap.size wr w') 11 (by kernel_rfl) (Below.refl _ _).drew (fun hHeld => ?_)
            refine wpEnds.take 0 10 (v := ?va0) rfl (by kernel_rfl) (by kernel_rfl) (by kernel_rfl) (by kernel_rfl) (by kernel_rfl) (fun _ _ _ h => h) (by kernel_rfl) hHeld (fun w' hSw => ?hya0) ?resta0
            case hya0 => (go_simp; try with_reducible rfl)
            case resta0 =>
            (try simp only [Act.put, List.setIfInBounds_toArray, List.set_cons_zero, List.set_cons_succ])
            refine wpEnds.take 1 10 (v := ?va1) rfl (by kernel_rfl) (by kernel_rfl) (by kernel_rfl) (by kernel_rfl) (by kernel_rfl) (fun _ _ _ h => h) (by kernel_rfl) hHeld (fun w' hSw => ?hya1) ?resta1
            case hya1 => (go_simp; try with_reducible rfl)
            case resta1 =>
            (try simp only [Act.put, List.setIfInBounds_toArray, List.set_cons_zero, List.set_cons_succ])
            refine wpEnds.take 2 10 (v := ?va2) rfl (by kernel_rfl) (by kernel_rfl) (by kernel_rfl) (by kernel_rfl) (by kernel_rfl) (fun _ _ _ h => h) (by kernel_rfl) hHeld (fun w' hSw => ?hya2) ?resta2
            case hya2 => (go_simp; try with_reducible rfl)
            case resta2 =>
            (try simp only [Act.put, List.setIfInBounds_toArray, List.set_cons_zero, List.set_cons_succ])
            refine wpEnds.take 3 10 (v := ?va3) rfl (by kernel_rfl) (by kernel_rfl) (by kernel_rfl) (by kernel_rfl) (by kernel_rfl) (fun _ _ _ h => h) (by kernel_rfl) hHeld (fun w' hSw => ?hya3) ?resta3
            case hya3 => (have e0 := (hSw.cell (boxLt4 x0)).trans x0; have e1 := (hSw.cell (boxLt4 x1)).trans x1; have e2 := (hSw.cell (boxLt4 x2)).trans x2; have e3 := (hSw.cell (boxLt4 x3)).trans x3; have e4 := (hSw.cell (boxLt4 x4)).trans x4; have e5 := (hSw.cell (boxLt4 x5)).trans x5; have e6 := (hSw.cell (boxLt4 x6)).trans x6; have e7 := (hSw.cell (boxLt4 x7)).trans x7; clear hSw; go_simp; try with_reducible rfl)
            case resta3 =>
            (try simp only [Act.put, List.setIfInBounds_toArray, List.set_cons_zero, List.set_cons_succ])
            refine wpEnds.take 4 10 (v := ?va4) rfl (by kernel_rfl) (by kernel_rfl) (by kernel_rfl) (by kernel_rfl) (by kernel_rfl) (fun _ _ _ h => h) (by kernel_rfl) hHeld (fun w' hSw => ?hya4) ?resta4
            case hya4 => (go_simp; try with_reducible rfl)
            case resta4 =>
            (try simp only [Act.put, List.setIfInBounds_toArray, List.set_cons_zero, List.set_cons_succ])
            refine wpEnds.take 5 10 (v := ?va5) rfl (by kernel_rfl) (by kernel_rfl) (by kernel_rfl) (by kernel_rfl) (by kernel_rfl) (fun _ _ _ h => h) (by kernel_rfl) hHeld (fun w' hSw => ?hya5) ?resta5
            case hya5 => (go_simp; try with_reducible rfl)
            case resta5 =>
            (try simp only [Act.put, List.setIfInBounds_toArray, List.set_cons_zero, List.set_cons_succ])
            refine wpEnds.take 6 10 (v := ?va6) rfl (by kernel_rfl) (by kernel_rfl) (by kernel_rfl) (by kernel_rfl) (by kernel_rfl) (fun _ _ _ h => h) (by kernel_rfl) hHeld (fun w' hSw => ?hya6) ?resta6
            case hya6 => (go_simp; try with_reducible rfl)
            case resta6 =>
            (try simp only [Act.put, List.setIfInBounds_toArray, List.set_cons_zero, List.set_cons_succ])
            refine wpEnds.take 7 10 (v := ?va7) rfl (by kernel_rfl) (by kernel_rfl) (by kernel_rfl) (by kernel_rfl) (by kernel_rfl) (fun _ _ _ h => h) (by kernel_rfl) hHeld (fun w' hSw => ?hya7) ?resta7
            case hya7 => (have e0 := (hSw.cell (boxLt4 y0)).trans y0; have e1 := (hSw.cell (boxLt4 y1)).trans y1; have e2 := (hSw.cell (boxLt4 y2)).trans y2; have e3 := (hSw.cell (boxLt4 y3)).trans y3; have e4 := (hSw.cell (boxLt4 y4)).trans y4; have e5 := (hSw.cell (boxLt4 y5)).trans y5; have e6 := (hSw.cell (boxLt4 y6)).trans y6; have e7 := (hSw.cell (boxLt4 y7)).trans y7; clear hSw; go_simp; try with_reducible rfl)
            case resta7 =>
            (try simp only [Act.put, List.setIfInBounds_toArray, List.set_cons_zero, List.set_cons_succ])
            clear hHeld x0 y0 x1 y1 x2 y2 x3 y3 x4 y4 x5 y5 x6 y6 x7 y7
            refine wpEnds.two 8 9 (by kernel_rfl) rfl rfl (fun K hK => ?_) (fun K hK => ?_)
            · go_simp
              refine hK.out _ _ ((Below.refl _ _).alloc (Nat.le_refl _) _).drew ?_
              clear hK K
              (try simp only [Act.put, List.setIfInBounds_toArray, List.set_cons_zero, List.set_cons_succ])
              refine wpEnds.one 9 (by kernel_rfl) rfl (fun K hK => ?_)
              go_simp
              refine hK.out _ _ (((Below.refl _ _).alloc (Nat.le_refl _) _).alloc (by simp) _).drew ?_
              clear hK K
              (try simp only [Act.put, List.setIfInBounds_toArray, List.set_cons_zero, List.set_cons_succ])
              obtain ⟨w2, hw2⟩ : ∃ w2, ((wr.alloc (.cells #[.int .i64 0, .int .i64 0, .string ⟨#[]⟩, .pointer none, .slice none 0 0, .int .i64 0, .slice none 0 0, .slice none 0 0] 93)).alloc (.cells #[.int .i64 0, .int .i64 0, .string ⟨#[]⟩, .pointer none, .slice none 0 0, .int .i64 0, .slice none 0 0, .slice none 0 0] 93)).drew = w2 := ⟨_, rfl⟩
              rw [hw2]
              have hz2 : Below wr.heap.size wr w2 := by rw [← hw2]; exact (((Below.refl _ _).alloc (Nat.le_refl _) _).alloc (by simp) _).drew
              have q1 : w2.heap[wr.heap.size]? = some (.cells #[.int .i64 0, .int .i64 0, .string ⟨#[]⟩, .pointer none, .slice none 0 0, .int .i64 0, .slice none 0 0, .slice none 0 0] 93 (0, 0)) := by rw [← hw2]; exact (((Below.refl _ _).alloc (Nat.le_refl _) _ : Below (wr.alloc _).heap.size (wr.alloc _) _).block _ (by simp)).trans (heap_alloc_new wr _)
              have q2 : w2.heap[wr.heap.size + 1]? = some (.cells #[.int .i64 0, .int .i64 0, .string ⟨#[]⟩, .pointer none, .slice none 0 0, .int .i64 0, .slice none 0 0, .slice none 0 0] 93 (0, 0)) := by rw [← hw2]; have := heap_alloc_new (wr.alloc (.cells #[.int .i64 0, .int .i64 0, .string ⟨#[]⟩, .pointer none, .slice none 0 0, .int .i64 0, .slice none 0 0, .slice none 0 0] 93)) (.cells #[.int .i64 0, .int .i64 0, .string ⟨#[]⟩, .pointer none, .slice none 0 0, .int .i64 0, .slice none 0 0, .slice none 0 0] 93); rwa [World.size_alloc] at this
              clear hw2
              obtain ⟨s, hs⟩ : ∃ s, wr.heap.size = s := ⟨_, rfl⟩
              have HZS := hid hs
              obtain ⟨s1, hs1⟩ : ∃ s1, s + 1 = s1 := ⟨_, rfl⟩
              have HZ1 := hid hs1
              have hss : s ≠ s1 := by omega
              rw [hs] at q1 q2 hz2 ⊢
              rw [hs1] at q2 ⊢
              have HZ2 := hid hz2
              clear hs hs1 hz2
              have e0 : w2.cell? ⟨s, 0, none⟩ = some (.int .i64 0) := (cell_block q1 0).trans rfl
              have e1 : w2.cell? ⟨s, 1, none⟩ = some (.int .i64 0) := (cell_block q1 1).trans rfl
              have e2 : w2.cell? ⟨s, 2, none⟩ = some (.string ⟨#[]⟩) := (cell_block q1 2).trans rfl
              have e3 : w2.cell? ⟨s, 3, none⟩ = some (.pointer none) := (cell_block q1 3).trans rfl
              have e4 : w2.cell? ⟨s, 4, none⟩ = some (.slice none 0 0) := (cell_block q1 4).trans rfl
              have e5 : w2.cell? ⟨s, 5, none⟩ = some (.int .i64 0) := (cell_block q1 5).trans rfl
              have e6 : w2.cell? ⟨s, 6, none⟩ = some (.slice none 0 0) := (cell_block q1 6).trans rfl
              have e7 : w2.cell? ⟨s, 7, none⟩ = some (.slice none 0 0) := (cell_block q1 7).trans rfl
              have fr := free_block q1
              have hl6 := boxLt q1
              refine wpEnds.one 10 (by kernel_rfl) rfl (fun K hK => ?_)
              go_simp
              obtain ⟨g1, g2, g3, g4⟩ := set8 q1 (.int .i64 ck) (.int .i64 cl) (st nm) (.pointer xp) (.slice none 0 0) (.int .i64 0) (.slice xa tn.len xc) (.slice none 0 0)
              obtain ⟨w3, hw3⟩ : ∃ w3, (((((((w2.setCell ⟨s, 0, none⟩ (.int .i64 ck)).setCell ⟨s, 1, none⟩ (.int .i64 cl)).setCell ⟨s, 2, none⟩ (st nm)).setCell ⟨s, 3, none⟩ (.pointer xp)).setCell ⟨s, 4, none⟩ (.slice none 0 0)).setCell ⟨s, 5, none⟩ (.int .i64 0)).setCell ⟨s, 6, none⟩ (.slice xa tn.len xc)).setCell ⟨s, 7, none⟩ (.slice none 0 0) = w3 := ⟨_, rfl⟩
              rw [hw3] at g1 g2 g3 g4 ⊢
              have hz3 := g4 _ _ HZ2.out (by have := HZ1.out; omega)
              have q3 := (g2 _ (Ne.symm hss)).trans q2
              refine hK.out _ _ hz3 ?_
              clear hK K g2 g3 g4 hw3 e0 e1 e2 e3 e4 e5 e6 e7 fr hl6 q1 q2
              (try simp only [Act.put, List.setIfInBounds_toArray, List.set_cons_zero, List.set_cons_succ])
              have e0 : w3.cell? ⟨s1, 0, none⟩ = some (.int .i64 0) := (cell_block q3 0).trans rfl
              have e1 : w3.cell? ⟨s1, 1, none⟩ = some (.int .i64 0) := (cell_block q3 1).trans rfl
              have e2 : w3.cell? ⟨s1, 2, none⟩ = some (.string ⟨#[]⟩) := (cell_block q3 2).trans rfl
              have e3 : w3.cell? ⟨s1, 3, none⟩ = some (.pointer none) := (cell_block q3 3).trans rfl
              have e4 : w3.cell? ⟨s1, 4, none⟩ = some (.slice none 0 0) := (cell_block q3 4).trans rfl
              have e5 : w3.cell? ⟨s1, 5, none⟩ = some (.int .i64 0) := (cell_block q3 5).trans rfl
              have e6 : w3.cell? ⟨s1, 6, none⟩ = some (.slice none 0 0) := (cell_block q3 6).trans rfl
              have e7 : w3.cell? ⟨s1, 7, none⟩ = some (.slice none 0 0) := (cell_block q3 7).trans rfl
              have fr := free_block q3
              have hl7 := boxLt q3
              have HZ3 := hid hz3
              have HG1 := hid g1
              clear hz3
              refine wpEnds.last 11 (by kernel_rfl) (by kernel_rfl) rfl (fun K hK => ?_)
              go_simp
              obtain ⟨g5, g6, g7, g8⟩ := set8 q3 (.int .i64 ck) (.int .i64 cl) (st nm) (.pointer yp) (.slice none 0 0) (.int .i64 0) (.slice ya tn.len yc) (.slice none 0 0)
              obtain ⟨w4, hw4⟩ : ∃ w4, (((((((w3.setCell ⟨s1, 0, none⟩ (.int .i64 ck)).setCell ⟨s1, 1, none⟩ (.int .i64 cl)).setCell ⟨s1, 2, none⟩ (st nm)).setCell ⟨s1, 3, none⟩ (.pointer yp)).setCell ⟨s1, 4, none⟩ (.slice none 0 0)).setCell ⟨s1, 5, none⟩ (.int .i64 0)).setCell ⟨s1, 6, none⟩ (.slice ya tn.len yc)).setCell ⟨s1, 7, none⟩ (.slice none 0 0) = w4 := ⟨_, rfl⟩
              rw [hw4] at g5 g6 g7 g8 ⊢
              have HZ4 := hid (show Below wr.heap.size wr w4 by rw [HZS.out]; exact g8 _ _ HZ3.out (by have := HZ1.out; omega))
              have HG4 := hid ((g6 _ hss).trans HG1.out)
              have HG5 := hid g5
              refine hK.out _ _ ?_
              clear hK K g1 g5 g6 g7 g8 hw4 q3 e0 e1 e2 e3 e4 e5 e6 e7 fr hl7
              (try simp only [Act.put, List.setIfInBounds_toArray, List.set_cons_zero, List.set_cons_succ])
              go_wp2_with fail
              go_meet
              exact ⟨s, s1, rfl, rfl, HZ4.out, HG4.out, HG5.out⟩
            · go_simp
              refine hK.out _ _ ((Below.refl _ _).alloc (Nat.le_refl _) _).drew ?_
              clear hK K
              (try simp only [Act.put, List.setIfInBounds_toArray, List.set_cons_zero, List.set_cons_succ])
              refine wpEnds.one 8 (by kernel_rfl) rfl (fun K hK => ?_)
              go_simp
              refine hK.out _ _ (((Below.refl _ _).alloc (Nat.le_refl _) _).alloc (by simp) _).drew ?_
              clear hK K
              (try simp only [Act.put, List.setIfInBounds_toArray, List.set_cons_zero, List.set_cons_succ])
              obtain ⟨w2, hw2⟩ : ∃ w2, ((wr.alloc (.cells #[.int .i64 0, .int .i64 0, .string ⟨#[]⟩, .pointer none, .slice none 0 0, .int .i64 0, .slice none 0 0, .slice none 0 0] 93)).alloc (.cells #[.int .i64 0, .int .i64 0, .string ⟨#[]⟩, .pointer none, .slice none 0 0, .int .i64 0, .slice none 0 0, .slice none 0 0] 93)).drew = w2 := ⟨_, rfl⟩
              rw [hw2]
              have hz2 : Below wr.heap.size wr w2 := by rw [← hw2]; exact (((Below.refl _ _).alloc (Nat.le_refl _) _).alloc (by simp) _).drew
              have q1 : w2.heap[wr.heap.size]? = some (.cells #[.int .i64 0, .int .i64 0, .string ⟨#[]⟩, .pointer none, .slice none 0 0, .int .i64 0, .slice none 0 0, .slice none 0 0] 93 (0, 0)) := by rw [← hw2]; exact (((Below.refl _ _).alloc (Nat.le_refl _) _ : Below (wr.alloc _).heap.size (wr.alloc _) _).block _ (by simp)).trans (heap_alloc_new wr _)
              have q2 : w2.heap[wr.heap.size + 1]? = some (.cells #[.int .i64 0, .int .i64 0, .string ⟨#[]⟩, .pointer none, .slice none 0 0, .int .i64 0, .slice none 0 0, .slice none 0 0] 93 (0, 0)) := by rw [← hw2]; have := heap_alloc_new (wr.alloc (.cells #[.int .i64 0, .int .i64 0, .string ⟨#[]⟩, .pointer none, .slice none 0 0, .int .i64 0, .slice none 0 0, .slice none 0 0] 93)) (.cells #[.int .i64 0, .int .i64 0, .string ⟨#[]⟩, .pointer none, .slice none 0 0, .int .i64 0, .slice none 0 0, .slice none 0 0] 93); rwa [World.size_alloc] at this
              clear hw2
              obtain ⟨s, hs⟩ : ∃ s, wr.heap.size = s := ⟨_, rfl⟩
              have HZS := hid hs
              obtain ⟨s1, hs1⟩ : ∃ s1, s + 1 = s1 := ⟨_, rfl⟩
              have HZ1 := hid hs1
              have hss : s ≠ s1 := by omega
              rw [hs] at q1 q2 hz2 ⊢
              rw [hs1] at q2 ⊢
              have HZ2 := hid hz2
              clear hs hs1 hz2
              have e0 : w2.cell? ⟨s1, 0, none⟩ = some (.int .i64 0) := (cell_block q2 0).trans rfl
              have e1 : w2.cell? ⟨s1, 1, none⟩ = some (.int .i64 0) := (cell_block q2 1).trans rfl
              have e2 : w2.cell? ⟨s1, 2, none⟩ = some (.string ⟨#[]⟩) := (cell_block q2 2).trans rfl
              have e3 : w2.cell? ⟨s1, 3, none⟩ = some (.pointer none) := (cell_block q2 3).trans rfl
              have e4 : w2.cell? ⟨s1, 4, none⟩ = some (.slice none 0 0) := (cell_block q2 4).trans rfl
              have e5 : w2.cell? ⟨s1, 5, none⟩ = some (.int .i64 0) := (cell_block q2 5).trans rfl
              have e6 : w2.cell? ⟨s1, 6, none⟩ = some (.slice none 0 0) := (cell_block q2 6).trans rfl
              have e7 : w2.cell? ⟨s1, 7, none⟩ = some (.slice none 0 0) := (cell_block q2 7).trans rfl
              have fr := free_block q2
              have hl6 := boxLt q2
              refine wpEnds.one 10 (by kernel_rfl) rfl (fun K hK => ?_)
              go_simp
              obtain ⟨g1, g2, g3, g4⟩ := set8 q2 (.int .i64 ck) (.int .i64 cl) (st nm) (.pointer xp) (.slice none 0 0) (.int .i64 0) (.slice xa tn.len xc) (.slice none 0 0)
              obtain ⟨w3, hw3⟩ : ∃ w3, (((((((w2.setCell ⟨s1, 0, none⟩ (.int .i64 ck)).setCell ⟨s1, 1, none⟩ (.int .i64 cl)).setCell ⟨s1, 2, none⟩ (st nm)).setCell ⟨s1, 3, none⟩ (.pointer xp)).setCell ⟨s1, 4, none⟩ (.slice none 0 0)).setCell ⟨s1, 5, none⟩ (.int .i64 0)).setCell ⟨s1, 6, none⟩ (.slice xa tn.len xc)).setCell ⟨s1, 7, none⟩ (.slice none 0 0) = w3 := ⟨_, rfl⟩
              rw [hw3] at g1 g2 g3 g4 ⊢
              have hz3 := g4 _ _ HZ2.out (by have := HZ1.out; omega)
              have q3 := (g2 _ hss).trans q1
              refine hK.out _ _ hz3 ?_
              clear hK K g2 g3 g4 hw3 e0 e1 e2 e3 e4 e5 e6 e7 fr hl6 q1 q2
              (try simp only [Act.put, List.setIfInBounds_toArray, List.set_cons_zero, List.set_cons_succ])
              have e0 : w3.cell? ⟨s, 0, none⟩ = some (.int .i64 0) := (cell_block q3 0).trans rfl
              have e1 : w3.cell? ⟨s, 1, none⟩ = some (.int .i64 0) := (cell_block q3 1).trans rfl
              have e2 : w3.cell? ⟨s, 2, none⟩ = some (.string ⟨#[]⟩) := (cell_block q3 2).trans rfl
              have e3 : w3.cell? ⟨s, 3, none⟩ = some (.pointer none) := (cell_block q3 3).trans rfl
              have e4 : w3.cell? ⟨s, 4, none⟩ = some (.slice none 0 0) := (cell_block q3 4).trans rfl
              have e5 : w3.cell? ⟨s, 5, none⟩ = some (.int .i64 0) := (cell_block q3 5).trans rfl
              have e6 : w3.cell? ⟨s, 6, none⟩ = some (.slice none 0 0) := (cell_block q3 6).trans rfl
              have e7 : w3.cell? ⟨s, 7, none⟩ = some (.slice none 0 0) := (cell_block q3 7).trans rfl
              have fr := free_block q3
              have hl7 := boxLt q3
              have HZ3 := hid hz3
              have HG1 := hid g1
              clear hz3
              refine wpEnds.last 11 (by kernel_rfl) (by kernel_rfl) rfl (fun K hK => ?_)
              go_simp
              obtain ⟨g5, g6, g7, g8⟩ := set8 q3 (.int .i64 ck) (.int .i64 cl) (st nm) (.pointer yp) (.slice none 0 0) (.int .i64 0) (.slice ya tn.len yc) (.slice none 0 0)
              obtain ⟨w4, hw4⟩ : ∃ w4, (((((((w3.setCell ⟨s, 0, none⟩ (.int .i64 ck)).setCell ⟨s, 1, none⟩ (.int .i64 cl)).setCell ⟨s, 2, none⟩ (st nm)).setCell ⟨s, 3, none⟩ (.pointer yp)).setCell ⟨s, 4, none⟩ (.slice none 0 0)).setCell ⟨s, 5, none⟩ (.int .i64 0)).setCell ⟨s, 6, none⟩ (.slice ya tn.len yc)).setCell ⟨s, 7, none⟩ (.slice none 0 0) = w4 := ⟨_, rfl⟩
              rw [hw4] at g5 g6 g7 g8 ⊢
              have HZ4 := hid (show Below wr.heap.size wr w4 by rw [HZS.out]; exact g8 _ _ HZ3.out (by have := HZ1.out; omega))
              have HG4 := hid ((g6 _ (Ne.symm hss)).trans HG1.out)
              have HG5 := hid g5
              refine hK.out _ _ ?_
              clear hK K g1 g5 g6 g7 g8 hw4 q3 e0 e1 e2 e3 e4 e5 e6 e7 fr hl7
              (try simp only [Act.put, List.setIfInBounds_toArray, List.set_cons_zero, List.set_cons_succ])
              go_wp2_with fail
              go_meet
              exact ⟨s1, s, rfl, rfl, HZ4.out, HG4.out, HG5.out⟩
          case rest =>
            obtain ⟨b6, b7, rfl, rfl, hbx, hB6, hB7⟩ := hcut
            obtain ⟨w6, rfl⟩ : ∃ wo : World, wo = wc := ⟨_, rfl⟩
            have HBX := hid hbx
            have XE6 := hid (XE.out.below hbx)
            have YE6 := hid (YE.out.below hbx)
            have XT6 := hid (XT.out.below hbx)
            have YT6 := hid (YT.out.below hbx)
            have hl6 := boxLt hB6
            have hl7 := boxLt hB7
            have HC6 := hid hB6
            have HC7 := hid hB7
            have hsn : (nm == nm) = true := by simp
            have p0 : w6.cell? ⟨b6, 0, none⟩ = some (.int .i64 ck) := (cell_block hB6 0).trans rfl
            have p1 : w6.cell? ⟨b6, 1, none⟩ = some (.int .i64 cl) := (cell_block hB6 1).trans rfl
            have p2 : w6.cell? ⟨b6, 2, none⟩ = some (st nm) := (cell_block hB6 2).trans rfl
            have p3 : w6.cell? ⟨b6, 3, none⟩ = some (.pointer xp) := (cell_block hB6 3).trans rfl
            have p4 : w6.cell? ⟨b6, 4, none⟩ = some (.slice none 0 0) := (cell_block hB6 4).trans rfl
            have p5 : w6.cell? ⟨b6, 5, none⟩ = some (.int .i64 0) := (cell_block hB6 5).trans rfl
            have p6 : w6.cell? ⟨b6, 6, none⟩ = some (.slice xa tn.len xc) := (cell_block hB6 6).trans rfl
            have p7 : w6.cell? ⟨b6, 7, none⟩ = some (.slice none 0 0) := (cell_block hB6 7).trans rfl
            have q0 : w6.cell? ⟨b7, 0, none⟩ = some (.int .i64 ck) := (cell_block hB7 0).trans rfl
            have q1 : w6.cell? ⟨b7, 1, none⟩ = some (.int .i64 cl) := (cell_block hB7 1).trans rfl
            have q2 : w6.cell? ⟨b7, 2, none⟩ = some (st nm) := (cell_block hB7 2).trans rfl
            have q3 : w6.cell? ⟨b7, 3, none⟩ = some (.pointer yp) := (cell_block hB7 3).trans rfl
            have q4 : w6.cell? ⟨b7, 4, none⟩ = some (.slice none 0 0) := (cell_block hB7 4).trans rfl
            have q5 : w6.cell? ⟨b7, 5, none⟩ = some (.int .i64 0) := (cell_block hB7 5).trans rfl
            have q6 : w6.cell? ⟨b7, 6, none⟩ = some (.slice ya tn.len yc) := (cell_block hB7 6).trans rfl
            have q7 : w6.cell? ⟨b7, 7, none⟩ = some (.slice none 0 0) := (cell_block hB7 7).trans rfl
            clear hbx hB6 hB7 x0 x1 x2 x3 x4 x5 x6 x7 y0 y1 y2 y3 y4 y5 y6 y7
            go_upto_region 9 with (first
              | (go_at_call 31; (with_reducible refine (sameExpr_at XE6.out YE6.out).mono ?_); rintro e0 w7 ⟨rfl, m, hm⟩; have HW7 := hid (show Below w6.heap.size w6 w7 by rw [hm]; exact below_drewN (Below.refl _ _) m); clear hm; have HC67 := hid ((HW7.out.block b6 hl6).trans HC6.out); have HC77 := hid ((HW7.out.block b7 hl7).trans HC7.out); have f4 : w7.cell? ⟨b6, 4, none⟩ = some (.slice none 0 0) := (cell_block HC67.out 4).trans rfl; have f6 : w7.cell? ⟨b6, 6, none⟩ = some (.slice xa tn.len xc) := (cell_block HC67.out 6).trans rfl; have f7 : w7.cell? ⟨b6, 7, none⟩ = some (.slice none 0 0) := (cell_block HC67.out 7).trans rfl; have h4 : w7.cell? ⟨b7, 4, none⟩ = some (.slice none 0 0) := (cell_block HC77.out 4).trans rfl; have h6 : w7.cell? ⟨b7, 6, none⟩ = some (.slice ya tn.len yc) := (cell_block HC77.out 6).trans rfl; have h7 : w7.cell? ⟨b7, 7, none⟩ = some (.slice none 0 0) := (cell_block HC77.out 7).trans rfl)
              | (go_at_call 11; (with_reducible refine (IH.out tn hl1 hl2 _ _ w7 (XT6.out.below HW7.out) (YT6.out.below HW7.out)).mono ?_); rintro e1 w8 ⟨rfl, h8⟩; have HW8 := hid (HW7.out.trans (h8.mono HW7.out.size)); clear h8; have HC68 := hid ((HW8.out.block b6 hl6).trans HC6.out); have HC78 := hid ((HW8.out.block b7 hl7).trans HC7.out); have k4 : w8.cell? ⟨b6, 4, none⟩ = some (.slice none 0 0) := (cell_block HC68.out 4).trans rfl; have k6 : w8.cell? ⟨b6, 6, none⟩ = some (.slice xa tn.len xc) := (cell_block HC68.out 6).trans rfl; have k7 : w8.cell? ⟨b6, 7, none⟩ = some (.slice none 0 0) := (cell_block HC68.out 7).trans rfl; have m4 : w8.cell? ⟨b7, 4, none⟩ = some (.slice none 0 0) := (cell_block HC78.out 4).trans rfl; have m6 : w8.cell? ⟨b7, 6, none⟩ = some (.slice ya tn.len yc) := (cell_block HC78.out 6).trans rfl; have m7 : w8.cell? ⟨b7, 7, none⟩ = some (.slice none 0 0) := (cell_block HC78.out 7).trans rfl)
              | (go_at_call 11; (with_reducible refine (IH.out .nil HN0.out (Nat.zero_le _) _ _ w8 (QSAt.nil _) (QSAt.nil _)).mono ?_); rintro e2 w9 ⟨rfl, h9⟩; have HW9 := hid (HW8.out.trans (h9.mono HW8.out.size)); clear h9; have HC69 := hid ((HW9.out.block b6 hl6).trans HC6.out); have z4 : w9.cell? ⟨b6, 4, none⟩ = some (.slice none 0 0) := (cell_block HC69.out 4).trans rfl))
            have HBW := hid (HB.out.trans ((HBX.out.trans (HW9.out.mono HBX.out.size)).mono HB.out.size))
            clear p0 p1 p2 p3 p4 p5 p6 p7 q0 q1 q2 q3 q4 q5 q6 q7 f4 f6 f7 h4 h6 h7 k4 k6 k7 m4 m6 m7
            go_wp2_with fail
            go_loopw [8] (fun u wr => u = .int .i64 0 ∧ wr = w9) (fun _ _ => 0)
            case atStart => exact ⟨rfl, rfl⟩
            case round =>
              obtain ⟨rfl, hwr⟩ := hrel
              subst hwr
              go_wp2_with fail
              go_roundw
              case rel => exact ⟨k + 1, n, by go_num, HBW.out, by rw [Nat.succ_mul]; exact X8.out, by rw [Nat.succ_mul]; exact Y8.out, HKN.out, HTN.out⟩
              case measure => simp [intOf]; omega
end Go.Proofs.YtlaeflpddehipabGreatDoor
