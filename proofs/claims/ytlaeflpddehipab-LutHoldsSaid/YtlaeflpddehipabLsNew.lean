/- Simulators of nets of tables: New, Regs, Put (written by gen_lsnew.py). -/
import Derived.Test.YtlaeflpddehipabLsPlain
import Derived.Test.YtlaeflpddehipabLnRight
import Derived.Test.YtlaeflpddehipabOwnRow
import Derived.Test.YtlaeflpddehipabEnds
import Derived.Test.YtlaeflpddehipabNetNew
set_option linter.unusedVariables false
set_option linter.unusedSimpArgs false
set_option linter.unusedSectionVars false
namespace Go.Proofs.Ytlaeflpddehipab
open Go.RowKit
attribute [local go_sem ↓] Go.wp_at_zero Go.wp_at_succ

theorem Try.lsInfoBool : (Try.prog.info? 4).map (fun i => (i.zero, i.size, i.bytes)) = some (some (.bool false), 1, 1) := by kernel_rfl
theorem lsBase {w : World} {base base' e size n : Nat} {v : Value} {xs : List Value} (h : w.ownsRow base e size v n xs) (hb : base' ≤ base) : w.ownsRow base' e size v n xs := by
  obtain ⟨h1, h2⟩ := h
  refine ⟨h1, ?_⟩
  rcases h2 with h2 | ⟨g, cap, cur, hv, hg, h3⟩
  · exact .inl h2
  · exact .inr ⟨g, cap, cur, hv, Nat.le_trans hb hg, h3⟩
/-- A simulator at block s, of the net at block b, its registers in a row of its own. -/
def LSim (C : Nat) (W : World) (s b : Nat) (l : List Bool) : Prop :=
  ∃ a c, C ≤ s ∧ W.heap[s]? = some (.cells #[.pointer (some ⟨b, 0, none⟩), .slice a l.length c] 56 (0, 0)) ∧ W.ownsRow C 4 1 (.slice a l.length c) l.length (l.map .bool)
theorem LSim.stay {C : Nat} {W W' : World} {s b : Nat} {l : List Bool} (h : LSim C W s b l) (hb : Below W.heap.size W W') : LSim C W' s b l := by
  obtain ⟨a, c, h0, h1, h2⟩ := h
  exact ⟨a, c, h0, (hb.block s (boxLt h1)).trans h1, rowOld h2 hb⟩
theorem LSim.base {C C' : Nat} {W : World} {s b : Nat} {l : List Bool} (h : LSim C W s b l) (hC : C' ≤ C) : LSim C' W s b l := by
  obtain ⟨a, c, h0, h1, h2⟩ := h
  exact ⟨a, c, Nat.le_trans hC h0, h1, lsBase h2 hC⟩
theorem LSim.lt {C : Nat} {W : World} {s b : Nat} {l : List Bool} (h : LSim C W s b l) : s < W.heap.size := by
  obtain ⟨a, c, h0, h1, h2⟩ := h
  exact boxLt h1
theorem ls_alloc (w : World) (o : Obj) : Below w.heap.size w (w.alloc o).drew := ((Below.refl _ _).alloc (Nat.le_refl _) o).drew
/-- One register more. -/
theorem ls_push {C s b : Nat} {a av : Option Addr} {c cv : Nat} {w wr W1 wb : World} {l : List Bool} {x : Bool} (hbm : C ≤ s) (hC : C ≤ w.heap.size)
    (hm : wr.heap[s]? = some (.cells #[.pointer (some ⟨b, 0, none⟩), .slice a l.length c] 56 (0, 0)))
    (hR : wr.ownsRow C 4 1 (.slice a l.length c) l.length (l.map .bool)) (hbe : Below C w wr)
    (hb : Below wr.heap.size wr W1) (hg : W1.grownBy wb (Value.slice a l.length c).ownBlock)
    (hown : wb.ownsRow C 4 1 (.slice av (l.length + 1) cv) (l.length + 1) (l.map .bool ++ [.bool x])) :
    wb.heap[s]? = some (.cells #[.pointer (some ⟨b, 0, none⟩), .slice a l.length c] 56 (0, 0)) ∧ Below C w wb ∧ LSim C (wb.setCell ⟨s, 1, none⟩ (.slice av (l.length + 1) cv)) s b (l ++ [x]) ∧ Below C w (wb.setCell ⟨s, 1, none⟩ (.slice av (l.length + 1) cv)) := by
  have hm1 := (hb.block s (boxLt hm)).trans hm
  have hR1 := rowOld hR hb
  have hmb := boxCross hg hR1 hm1 (by decide)
  have hbw : Below C w wb := (hbe.trans (hb.mono (Nat.le_trans hC hbe.size))).grown hg (Nat.le_trans hC (Nat.le_trans hbe.size hb.size)) (fun k hk => (hR1.lt k hk).1)
  have e : (l ++ [x]).length = l.length + 1 := by simp
  refine ⟨hmb, hbw, ⟨av, cv, hbm, ?_, ?_⟩, hbw.setCell hbm _⟩
  · rw [boxSet hmb 1, e]; simp
  · rw [e, List.map_append]
    exact rowSet hown hmb (by decide) _ _

section
variable (B b : Nat) (y : Lay) (L : LN) (w : World)
set_option maxHeartbeats 800000 in
theorem LsNew_wrong (h : LnIn B w b y L) (hBw : B ≤ w.heap.size) (hr : L.right = false) :
    Calls Try.prog 6 #[.pointer (some ⟨b, 0, none⟩)] w fun e w' => e = .returned (.tuple #[.pointer none, .iface 54 (.int .i64 1)]) ∧ Below w.heap.size w w' := by
  have HR := hid hr
  have H := hid h
  clear h hr
  go_enter Try.func6, Try.ntmps6
  go_wp2_with (go_at_call 7; (with_reducible refine (LnRight_any B b y L _ H.out hBw).mono ?_); rintro e w1 ⟨rfl, hbel⟩; rw [HR.out])
  go_ret2
  exact ⟨rfl, hbel⟩
set_option maxRecDepth 100000 in
set_option maxHeartbeats 6400000 in
theorem LsNew_right (h : LnIn B w b y L) (hBw : B ≤ w.heap.size) (hr : L.right = true) :
    Calls Try.prog 6 #[.pointer (some ⟨b, 0, none⟩)] w fun e w' => ∃ s, e = .returned (.tuple #[.pointer (some ⟨s, 0, none⟩), .nilIface]) ∧ LSim w.heap.size w' s b L.first ∧ Below w.heap.size w w' := by
  obtain ⟨i0, hi, hz0, hz1, hz2⟩ := info_parts Try.lsInfoBool
  have HR := hid hr
  have H := hid h
  have hz : L.sizes = true := by
    unfold LN.right at hr
    simp only [Bool.and_eq_true] at hr
    exact hr.1.1.1
  obtain ⟨_, _, z2, _, _⟩ := LN.sizes_of hz
  obtain ⟨nr, hNr⟩ : ∃ n, L.regs.length = n := ⟨_, rfl⟩
  rw [hNr] at z2
  have HNR := hid hNr
  have hlt := Nat.lt_of_lt_of_le h.hb hBw
  clear h hr hz hNr
  go_enter Try.func6, Try.ntmps6
  go_upto_region 3 with (go_at_call 7; (with_reducible refine (LnRight_any B b y L _ H.out hBw).mono ?_); rintro e w1 ⟨rfl, hbel⟩; rw [HR.out]; have HB1 := hid hbel; have hle1 := hbel.size; clear hbel)
  have HS0 := hid (show LSim w.heap.size (w1.alloc (.cells #[.pointer (some ⟨b, 0, none⟩), .slice none 0 0] 56)) w1.heap.size b (L.first.take 0) from ⟨none, 0, hle1, alloc_at _ _, World.ownsRow_nil _ _ _ _⟩)
  have HB2 := hid (HB1.out.alloc hle1 (.cells #[.pointer (some ⟨b, 0, none⟩), .slice none 0 0] 56))
  have hsz2 : (w1.alloc (.cells #[.pointer (some ⟨b, 0, none⟩), .slice none 0 0] 56)).heap.size = w1.heap.size + 1 := by simp
  go_upto_region 4 with fail
  obtain ⟨s, hs⟩ : ∃ z, w1.heap.size = z := ⟨_, rfl⟩
  rw [hs] at HS0 hsz2 hle1
  (try rw [hs])
  generalize w1.alloc (.cells #[.pointer (some ⟨b, 0, none⟩), .slice none 0 0] 56) = w2 at *
  have x1 := (H.out.stay (HB2.out.mono hBw)).regs
  rw [HNR.out] at x1
  have hlt2 : b < w2.heap.size := by omega
  have hle2 : w.heap.size ≤ w2.heap.size := by omega
  clear hs HB1
  go_wp2_with fail
  clear x1
  go_loopw [19] (fun v wr => ∃ k : Nat, k ≤ nr ∧ v = .int .i64 k ∧ LSim w.heap.size wr s b (L.first.take k) ∧ Below w.heap.size w wr) (fun v _ => nr - (intOf v).toNat)
  case atStart => exact ⟨0, Nat.zero_le _, rfl, HS0.out, HB2.out⟩
  case round =>
    obtain ⟨k, hle, rfl, hsim, hbe⟩ := hrel
    have hszr := hbe.size
    have h' := H.out.stay (hbe.mono hBw)
    by_cases hlt : k < nr
    · obtain ⟨b1, off, har, hb1, d0, d1⟩ := Cells.two h'.rows.rr k (by rw [HNR.out]; exact hlt)
      rw [har]
      rw [regCell_0] at d0
      rw [regCell_1] at d1
      obtain ⟨x, hx⟩ : ∃ x, L.regs.getD k LR.zero = x := ⟨_, rfl⟩
      rw [hx] at d0 d1
      have htk : L.first.take (k + 1) = L.first.take k ++ [x.init] := by
        have hl : k < L.regs.length := by rw [HNR.out]; exact hlt
        have hl2 : k < L.first.length := by rw [L.first_len]; exact hl
        rw [List.take_succ_eq_append_getElem hl2]
        rw [← hx]
        simp [LN.first, List.getD_eq_getElem?_getD, hl]
      obtain ⟨xi, xn⟩ := x
      simp only at d0 d1 htk
      have hlen : (L.first.take k).length = k := by have := HNR.out; have := L.first_len; simp; omega
      obtain ⟨a, c, hbs, hm, hrow⟩ := hsim
      have HM := hid hm
      have HROW := hid hrow
      have HBE := hid hbe
      have HLEN := hid hlen
      have HTK := hid htk
      have hb1r : b1 < wr.heap.size := by omega
      have hbsr := boxLt hm
      have hrow' : wr.ownsRow w.heap.size 4 1 (.slice a k c) k ((L.first.take k).map .bool) := by rw [hlen] at hrow; exact hrow
      have HROW' := hid hrow'
      have hkI : ((k : Nat) : Int) < (nr : Int) := by omega
      have cc : wr.cell? ⟨s, 1, none⟩ = some (.slice a k c) := by rw [hlen] at hm; exact (cell_block hm 1).trans rfl
      have HBW := hid (show Below wr.heap.size wr (wr.alloc (.cells #[.bool xi, .int .i64 xn] 58)) from (Below.refl _ _).alloc (Nat.le_refl _) _)
      have e0 : (wr.alloc (.cells #[.bool xi, .int .i64 xn] 58)).cell? ⟨wr.heap.size, 0, none⟩ = some (.bool xi) := (cell_new _ _ _ _).trans rfl
      have f0 := (HBW.out.cell (p := ⟨s, 1, none⟩) hbsr).trans cc
      have HSW := hid (show (wr.alloc (.cells #[.bool xi, .int .i64 xn] 58)).heap.size = wr.heap.size + 1 by simp)
      clear h' hx hm hrow hrow' hbe hlen htk HS0
      go_upto_region 7 with fail
      have hsr : s < (wr.alloc (.cells #[.bool xi, .int .i64 xn] 58)).heap.size := by have := HSW.out; omega
      have hrr : wr.heap.size < (wr.alloc (.cells #[.bool xi, .int .i64 xn] 58)).heap.size := by have := HSW.out; omega
      clear cc d0 d1
      generalize wr.alloc (.cells #[.bool xi, .int .i64 xn] 58) = wq at *
      refine wpEnds.begin (fun w' => w'.cell? ⟨s, 1, none⟩ = some (.slice a k c) ∧ w'.cell? ⟨wr.heap.size, 0, none⟩ = some (.bool xi)) 11 (by kernel_rfl) ⟨f0, e0⟩ (fun hHeld => ?_)
      refine wpEnds.take 0 12 (v := ?va0) rfl (by kernel_rfl) (by kernel_rfl) (by kernel_rfl) (by kernel_rfl) (by kernel_rfl) (fun _ _ _ h => h) (by rfl) hHeld (fun w' hSw => ?hya0) ?resta0
      case hya0 => ((try dsimp only at hSw); go_simp; try with_reducible rfl)
      case resta0 =>
      (try simp only [Act.put, List.setIfInBounds_toArray, List.set_cons_zero, List.set_cons_succ])
      refine wpEnds.take 1 12 (v := ?va1) rfl (by kernel_rfl) (by kernel_rfl) (by kernel_rfl) (by kernel_rfl) (by kernel_rfl) (fun _ _ _ h => h) (by rfl) hHeld (fun w' hSw => ?hya1) ?resta1
      case hya1 => ((try dsimp only at hSw); go_simp; try with_reducible rfl)
      case resta1 =>
      (try simp only [Act.put, List.setIfInBounds_toArray, List.set_cons_zero, List.set_cons_succ])
      refine wpEnds.take 2 12 (v := ?va2) rfl (by kernel_rfl) (by kernel_rfl) (by kernel_rfl) (by kernel_rfl) (by kernel_rfl) (fun _ _ _ h => h) (by rfl) hHeld (fun w' hSw => ?hya2) ?resta2
      case hya2 => ((try dsimp only at hSw); go_simp; try with_reducible rfl)
      case resta2 =>
      (try simp only [Act.put, List.setIfInBounds_toArray, List.set_cons_zero, List.set_cons_succ])
      refine wpEnds.take 3 12 (v := ?va3) rfl (by kernel_rfl) (by kernel_rfl) (by kernel_rfl) (by kernel_rfl) (by kernel_rfl) (fun _ _ _ h => h) (by rfl) hHeld (fun w' hSw => ?hya3) ?resta3
      case hya3 => ((try dsimp only at hSw); go_simp; try with_reducible rfl)
      case resta3 =>
      (try simp only [Act.put, List.setIfInBounds_toArray, List.set_cons_zero, List.set_cons_succ])
      refine wpEnds.take 4 12 (v := ?va4) rfl (by kernel_rfl) (by kernel_rfl) (by kernel_rfl) (by kernel_rfl) (by kernel_rfl) (fun _ _ _ h => h) (by rfl) hHeld (fun w' hSw => ?hya4) ?resta4
      case hya4 => ((try dsimp only at hSw); go_simp; try with_reducible rfl)
      case resta4 =>
      (try simp only [Act.put, List.setIfInBounds_toArray, List.set_cons_zero, List.set_cons_succ])
      refine wpEnds.take 5 12 (v := ?va5) rfl (by kernel_rfl) (by kernel_rfl) (by kernel_rfl) (by kernel_rfl) (by kernel_rfl) (fun _ _ _ h => h) (by rfl) hHeld (fun w' hSw => ?hya5) ?resta5
      case hya5 => ((try dsimp only at hSw); go_simp; try with_reducible rfl)
      case resta5 =>
      (try simp only [Act.put, List.setIfInBounds_toArray, List.set_cons_zero, List.set_cons_succ])
      refine wpEnds.take 6 12 (v := ?va6) rfl (by kernel_rfl) (by kernel_rfl) (by kernel_rfl) (by kernel_rfl) (by kernel_rfl) (fun _ _ _ h => h) (by rfl) hHeld (fun w' hSw => ?hya6) ?resta6
      case hya6 => ((try dsimp only at hSw); go_simp; try with_reducible rfl)
      case resta6 =>
      (try simp only [Act.put, List.setIfInBounds_toArray, List.set_cons_zero, List.set_cons_succ])
      refine wpEnds.one 7 (by kernel_rfl) rfl (fun K hK => ?_)
      go_simp
      refine hK.out _ _ ⟨((ls_alloc _ _).cell hsr).trans f0, ((ls_alloc _ _).cell hrr).trans e0⟩ ?_
      clear hK K
      (try simp only [Act.put, List.setIfInBounds_toArray, List.set_cons_zero, List.set_cons_succ])
      refine wpEnds.one 8 (by kernel_rfl) rfl (fun K hK => ?_)
      refine append_held (by rfl) _ _ 36 (by rfl) w.heap.size 4 i0 _ 1 1 Try.underlying36 hi hz0 hz1 hz2 (by rfl) (by decide) (.slice a k c) k ((L.first.take k).map .bool) (by rfl) ((rowOld HROW'.out (HBW.out.trans ((ls_alloc wq _).mono HBW.out.size)))) (some ⟨wq.heap.size, 0, none⟩) 1 1 [.bool xi] (by rfl) (by intro h; cases h) (by rfl) (by rintro ad' h j u hj'; cases h; rw [Addr.add_at]; exact (cell_new _ _ _ _).trans (by simpa using hj')) (by simp [Value.oneCell']) (by unfold maxLen; omega) (by omega) (by have := HBE.out.size; have := HSW.out; simp; omega) ?_
      intro av1 cv1 wb HPO HRN hgb
      have P := ls_push hbs (Nat.le_refl _) HM.out HROW.out HBE.out (HBW.out.trans ((ls_alloc wq _).mono HBW.out.size)) (by have h := hgb.out; rw [HLEN.out]; exact h) (by have h := HRN.out; rw [HLEN.out]; exact h)
      rw [HLEN.out] at P
      obtain ⟨P1, P2, P3, P4⟩ := P
      have cb : wb.cell? ⟨s, 1, none⟩ = some (.slice a k c) := (cell_block P1 1).trans rfl
      have hbfr := free_block P1
      have hblt := boxLt P1
      have HEND := hid P3
      have HEB := hid P4
      have y0 : wb.cell? ⟨wr.heap.size, 0, none⟩ = some (.bool xi) := by
        have hne : (Value.slice a k c).ownBlock ≠ some wr.heap.size := fun e => by have := (HROW'.out.lt _ e).2; omega
        exact (World.grownBy.cell_far hgb.out ⟨wr.heap.size, 0, none⟩ (Nat.lt_of_lt_of_le hrr (ls_alloc wq _).size) (fun e => hne e.symm)).trans (((ls_alloc _ _).cell hrr).trans e0)
      clear P1 P2 P3 P4 HPO HRN hgb
      refine hK.out _ _ ⟨cb, y0⟩ ?_
      clear hK K
      (try simp only [Act.put, List.setIfInBounds_toArray, List.set_cons_zero, List.set_cons_succ])
      refine wpEnds.take 9 12 (v := ?va9) rfl (by kernel_rfl) (by kernel_rfl) (by kernel_rfl) (by kernel_rfl) (by kernel_rfl) (fun _ _ _ h => h) (by rfl) ⟨cb, y0⟩ (fun w' hSw => ?hya9) ?resta9
      case hya9 => ((try dsimp only at hSw); go_simp; try with_reducible rfl)
      case resta9 =>
      (try simp only [Act.put, List.setIfInBounds_toArray, List.set_cons_zero, List.set_cons_succ])
      refine wpEnds.take 10 12 (v := ?va10) rfl (by kernel_rfl) (by kernel_rfl) (by kernel_rfl) (by kernel_rfl) (by kernel_rfl) (fun _ _ _ h => h) (by rfl) ⟨cb, y0⟩ (fun w' hSw => ?hya10) ?resta10
      case hya10 => ((try dsimp only at hSw); go_simp; try with_reducible rfl)
      case resta10 =>
      (try simp only [Act.put, List.setIfInBounds_toArray, List.set_cons_zero, List.set_cons_succ])
      refine wpEnds.last 11 (by kernel_rfl) (by kernel_rfl) rfl (fun K hK => ?_)
      go_simp
      refine hK.out _ _ ?_
      clear hK K
      (try simp only [Act.put, List.setIfInBounds_toArray, List.set_cons_zero, List.set_cons_succ])
      go_wp2_with fail
      go_roundw
      case rel => exact ⟨k + 1, hlt, by go_num, by rw [HTK.out]; exact HEND.out, HEB.out⟩
      case measure => simp [intOf]; omega
    · obtain rfl : nr = k := by omega
      have hall : L.first.take nr = L.first := List.take_of_length_le (by rw [L.first_len, HNR.out]; exact Nat.le_refl _)
      rw [hall] at hsim
      have HSIM := hid hsim
      clear h' hsim HS0 hall
      go_wp2_with fail
      go_ret2
      exact ⟨s, rfl, HSIM.out, hbe⟩
end
end Go.Proofs.Ytlaeflpddehipab
