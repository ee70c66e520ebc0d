/- ladder.Body: what rungs do, as statements (written by gen_body.py). -/
import Derived.Test.YtlaeflpddehipabGreatDoorLdAnd
import Derived.Test.YtlaeflpddehipabGreatDoorSq
set_option linter.unusedVariables false
set_option linter.unusedSimpArgs false
namespace Go.Proofs.YtlaeflpddehipabGreatDoor
open Go.RowKit
attribute [local go_sem ↓] Go.wp_at_zero Go.wp_at_succ

theorem body_take {gs : List Rg} {k : Nat} {r : Rg} (h : gs[k]? = some r) : bodyE (gs.take (k + 1)) 0 = (bodyE (gs.take k) 0).app (sqOne (k : Int) r) := by
  have hk : k < gs.length := by
    rcases Nat.lt_or_ge k gs.length with h' | h'
    · exact h'
    · rw [List.getElem?_eq_none h'] at h; cases h
  rw [List.take_add_one, h, Option.toList_some, bodyE_snoc, List.length_take, Nat.min_eq_left (by omega), Nat.zero_add]
theorem body_take_len {gs : List Rg} {k : Nat} (h : k ≤ gs.length) : (bodyE (gs.take k) 0).len = k := by
  rw [bodyE_len, List.length_take, Nat.min_eq_left h]
def BodyPost (w : World) (gs : List Rg) (e : Ending) (w' : World) : Prop := ∃ v, e = .returned v ∧ SqRow w.heap.size w' v (bodyE gs 0) ∧ Below w.heap.size w w'
set_option maxRecDepth 100000 in
set_option maxHeartbeats 3200000 in
theorem body_any (gs : List Rg) (hwf : ∀ g ∈ gs, g.wf 1000000) (hlen : gs.length ≤ 30) (v : Value) (w : World) (hv : GSAt w gs v) : Calls Tryz.prog 12 #[v] w (BodyPost w gs) := by
  obtain ⟨a, c, rfl, hc, h1⟩ := hv
  have HWF := hid hwf
  clear hwf
  have hlenI : (gs.length : Int) ≤ 30 := by omega
  go_enter Tryz.func12, Tryz.ntmps12
  go_upto_region 3 with fail
  go_loopw [3, 11] (fun o u wr => ∃ k : Nat, u = .int .i64 k ∧ k ≤ gs.length ∧ Below w.heap.size w wr ∧ SqRow w.heap.size wr o (bodyE (gs.take k) 0)) (fun _ u _ => gs.length - (intOf u).toNat)
  case atStart => exact ⟨0, rfl, Nat.zero_le _, Below.refl _ _, SqRow.nil _ _⟩
  case round =>
    obtain ⟨k, rfl, hk, hb, ho⟩ := hrel
    obtain ⟨ao, co, rfl⟩ := ho.form
    rw [body_take_len hk] at ho ⊢
    have HB := hid hb
    have HO := hid ho
    have HLT := hid ho.lt
    clear ho
    by_cases hkl : k < gs.length
    · obtain ⟨g, rfl, hg⟩ := h1.resolve_left (by omega)
      have HKL := hid (show k + 1 ≤ gs.length from hkl)
      have hkI : (k : Int) < (gs.length : Int) := by omega
      have hk0 : (0 : Int) ≤ (k : Int) := by omega
      obtain ⟨r, hr⟩ : ∃ r, gs[k]? = some r := ⟨_, List.getElem?_eq_getElem hkl⟩
      have hwfr := HWF.out r (List.mem_of_getElem? hr)
      have HT := hid (body_take hr)
      have HRW := hid hwfr
      have HKD := hid hwfr.kind
      obtain ⟨⟨vc, p0, ps⟩, p1, p2⟩ := hg.parts hr
      rw [Nat.zero_add] at p0 p1 p2
      have HPS := hid (ps.keep (w' := wr) fun a v h => (hb.cell (boxLt4 h)).trans h)
      replace p0 := (hb.cell (p := ⟨g, k * 3, none⟩) (boxLt4 p0)).trans p0
      replace p1 := (hb.cell (p := ⟨g, k * 3 + 1, none⟩) (boxLt4 p1)).trans p1
      replace p2 := (hb.cell (p := ⟨g, k * 3 + 2, none⟩) (boxLt4 p2)).trans p2
      obtain ⟨ac, cc, rfl, hcc, _⟩ := HPS.out
      have hrt : r.cells.len ≤ 1000000 := Nat.le_trans r.cells.len_tot hwfr.tot
      obtain ⟨i0, hi, hz0, hz1, hz2⟩ := info_parts Tryz.infoStmt
      clear hb hg hwfr ps hr
      go_upto_region 5 with fail
      have h2 : Below wr.heap.size wr (wr.alloc (.cells #[.slice ac r.cells.len cc, .int .i64 r.kind, st r.name] 39)) := (Below.refl _ _).alloc (Nat.le_refl _) _
      have hbx : (wr.alloc (.cells #[.slice ac r.cells.len cc, .int .i64 r.kind, st r.name] 39)).heap[wr.heap.size]? = some (.cells #[.slice ac r.cells.len cc, .int .i64 r.kind, st r.name] 39 (0, 0)) := heap_alloc_new wr _
      obtain ⟨bx, hbxe⟩ : ∃ bx, wr.heap.size = bx := ⟨_, rfl⟩
      have HB2 := hid (HB.out.trans (h2.mono HB.out.size))
      have HO2 := hid (HO.out.old h2)
      have HPS2 := hid (HPS.out.below h2)
      have HLT2 := hid (fun j e => Nat.lt_of_lt_of_le (HLT.out j e).2 h2.size)
      rw [hbxe] at hbx
      rw [hbxe]
      generalize wr.alloc _ = w2 at hbx HB2 HO2 HPS2 HLT2 ⊢
      have z0 : w2.cell? ⟨bx, 0, none⟩ = some (.slice ac r.cells.len cc) := (cell_block hbx 0).trans rfl
      have d1 : w2.cell? ⟨bx, 1, none⟩ = some (.int .i64 r.kind) := (cell_block hbx 1).trans rfl
      have d2 : w2.cell? ⟨bx, 2, none⟩ = some (st r.name) := (cell_block hbx 2).trans rfl
      have hlx := boxLt hbx
      have HBX := hid hbx
      clear h2 hbx hbxe p0 p1 p2
      go_upto_region 6 with (go_at_call 32; (with_reducible refine (and_any (k : Int) _ r.cells (Nat.lt_succ_self _) HRW.out.tot HRW.out.cells _ w2 HPS2.out).mono ?_); rintro e w3 ⟨b6, rfl, h6, hb3⟩; have HX3 := hid h6; have HB3 := hid (HB2.out.trans (hb3.mono HB2.out.size)); have HO3 := hid (HO2.out.old hb3); have HBX3 := hid ((hb3.block bx hlx).trans HBX.out); have HW3 := hid hb3; clear h6 hb3)
      clear z0 d1 d2
      have d1 : w3.cell? ⟨bx, 1, none⟩ = some (.int .i64 r.kind) := (cell_block HBX3.out 1).trans rfl
      have d2 : w3.cell? ⟨bx, 2, none⟩ = some (st r.name) := (cell_block HBX3.out 2).trans rfl
      have hlx3 := boxLt HBX3.out
      go_upto_region 7 with fail
      obtain ⟨w4, hw4⟩ : ∃ w4, w3.alloc (.cells #[.int .i64 1, .int .i64 (k : Int), st r.name, .pointer (some ⟨b6, 0, none⟩), .slice none 0 0, .int .i64 0, .slice none 0 0, .slice none 0 0] 93) = w4 := ⟨_, rfl⟩
      have h4 : Below w3.heap.size w3 w4 := by rw [← hw4]; exact (Below.refl _ _).alloc (Nat.le_refl _) _
      have hbs : w4.heap[w3.heap.size]? = some (.cells #[.int .i64 1, .int .i64 (k : Int), st r.name, .pointer (some ⟨b6, 0, none⟩), .slice none 0 0, .int .i64 0, .slice none 0 0, .slice none 0 0] 93 (0, 0)) := by rw [← hw4]; exact heap_alloc_new w3 _
      have HB4 := hid (HB3.out.trans (h4.mono HB3.out.size))
      have HO4 := hid (HO3.out.old h4)
      have HX4 := hid (HX3.out.below h4)
      have HXN := hid (HX3.out.skip h4)
      have HBX4 := hid ((h4.block bx hlx3).trans HBX3.out)
      have HW4 := hid (HW3.out.trans (h4.mono HW3.out.size))
      have HSB := hid (show w2.heap.size ≤ w3.heap.size from HW3.out.size)
      rw [hw4]
      clear hw4 h4
      obtain ⟨bs, hbse⟩ : ∃ bs, w3.heap.size = bs := ⟨_, rfl⟩
      rw [hbse] at hbs HSB HXN ⊢
      clear hbse d1 d2
      have HBS := hid hbs
      have d1 : w4.cell? ⟨bx, 1, none⟩ = some (.int .i64 r.kind) := (cell_block HBX4.out 1).trans rfl
      have hls := boxLt hbs
      have HOS := hid (show ∀ j, (Value.slice ao k co).ownBlock = some j → j < w2.heap.size from HLT2.out)
      clear hbs
      rcases HKD.out with hkd | hkd | hkd | hkd
      · rw [hkd] at d1
        have HBSF := HBS
        have s0 : w4.cell? ⟨bs, 0, none⟩ = some (.int .i64 1) := (cell_block HBSF.out 0).trans rfl
        have s1 : w4.cell? ⟨bs, 1, none⟩ = some (.int .i64 (k : Int)) := (cell_block HBSF.out 1).trans rfl
        have s2 : w4.cell? ⟨bs, 2, none⟩ = some (st r.name) := (cell_block HBSF.out 2).trans rfl
        have s3 : w4.cell? ⟨bs, 3, none⟩ = some (.pointer (some ⟨b6, 0, none⟩)) := (cell_block HBSF.out 3).trans rfl
        have s4 : w4.cell? ⟨bs, 4, none⟩ = some (.slice none 0 0) := (cell_block HBSF.out 4).trans rfl
        have s5 : w4.cell? ⟨bs, 5, none⟩ = some (.int .i64 0) := (cell_block HBSF.out 5).trans rfl
        have s6 : w4.cell? ⟨bs, 6, none⟩ = some (.slice none 0 0) := (cell_block HBSF.out 6).trans rfl
        have s7 : w4.cell? ⟨bs, 7, none⟩ = some (.slice none 0 0) := (cell_block HBSF.out 7).trans rfl
        go_upto_region 17 with fail
        have HU := hid (show SqL w4 (fun j => w.heap.size ≤ j ∧ j < w4.heap.size ∧ (Value.slice ao k co).ownBlock ≠ some j) (.cons 1 (k : Int) r.name (andE (k : Int) r.cells) (.nil) .nil) (sC 1 (k : Int) r.name (.pointer (some ⟨b6, 0, none⟩)) (.slice none 0 0)) from SqL.one (HX4.out.elem HB2.out.size HOS.out) (SqS.nil _ _))
        have HSQ := hid (show sqOne (k : Int) r = .cons 1 (k : Int) r.name (andE (k : Int) r.cells) (.nil) .nil from by unfold sqOne coil; rw [if_pos (Or.inl hkd), if_pos hkd])
        go_wp2_with (at_builtin; refine stmtPushL w.heap.size _ w4 rfl _ _ 47 rfl i0 _ 120 Tryz.underlying47 hi hz0 hz1 hz2 rfl (.slice ao k co) (bodyE (gs.take k) 0) 1 (k : Int) r.name (andE (k : Int) r.cells) (.nil) k (body_take_len (Nat.le_of_succ_le HKL.out)) rfl HO4.out (.pointer (some ⟨b6, 0, none⟩)) (.slice none 0 0) rfl rfl rfl rfl HU.out (by omega) (by decide) HB4.out.size ?_; intro av cv wb HRX HGB; have HP9 := hid (below_pushed HB4.out rfl HGB.out (fun j e => (HLT.out j e).1)); clear HGB)
        go_roundw
        case rel => exact ⟨k + 1, by go_num, HKL.out, HP9.out, by rw [HT.out, HSQ.out]; exact HRX.out⟩
        case measure => simp [intOf]; omega
      · rw [hkd] at d1
        have s3 : w4.cell? ⟨bs, 3, none⟩ = some (.pointer (some ⟨b6, 0, none⟩)) := (cell_block HBS.out 3).trans rfl
        have f3 := free_block HBS.out
        go_upto_region 17 with fail
        obtain ⟨w5, hw5⟩ : ∃ w5, w4.setCell ⟨bs, 3, none⟩ (.pointer (some ⟨w4.heap.size, 0, none⟩)) = w5 := ⟨_, rfl⟩
        rw [hw5]
        have hz5 : w5.heap.size = w4.heap.size := by rw [← hw5]; simp [World.setCell]
        have HXA5 := hid (HXN.out.off (W' := w5) hz5 (fun j hj => by rw [← hw5]; exact heap_setCell_other _ _ _ _ hj))
        have HBS5 := hid (show w5.heap[bs]? = some (.cells #[.int .i64 1, .int .i64 (k : Int), st r.name, .pointer (some ⟨w4.heap.size, 0, none⟩), .slice none 0 0, .int .i64 0, .slice none 0 0, .slice none 0 0] 93 (0, 0)) by rw [← hw5]; exact (boxSet HBS.out 3 _).trans (by simp))
        have HW5 := hid (show Below w2.heap.size w2 w5 by rw [← hw5]; exact HW4.out.setCell (p := ⟨bs, 3, none⟩) HSB.out _)
        have hls5 := boxLt HBS5.out
        clear hw5 s3 f3
        generalize hw6 : World.alloc w5 _ = w6
        have HX6 := hid (show RepN w2.heap.size bs w6 (exNeg (k : Int) (andE (k : Int) r.cells)) (.pointer (some ⟨w4.heap.size, 0, none⟩)) by rw [← hz5, ← hw6]; exact RepN.new HXA5.out (RepN.none _ _ _) HW5.out.size hls5 _ _ _ _ _ _ _)
        have hb6 : Below w5.heap.size w5 w6 := by rw [← hw6]; exact (Below.refl _ _).alloc (Nat.le_refl _) _
        have HXA6 := hid (HXA5.out.below hb6)
        have HBSF := hid ((hb6.block bs hls5).trans HBS5.out)
        have HW6 := hid (HW5.out.trans (hb6.mono HW5.out.size))
        have HB6 := hid (HB2.out.trans (HW6.out.mono HB2.out.size))
        have HO6 := hid (HO2.out.old HW6.out)
        have hls6 := boxLt HBSF.out
        have fr := free_block HBSF.out
        clear hw6 hb6 hls5
        obtain ⟨b5, hbe5⟩ : ∃ b, w4.heap.size = b := ⟨_, rfl⟩
        rw [hbe5] at HX6 HBSF ⊢
        clear hbe5 hz5
        have s0 : w6.cell? ⟨bs, 0, none⟩ = some (.int .i64 1) := (cell_block HBSF.out 0).trans rfl
        have s1 : w6.cell? ⟨bs, 1, none⟩ = some (.int .i64 (k : Int)) := (cell_block HBSF.out 1).trans rfl
        have s2 : w6.cell? ⟨bs, 2, none⟩ = some (st r.name) := (cell_block HBSF.out 2).trans rfl
        have s3 : w6.cell? ⟨bs, 3, none⟩ = some (.pointer (some ⟨b5, 0, none⟩)) := (cell_block HBSF.out 3).trans rfl
        have s4 : w6.cell? ⟨bs, 4, none⟩ = some (.slice none 0 0) := (cell_block HBSF.out 4).trans rfl
        have s5 : w6.cell? ⟨bs, 5, none⟩ = some (.int .i64 0) := (cell_block HBSF.out 5).trans rfl
        have s6 : w6.cell? ⟨bs, 6, none⟩ = some (.slice none 0 0) := (cell_block HBSF.out 6).trans rfl
        have s7 : w6.cell? ⟨bs, 7, none⟩ = some (.slice none 0 0) := (cell_block HBSF.out 7).trans rfl
        have HU := hid (show SqL w6 (fun j => w.heap.size ≤ j ∧ j < w6.heap.size ∧ (Value.slice ao k co).ownBlock ≠ some j) (.cons 1 (k : Int) r.name (exNeg (k : Int) (andE (k : Int) r.cells)) (.nil) .nil) (sC 1 (k : Int) r.name (.pointer (some ⟨b5, 0, none⟩)) (.slice none 0 0)) from SqL.one (HX6.out.elem HB2.out.size HOS.out) (SqS.nil _ _))
        have HSQ := hid (show sqOne (k : Int) r = .cons 1 (k : Int) r.name (exNeg (k : Int) (andE (k : Int) r.cells)) (.nil) .nil from by unfold sqOne coil; rw [if_pos (Or.inr hkd), if_neg (by rw [hkd]; decide)])
        go_wp2_with (at_builtin; refine stmtPushL w.heap.size _ w6 rfl _ _ 47 rfl i0 _ 120 Tryz.underlying47 hi hz0 hz1 hz2 rfl (.slice ao k co) (bodyE (gs.take k) 0) 1 (k : Int) r.name (exNeg (k : Int) (andE (k : Int) r.cells)) (.nil) k (body_take_len (Nat.le_of_succ_le HKL.out)) rfl HO6.out (.pointer (some ⟨b5, 0, none⟩)) (.slice none 0 0) rfl rfl rfl rfl HU.out (by omega) (by decide) HB6.out.size ?_; intro av cv wb HRX HGB; have HP9 := hid (below_pushed HB6.out rfl HGB.out (fun j e => (HLT.out j e).1)); clear HGB)
        go_roundw
        case rel => exact ⟨k + 1, by go_num, HKL.out, HP9.out, by rw [HT.out, HSQ.out]; exact HRX.out⟩
        case measure => simp [intOf]; omega
      · rw [hkd] at d1
        have s3 : w4.cell? ⟨bs, 3, none⟩ = some (.pointer (some ⟨b6, 0, none⟩)) := (cell_block HBS.out 3).trans rfl
        have f3 := free_block HBS.out
        go_upto_region 16 with fail
        obtain ⟨w5, hw5⟩ : ∃ w5, w4.setCell ⟨bs, 3, none⟩ (.pointer (some ⟨w4.heap.size, 0, none⟩)) = w5 := ⟨_, rfl⟩
        rw [hw5]
        have hz5 : w5.heap.size = w4.heap.size := by rw [← hw5]; simp [World.setCell]
        have HXA5 := hid (HXN.out.off (W' := w5) hz5 (fun j hj => by rw [← hw5]; exact heap_setCell_other _ _ _ _ hj))
        have HBS5 := hid (show w5.heap[bs]? = some (.cells #[.int .i64 1, .int .i64 (k : Int), st r.name, .pointer (some ⟨w4.heap.size, 0, none⟩), .slice none 0 0, .int .i64 0, .slice none 0 0, .slice none 0 0] 93 (0, 0)) by rw [← hw5]; exact (boxSet HBS.out 3 _).trans (by simp))
        have HW5 := hid (show Below w2.heap.size w2 w5 by rw [← hw5]; exact HW4.out.setCell (p := ⟨bs, 3, none⟩) HSB.out _)
        have hls5 := boxLt HBS5.out
        clear hw5 s3 f3
        generalize hw6 : World.alloc w5 _ = w6
        have HX6 := hid (show RepN w2.heap.size bs w6 (exConst (k : Int) 1) (.pointer (some ⟨w4.heap.size, 0, none⟩)) by rw [← hz5, ← hw6]; exact RepN.new (RepN.none _ _ _) (RepN.none _ _ _) HW5.out.size hls5 _ _ _ _ _ _ _)
        have hb6 : Below w5.heap.size w5 w6 := by rw [← hw6]; exact (Below.refl _ _).alloc (Nat.le_refl _) _
        have HXA6 := hid (HXA5.out.below hb6)
        have HBSF := hid ((hb6.block bs hls5).trans HBS5.out)
        have HW6 := hid (HW5.out.trans (hb6.mono HW5.out.size))
        have HB6 := hid (HB2.out.trans (HW6.out.mono HB2.out.size))
        have HO6 := hid (HO2.out.old HW6.out)
        have hls6 := boxLt HBSF.out
        have fr := free_block HBSF.out
        clear hw6 hb6 hls5
        obtain ⟨b5, hbe5⟩ : ∃ b, w4.heap.size = b := ⟨_, rfl⟩
        rw [hbe5] at HX6 HBSF ⊢
        clear hbe5 hz5
        have s0 : w6.cell? ⟨bs, 0, none⟩ = some (.int .i64 1) := (cell_block HBSF.out 0).trans rfl
        have s1 : w6.cell? ⟨bs, 1, none⟩ = some (.int .i64 (k : Int)) := (cell_block HBSF.out 1).trans rfl
        have s2 : w6.cell? ⟨bs, 2, none⟩ = some (st r.name) := (cell_block HBSF.out 2).trans rfl
        have s3 : w6.cell? ⟨bs, 3, none⟩ = some (.pointer (some ⟨b5, 0, none⟩)) := (cell_block HBSF.out 3).trans rfl
        have s4 : w6.cell? ⟨bs, 4, none⟩ = some (.slice none 0 0) := (cell_block HBSF.out 4).trans rfl
        have s5 : w6.cell? ⟨bs, 5, none⟩ = some (.int .i64 0) := (cell_block HBSF.out 5).trans rfl
        have s6 : w6.cell? ⟨bs, 6, none⟩ = some (.slice none 0 0) := (cell_block HBSF.out 6).trans rfl
        have s7 : w6.cell? ⟨bs, 7, none⟩ = some (.slice none 0 0) := (cell_block HBSF.out 7).trans rfl
        go_upto_region 17 with fail
        obtain ⟨w7, hw7⟩ : ∃ w7, (((((((w6.setCell ⟨bs, 0, none⟩ (.int .i64 2)).setCell ⟨bs, 1, none⟩ (.int .i64 (k : Int))).setCell ⟨bs, 2, none⟩ (.string ⟨#[]⟩)).setCell ⟨bs, 3, none⟩ (.pointer (some ⟨b6, 0, none⟩))).setCell ⟨bs, 4, none⟩ (.slice none 0 0)).setCell ⟨bs, 5, none⟩ (.int .i64 0)).setCell ⟨bs, 6, none⟩ (.slice (some ⟨w6.heap.size, 0, none⟩) 1 1)).setCell ⟨bs, 7, none⟩ (.slice none 0 0) = w7 := ⟨_, rfl⟩
        rw [hw7]
        obtain ⟨g1, g2, g3, g4⟩ := set8 HBSF.out (.int .i64 2) (.int .i64 (k : Int)) (.string ⟨#[]⟩) (.pointer (some ⟨b6, 0, none⟩)) (.slice none 0 0) (.int .i64 0) (.slice (some ⟨w6.heap.size, 0, none⟩) 1 1) (.slice none 0 0)
        rw [hw7] at g1 g2 g3 g4
        have HW7 := hid (g4 _ _ HW6.out HSB.out)
        have HX7 := hid (HX6.out.off (W' := w7) g3 g2)
        have HXA7 := hid (HXA6.out.off (W' := w7) g3 g2)
        have hls7 := boxLt g1
        have HBS7 := hid g1
        clear hw7 g1 g2 g4 s0 s1 s2 s3 s4 s5 s6 s7 fr hls6
        generalize hw8 : World.alloc w7 _ = w8
        have HBT := hid (show w8.heap[w6.heap.size]? = some (.cells (sC 1 (k : Int) r.name (.pointer (some ⟨b5, 0, none⟩)) (.slice none 0 0)).toArray 93 (0, 0)) by rw [← g3, ← hw8]; exact heap_alloc_new w7 _)
        have hb8 : Below w7.heap.size w7 w8 := by rw [← hw8]; exact (Below.refl _ _).alloc (Nat.le_refl _) _
        have HX8 := hid (HX7.out.below hb8)
        have HXA8 := hid (HXA7.out.below hb8)
        have HBSF := hid ((hb8.block bs hls7).trans HBS7.out)
        have HW8 := hid (HW7.out.trans (hb8.mono HW7.out.size))
        have HB8 := hid (HB2.out.trans (HW8.out.mono HB2.out.size))
        have HO8 := hid (HO2.out.old HW8.out)
        have HTZ := hid (show w2.heap.size ≤ w6.heap.size from HW6.out.size)
        clear hw8 hb8 hls7 g3
        obtain ⟨bt, hbte⟩ : ∃ b, w6.heap.size = b := ⟨_, rfl⟩
        rw [hbte] at HBT HBSF HTZ ⊢
        clear hbte
        have HPT := hid (show w.heap.size ≤ bt ∧ bt < w8.heap.size ∧ (Value.slice ao k co).ownBlock ≠ some bt from ⟨Nat.le_trans HB2.out.size HTZ.out, boxLt HBT.out, fun e => by have := HOS.out bt e; have := HTZ.out; omega⟩)
        have s0 : w8.cell? ⟨bs, 0, none⟩ = some (.int .i64 2) := (cell_block HBSF.out 0).trans rfl
        have s1 : w8.cell? ⟨bs, 1, none⟩ = some (.int .i64 (k : Int)) := (cell_block HBSF.out 1).trans rfl
        have s2 : w8.cell? ⟨bs, 2, none⟩ = some (.string ⟨#[]⟩) := (cell_block HBSF.out 2).trans rfl
        have s3 : w8.cell? ⟨bs, 3, none⟩ = some (.pointer (some ⟨b6, 0, none⟩)) := (cell_block HBSF.out 3).trans rfl
        have s4 : w8.cell? ⟨bs, 4, none⟩ = some (.slice none 0 0) := (cell_block HBSF.out 4).trans rfl
        have s5 : w8.cell? ⟨bs, 5, none⟩ = some (.int .i64 0) := (cell_block HBSF.out 5).trans rfl
        have s6 : w8.cell? ⟨bs, 6, none⟩ = some (.slice (some ⟨bt, 0, none⟩) 1 1) := (cell_block HBSF.out 6).trans rfl
        have s7 : w8.cell? ⟨bs, 7, none⟩ = some (.slice none 0 0) := (cell_block HBSF.out 7).trans rfl
        have HU := hid (show SqL w8 (fun j => w.heap.size ≤ j ∧ j < w8.heap.size ∧ (Value.slice ao k co).ownBlock ≠ some j) (.cons 2 (k : Int) [] (andE (k : Int) r.cells) (.cons 1 (k : Int) r.name (exConst (k : Int) 1) .nil .nil) .nil) (sC 2 (k : Int) [] (.pointer (some ⟨b6, 0, none⟩)) (.slice (some ⟨bt, 0, none⟩) 1 1)) from SqL.one (HXA8.out.elem HB2.out.size HOS.out) (SqS.box HPT.out HBT.out (HX8.out.elem HB2.out.size HOS.out)))
        have HSQ := hid (show sqOne (k : Int) r = .cons 2 (k : Int) [] (andE (k : Int) r.cells) (.cons 1 (k : Int) r.name (exConst (k : Int) 1) .nil .nil) .nil from by unfold sqOne; rw [if_neg (show ¬ (r.kind = 1 ∨ r.kind = 2) by rw [hkd]; decide), if_pos hkd])
        go_wp2_with (at_builtin; refine stmtPushL w.heap.size _ w8 rfl _ _ 47 rfl i0 _ 120 Tryz.underlying47 hi hz0 hz1 hz2 rfl (.slice ao k co) (bodyE (gs.take k) 0) 2 (k : Int) [] (andE (k : Int) r.cells) (.cons 1 (k : Int) r.name (exConst (k : Int) 1) .nil .nil) k (body_take_len (Nat.le_of_succ_le HKL.out)) rfl HO8.out (.pointer (some ⟨b6, 0, none⟩)) (.slice (some ⟨bt, 0, none⟩) 1 1) rfl rfl rfl rfl HU.out (by omega) (by decide) HB8.out.size ?_; intro av cv wb HRX HGB; have HP9 := hid (below_pushed HB8.out rfl HGB.out (fun j e => (HLT.out j e).1)); clear HGB)
        go_roundw
        case rel => exact ⟨k + 1, by go_num, HKL.out, HP9.out, by rw [HT.out, HSQ.out]; exact HRX.out⟩
        case measure => simp [intOf]; omega
      · rw [hkd] at d1
        have s3 : w4.cell? ⟨bs, 3, none⟩ = some (.pointer (some ⟨b6, 0, none⟩)) := (cell_block HBS.out 3).trans rfl
        have f3 := free_block HBS.out
        go_upto_region 16 with fail
        obtain ⟨w5, hw5⟩ : ∃ w5, w4.setCell ⟨bs, 3, none⟩ (.pointer (some ⟨w4.heap.size, 0, none⟩)) = w5 := ⟨_, rfl⟩
        rw [hw5]
        have hz5 : w5.heap.size = w4.heap.size := by rw [← hw5]; simp [World.setCell]
        have HXA5 := hid (HXN.out.off (W' := w5) hz5 (fun j hj => by rw [← hw5]; exact heap_setCell_other _ _ _ _ hj))
        have HBS5 := hid (show w5.heap[bs]? = some (.cells #[.int .i64 1, .int .i64 (k : Int), st r.name, .pointer (some ⟨w4.heap.size, 0, none⟩), .slice none 0 0, .int .i64 0, .slice none 0 0, .slice none 0 0] 93 (0, 0)) by rw [← hw5]; exact (boxSet HBS.out 3 _).trans (by simp))
        have HW5 := hid (show Below w2.heap.size w2 w5 by rw [← hw5]; exact HW4.out.setCell (p := ⟨bs, 3, none⟩) HSB.out _)
        have hls5 := boxLt HBS5.out
        clear hw5 s3 f3
        generalize hw6 : World.alloc w5 _ = w6
        have HX6 := hid (show RepN w2.heap.size bs w6 (exConst (k : Int) 0) (.pointer (some ⟨w4.heap.size, 0, none⟩)) by rw [← hz5, ← hw6]; exact RepN.new (RepN.none _ _ _) (RepN.none _ _ _) HW5.out.size hls5 _ _ _ _ _ _ _)
        have hb6 : Below w5.heap.size w5 w6 := by rw [← hw6]; exact (Below.refl _ _).alloc (Nat.le_refl _) _
        have HXA6 := hid (HXA5.out.below hb6)
        have HBSF := hid ((hb6.block bs hls5).trans HBS5.out)
        have HW6 := hid (HW5.out.trans (hb6.mono HW5.out.size))
        have HB6 := hid (HB2.out.trans (HW6.out.mono HB2.out.size))
        have HO6 := hid (HO2.out.old HW6.out)
        have hls6 := boxLt HBSF.out
        have fr := free_block HBSF.out
        clear hw6 hb6 hls5
        obtain ⟨b5, hbe5⟩ : ∃ b, w4.heap.size = b := ⟨_, rfl⟩
        rw [hbe5] at HX6 HBSF ⊢
        clear hbe5 hz5
        have s0 : w6.cell? ⟨bs, 0, none⟩ = some (.int .i64 1) := (cell_block HBSF.out 0).trans rfl
        have s1 : w6.cell? ⟨bs, 1, none⟩ = some (.int .i64 (k : Int)) := (cell_block HBSF.out 1).trans rfl
        have s2 : w6.cell? ⟨bs, 2, none⟩ = some (st r.name) := (cell_block HBSF.out 2).trans rfl
        have s3 : w6.cell? ⟨bs, 3, none⟩ = some (.pointer (some ⟨b5, 0, none⟩)) := (cell_block HBSF.out 3).trans rfl
        have s4 : w6.cell? ⟨bs, 4, none⟩ = some (.slice none 0 0) := (cell_block HBSF.out 4).trans rfl
        have s5 : w6.cell? ⟨bs, 5, none⟩ = some (.int .i64 0) := (cell_block HBSF.out 5).trans rfl
        have s6 : w6.cell? ⟨bs, 6, none⟩ = some (.slice none 0 0) := (cell_block HBSF.out 6).trans rfl
        have s7 : w6.cell? ⟨bs, 7, none⟩ = some (.slice none 0 0) := (cell_block HBSF.out 7).trans rfl
        go_upto_region 17 with fail
        obtain ⟨w7, hw7⟩ : ∃ w7, (((((((w6.setCell ⟨bs, 0, none⟩ (.int .i64 2)).setCell ⟨bs, 1, none⟩ (.int .i64 (k : Int))).setCell ⟨bs, 2, none⟩ (.string ⟨#[]⟩)).setCell ⟨bs, 3, none⟩ (.pointer (some ⟨b6, 0, none⟩))).setCell ⟨bs, 4, none⟩ (.slice none 0 0)).setCell ⟨bs, 5, none⟩ (.int .i64 0)).setCell ⟨bs, 6, none⟩ (.slice (some ⟨w6.heap.size, 0, none⟩) 1 1)).setCell ⟨bs, 7, none⟩ (.slice none 0 0) = w7 := ⟨_, rfl⟩
        rw [hw7]
        obtain ⟨g1, g2, g3, g4⟩ := set8 HBSF.out (.int .i64 2) (.int .i64 (k : Int)) (.string ⟨#[]⟩) (.pointer (some ⟨b6, 0, none⟩)) (.slice none 0 0) (.int .i64 0) (.slice (some ⟨w6.heap.size, 0, none⟩) 1 1) (.slice none 0 0)
        rw [hw7] at g1 g2 g3 g4
        have HW7 := hid (g4 _ _ HW6.out HSB.out)
        have HX7 := hid (HX6.out.off (W' := w7) g3 g2)
        have HXA7 := hid (HXA6.out.off (W' := w7) g3 g2)
        have hls7 := boxLt g1
        have HBS7 := hid g1
        clear hw7 g1 g2 g4 s0 s1 s2 s3 s4 s5 s6 s7 fr hls6
        generalize hw8 : World.alloc w7 _ = w8
        have HBT := hid (show w8.heap[w6.heap.size]? = some (.cells (sC 1 (k : Int) r.name (.pointer (some ⟨b5, 0, none⟩)) (.slice none 0 0)).toArray 93 (0, 0)) by rw [← g3, ← hw8]; exact heap_alloc_new w7 _)
        have hb8 : Below w7.heap.size w7 w8 := by rw [← hw8]; exact (Below.refl _ _).alloc (Nat.le_refl _) _
        have HX8 := hid (HX7.out.below hb8)
        have HXA8 := hid (HXA7.out.below hb8)
        have HBSF := hid ((hb8.block bs hls7).trans HBS7.out)
        have HW8 := hid (HW7.out.trans (hb8.mono HW7.out.size))
        have HB8 := hid (HB2.out.trans (HW8.out.mono HB2.out.size))
        have HO8 := hid (HO2.out.old HW8.out)
        have HTZ := hid (show w2.heap.size ≤ w6.heap.size from HW6.out.size)
        clear hw8 hb8 hls7 g3
        obtain ⟨bt, hbte⟩ : ∃ b, w6.heap.size = b := ⟨_, rfl⟩
        rw [hbte] at HBT HBSF HTZ ⊢
        clear hbte
        have HPT := hid (show w.heap.size ≤ bt ∧ bt < w8.heap.size ∧ (Value.slice ao k co).ownBlock ≠ some bt from ⟨Nat.le_trans HB2.out.size HTZ.out, boxLt HBT.out, fun e => by have := HOS.out bt e; have := HTZ.out; omega⟩)
        have s0 : w8.cell? ⟨bs, 0, none⟩ = some (.int .i64 2) := (cell_block HBSF.out 0).trans rfl
        have s1 : w8.cell? ⟨bs, 1, none⟩ = some (.int .i64 (k : Int)) := (cell_block HBSF.out 1).trans rfl
        have s2 : w8.cell? ⟨bs, 2, none⟩ = some (.string ⟨#[]⟩) := (cell_block HBSF.out 2).trans rfl
        have s3 : w8.cell? ⟨bs, 3, none⟩ = some (.pointer (some ⟨b6, 0, none⟩)) := (cell_block HBSF.out 3).trans rfl
        have s4 : w8.cell? ⟨bs, 4, none⟩ = some (.slice none 0 0) := (cell_block HBSF.out 4).trans rfl
        have s5 : w8.cell? ⟨bs, 5, none⟩ = some (.int .i64 0) := (cell_block HBSF.out 5).trans rfl
        have s6 : w8.cell? ⟨bs, 6, none⟩ = some (.slice (some ⟨bt, 0, none⟩) 1 1) := (cell_block HBSF.out 6).trans rfl
        have s7 : w8.cell? ⟨bs, 7, none⟩ = some (.slice none 0 0) := (cell_block HBSF.out 7).trans rfl
        have HU := hid (show SqL w8 (fun j => w.heap.size ≤ j ∧ j < w8.heap.size ∧ (Value.slice ao k co).ownBlock ≠ some j) (.cons 2 (k : Int) [] (andE (k : Int) r.cells) (.cons 1 (k : Int) r.name (exConst (k : Int) 0) .nil .nil) .nil) (sC 2 (k : Int) [] (.pointer (some ⟨b6, 0, none⟩)) (.slice (some ⟨bt, 0, none⟩) 1 1)) from SqL.one (HXA8.out.elem HB2.out.size HOS.out) (SqS.box HPT.out HBT.out (HX8.out.elem HB2.out.size HOS.out)))
        have HSQ := hid (show sqOne (k : Int) r = .cons 2 (k : Int) [] (andE (k : Int) r.cells) (.cons 1 (k : Int) r.name (exConst (k : Int) 0) .nil .nil) .nil from by unfold sqOne; rw [if_neg (show ¬ (r.kind = 1 ∨ r.kind = 2) by rw [hkd]; decide), if_neg (show ¬ r.kind = 3 by rw [hkd]; decide)])
        go_wp2_with (at_builtin; refine stmtPushL w.heap.size _ w8 rfl _ _ 47 rfl i0 _ 120 Tryz.underlying47 hi hz0 hz1 hz2 rfl (.slice ao k co) (bodyE (gs.take k) 0) 2 (k : Int) [] (andE (k : Int) r.cells) (.cons 1 (k : Int) r.name (exConst (k : Int) 0) .nil .nil) k (body_take_len (Nat.le_of_succ_le HKL.out)) rfl HO8.out (.pointer (some ⟨b6, 0, none⟩)) (.slice (some ⟨bt, 0, none⟩) 1 1) rfl rfl rfl rfl HU.out (by omega) (by decide) HB8.out.size ?_; intro av cv wb HRX HGB; have HP9 := hid (below_pushed HB8.out rfl HGB.out (fun j e => (HLT.out j e).1)); clear HGB)
        go_roundw
        case rel => exact ⟨k + 1, by go_num, HKL.out, HP9.out, by rw [HT.out, HSQ.out]; exact HRX.out⟩
        case measure => simp [intOf]; omega
    · have hkk : k = gs.length := by omega
      subst hkk
      have hE := HO.out
      rw [List.take_length] at hE
      have HE := hid hE
      clear hE
      have hkI : ¬ (gs.length : Int) < (gs.length : Int) := by omega
      go_wp2_with fail
      go_ret
      exact ⟨_, rfl, HE.out, HB.out⟩
end Go.Proofs.YtlaeflpddehipabGreatDoor
