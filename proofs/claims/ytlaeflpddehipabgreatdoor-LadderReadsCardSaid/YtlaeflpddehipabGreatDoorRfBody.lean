/- The document's Body: what rungs do, as statements. -/
import Derived.Test.YtlaeflpddehipabGreatDoorRfFeeds
import Derived.Test.YtlaeflpddehipabGreatDoorLdBody
import Derived.Test.YtlaeflpddehipabGreatDoorEnds
set_option linter.unusedVariables false
set_option linter.unusedSimpArgs false
namespace Go.Proofs.YtlaeflpddehipabGreatDoor
open Go.RowKit
attribute [local go_sem ↓] Go.wp_at_zero Go.wp_at_succ

/-- The closure num: a constant. -/
theorem num_any (k n : Int) (bi : Nat) (w : World) (hi : w.cell? ⟨bi, 0, none⟩ = some (.int .i64 k)) : Calls Tryz.prog 35 #[.int .i64 n, .pointer (some ⟨bi, 0, none⟩)] w fun e w' => e = .returned (.pointer (some ⟨w.heap.size, 0, none⟩)) ∧ w' = w.alloc (.cells (eC 1 k n 1 [] [] [] (.pointer none) (.pointer none)) 97) := by
  go_enter Tryz.func35, Tryz.ntmps35
  go_wp2_with fail
  go_ret
  exact ⟨rfl, rfl⟩
theorem set_any (k : Int) (nm : Bs) (p : Option Addr) (bi bx : Nat) (w : World) (hi : w.cell? ⟨bi, 0, none⟩ = some (.int .i64 k)) (hn : w.cell? ⟨bx, 2, none⟩ = some (st nm)) : Calls Tryz.prog 34 #[.pointer p, .pointer (some ⟨bi, 0, none⟩), .pointer (some ⟨bx, 0, none⟩)] w fun e w' => e = .returned (.agg (sC 1 k nm (.pointer p) (.slice none 0 0)).toArray) ∧ Below w.heap.size w w' := by
  have l1 : bi < w.heap.size := boxLt4 hi
  have l2 : bx < w.heap.size := boxLt4 hn
  go_enter Tryz.func34, Tryz.ntmps34
  go_wp2_with fail
  refine bodyPost_ret (v := .agg (sC 1 k nm (.pointer p) (.slice none 0 0)).toArray) (results_cell_row rfl _ _ w.heap.size 93 _ (0, 0) _ rfl (heap_alloc_new w _) Tryz.underlying93 rfl (by kernel_rfl)) rfl ⟨rfl, (Below.refl _ _).alloc (Nat.le_refl _) _⟩
set_option maxRecDepth 100000 in
set_option maxHeartbeats 3200000 in
theorem bodyR_any (gs : List Rg) (hwf : ∀ g ∈ gs, g.wf 1000000) (hlen : gs.length ≤ 30) (v : Value) (w : World) (hv : GSAt w gs v) : Calls Tryz.prog 13 #[v] w (BodyPost w gs) := by
  obtain ⟨a, c, rfl, hc, h1⟩ := hv
  have HWF := hid hwf
  clear hwf
  have hlenI : (gs.length : Int) ≤ 30 := by omega
  go_enter Tryz.func13, Tryz.ntmps13
  go_upto_region 3 with fail
  go_loopw [3, 11] (fun o u wr => ∃ k : Nat, u = .int .i64 k ∧ k ≤ gs.length ∧ Below w.heap.size w wr ∧ SqRow w.heap.size wr o (bodyE (gs.take k) 0)) (fun _ u _ => gs.length - (intOf u).toNat)
  case atStart => exact ⟨0, rfl, Nat.zero_le _, Below.refl _ _, SqRow.nil _ _⟩
  case round =>
    obtain ⟨k, rfl, hk, hb, ho⟩ := hrel
    obtain ⟨ao, co, rfl⟩ := ho.form
    rw [body_take_len hk] at ho ⊢
    have HB := hid hb
    have HO := hid ho
    have HLT := hid ho.lt
    clear ho
    by_cases hkl : k < gs.length
    · obtain ⟨g, rfl, hg⟩ := h1.resolve_left (by omega)
      have HKL := hid (show k + 1 ≤ gs.length from hkl)
      have hkI : (k : Int) < (gs.length : Int) := by omega
      have hk0 : (0 : Int) ≤ (k : Int) := by omega
      obtain ⟨r, hr⟩ : ∃ r, gs[k]? = some r := ⟨_, List.getElem?_eq_getElem hkl⟩
      have hwfr := HWF.out r (List.mem_of_getElem? hr)
      have HT := hid (body_take hr)
      have HRW := hid hwfr
      have HKD := hid hwfr.kind
      obtain ⟨⟨vc, p0, ps⟩, p1, p2⟩ := hg.parts hr
      rw [Nat.zero_add] at p0 p1 p2
      have HPS := hid (ps.keep (w' := wr) fun a v h => (hb.cell (boxLt4 h)).trans h)
      replace p0 := (hb.cell (p := ⟨g, k * 3, none⟩) (boxLt4 p0)).trans p0
      replace p1 := (hb.cell (p := ⟨g, k * 3 + 1, none⟩) (boxLt4 p1)).trans p1
      replace p2 := (hb.cell (p := ⟨g, k * 3 + 2, none⟩) (boxLt4 p2)).trans p2
      obtain ⟨ac, cc, rfl, hcc, _⟩ := HPS.out
      have hrt : r.cells.len ≤ 1000000 := Nat.le_trans r.cells.len_tot hwfr.tot
      obtain ⟨i0, hi, hz0, hz1, hz2⟩ := info_parts Tryz.infoStmt
      clear hb hg hwfr ps hr
      go_upto_region 5 with fail
      obtain ⟨w2, hw2⟩ : ∃ w2, (wr.alloc (.cells #[.int .i64 (k : Int)] 3)).alloc (.cells #[.slice ac r.cells.len cc, .int .i64 r.kind, st r.name] 42) = w2 := ⟨_, rfl⟩
      rw [hw2]
      have h2 : Below wr.heap.size wr w2 := by rw [← hw2]; exact ((Below.refl _ _).alloc (Nat.le_refl _) _).alloc (by simp) _
      have hbi : w2.heap[wr.heap.size]? = some (.cells #[.int .i64 (k : Int)] 3 (0, 0)) := by rw [← hw2]; exact (((Below.refl _ _).alloc (Nat.le_refl _) _ : Below (wr.alloc _).heap.size (wr.alloc _) _).block _ (by simp)).trans (heap_alloc_new wr _)
      have hbx : w2.heap[wr.heap.size + 1]? = some (.cells #[.slice ac r.cells.len cc, .int .i64 r.kind, st r.name] 42 (0, 0)) := by rw [← hw2]; have := heap_alloc_new (wr.alloc (.cells #[.int .i64 (k : Int)] 3)) (.cells #[.slice ac r.cells.len cc, .int .i64 r.kind, st r.name] 42); rwa [World.size_alloc] at this
      clear hw2
      have HB2 := hid (HB.out.trans (h2.mono HB.out.size))
      have HO2 := hid (HO.out.old h2)
      have HPS2 := hid (HPS.out.below h2)
      have HLI := hid (fun j e => Nat.ne_of_lt (HLT.out j e).2)
      have HLX := hid (show ∀ j, (Value.slice ao k co).ownBlock = some j → j ≠ wr.heap.size + 1 from fun j e => by have := (HLT.out j e).2; omega)
      have HLT2 := hid (show ∀ j, (Value.slice ao k co).ownBlock = some j → j < w2.heap.size from fun j e => Nat.lt_of_lt_of_le (HLT.out j e).2 h2.size)
      obtain ⟨bi, hbie⟩ : ∃ b, wr.heap.size = b := ⟨_, rfl⟩
      rw [hbie] at hbi hbx HLI HLX ⊢
      obtain ⟨bx, hbxe⟩ : ∃ b, bi + 1 = b := ⟨_, rfl⟩
      rw [hbxe] at hbx HLX ⊢
      clear h2 hbie hbxe p0 p1 p2
      have c0 : w2.cell? ⟨bi, 0, none⟩ = some (.int .i64 (k : Int)) := (cell_block hbi 0).trans rfl
      have z0 : w2.cell? ⟨bx, 0, none⟩ = some (.slice ac r.cells.len cc) := (cell_block hbx 0).trans rfl
      have hli := boxLt hbi
      have hlx := boxLt hbx
      have HBI := hid hbi
      have HBX := hid hbx
      clear hbi hbx
      go_upto_region 6 with (go_at_call 33; (with_reducible refine (feeds_any (k : Int) _ r.cells (Nat.lt_succ_self _) HRW.out.tot HRW.out.cells _ w2 HPS2.out).mono ?_); rintro e w3 ⟨b6, rfl, h6, hb3⟩; have HX3 := hid h6; have HB3 := hid (HB2.out.trans (hb3.mono HB2.out.size)); have HO3 := hid (HO2.out.old hb3); have HBI3 := hid ((hb3.block bi hli).trans HBI.out); have HBX3 := hid ((hb3.block bx hlx).trans HBX.out); have HW3 := hid hb3; clear h6 hb3)
      clear c0 z0
      have c0 : w3.cell? ⟨bi, 0, none⟩ = some (.int .i64 (k : Int)) := (cell_block HBI3.out 0).trans rfl
      have d2 : w3.cell? ⟨bx, 2, none⟩ = some (st r.name) := (cell_block HBX3.out 2).trans rfl
      have hli3 := boxLt HBI3.out
      have hlx3 := boxLt HBX3.out
      rcases HKD.out with hkd | hkd | hkd | hkd
      · have d1 : w3.cell? ⟨bx, 1, none⟩ = some (.int .i64 1) := by rw [← hkd]; exact (cell_block HBX3.out 1).trans rfl
        have HSQ := hid (show sqOne (k : Int) r = .cons 1 (k : Int) r.name (andE (k : Int) r.cells) (.nil) .nil from by unfold sqOne coil; rw [if_pos (Or.inl hkd), if_pos hkd])
        go_wp2_with (first
          | (go_at_call 34; (with_reducible refine (set_any (k : Int) r.name (some ⟨b6, 0, none⟩) bi bx w3 c0 d2).mono ?_); rintro e w4 ⟨rfl, hb4⟩; have HB4 := hid (HB3.out.trans (hb4.mono HB3.out.size)); have HO4 := hid (HO3.out.old hb4); have HX4 := hid (HX3.out.below hb4); have HU := hid (show SqL w4 (fun j => w.heap.size ≤ j ∧ j < w4.heap.size ∧ (Value.slice ao k co).ownBlock ≠ some j) (.cons 1 (k : Int) r.name (andE (k : Int) r.cells) (.nil) .nil) (sC 1 (k : Int) r.name (.pointer (some ⟨b6, 0, none⟩)) (.slice none 0 0)) from SqL.one (HX4.out.elem HB2.out.size HLT2.out) (SqS.nil _ _)); clear hb4)
          | (at_builtin; refine stmtPushL w.heap.size _ w4 rfl _ _ 47 rfl i0 _ 120 Tryz.underlying47 hi hz0 hz1 hz2 rfl (.slice ao k co) (bodyE (gs.take k) 0) 1 (k : Int) r.name (andE (k : Int) r.cells) (.nil) k (body_take_len (Nat.le_of_succ_le HKL.out)) rfl HO4.out (.pointer (some ⟨b6, 0, none⟩)) (.slice none 0 0) rfl rfl rfl rfl HU.out (by omega) (by decide) HB4.out.size ?_; intro av cv wb HRX HGB; have HP9 := hid (below_pushed HB4.out rfl HGB.out (fun j e => (HLT.out j e).1)); clear HGB))
        go_roundw
        case rel => exact ⟨k + 1, by go_num, HKL.out, HP9.out, by rw [HT.out, HSQ.out]; exact HRX.out⟩
        case measure => simp [intOf]; omega
      · have d1 : w3.cell? ⟨bx, 1, none⟩ = some (.int .i64 2) := by rw [← hkd]; exact (cell_block HBX3.out 1).trans rfl
        have HSQ := hid (show sqOne (k : Int) r = .cons 1 (k : Int) r.name (exNeg (k : Int) (andE (k : Int) r.cells)) (.nil) .nil from by unfold sqOne coil; rw [if_pos (Or.inr hkd), if_neg (by rw [hkd]; decide)])
        obtain ⟨w5, hw5⟩ : ∃ w5, w3.alloc (.cells #[.int .i64 4, .int .i64 (k : Int), .int .i64 0, .int .i64 0, .string ⟨#[]⟩, .string ⟨#[]⟩, .string ⟨#[]⟩, .pointer (some ⟨b6, 0, none⟩), .pointer none] 97) = w5 := ⟨_, rfl⟩
        have hb5 : Below w3.heap.size w3 w5 := by rw [← hw5]; exact (Below.refl _ _).alloc (Nat.le_refl _) _
        have HX5 := hid (show RepB w2.heap.size w5 (exNeg (k : Int) (andE (k : Int) r.cells)) (.pointer (some ⟨w3.heap.size, 0, none⟩)) by rw [← hw5]; exact RepB.new HX3.out (RepB.none _ _) HW3.out.size _ _ _ _ _ _ _)
        have HB5 := hid (HB3.out.trans (hb5.mono HB3.out.size))
        have HO5 := hid (HO3.out.old hb5)
        have HI5 := hid ((hb5.cell (boxLt4 c0)).trans c0)
        have HN5 := hid ((hb5.cell (boxLt4 d2)).trans d2)
        have HW5 := hid hw5
        clear hb5 hw5
        go_wp2_with (first
          | (go_at_call 34; rw [HW5.out]; (with_reducible refine (set_any (k : Int) r.name (some ⟨w3.heap.size, 0, none⟩) bi bx w5 HI5.out HN5.out).mono ?_); rintro e w4 ⟨rfl, hb4⟩; have HB4 := hid (HB5.out.trans (hb4.mono HB5.out.size)); have HO4 := hid (HO5.out.old hb4); have HX4 := hid (HX5.out.below hb4); have HU := hid (show SqL w4 (fun j => w.heap.size ≤ j ∧ j < w4.heap.size ∧ (Value.slice ao k co).ownBlock ≠ some j) (.cons 1 (k : Int) r.name (exNeg (k : Int) (andE (k : Int) r.cells)) (.nil) .nil) (sC 1 (k : Int) r.name (.pointer (some ⟨w3.heap.size, 0, none⟩)) (.slice none 0 0)) from SqL.one (HX4.out.elem HB2.out.size HLT2.out) (SqS.nil _ _)); clear hb4)
          | (at_builtin; refine stmtPushL w.heap.size _ w4 rfl _ _ 47 rfl i0 _ 120 Tryz.underlying47 hi hz0 hz1 hz2 rfl (.slice ao k co) (bodyE (gs.take k) 0) 1 (k : Int) r.name (exNeg (k : Int) (andE (k : Int) r.cells)) (.nil) k (body_take_len (Nat.le_of_succ_le HKL.out)) rfl HO4.out (.pointer (some ⟨w3.heap.size, 0, none⟩)) (.slice none 0 0) rfl rfl rfl rfl HU.out (by omega) (by decide) HB4.out.size ?_; intro av cv wb HRX HGB; have HP9 := hid (below_pushed HB4.out rfl HGB.out (fun j e => (HLT.out j e).1)); clear HGB))
        go_roundw
        case rel => exact ⟨k + 1, by go_num, HKL.out, HP9.out, by rw [HT.out, HSQ.out]; exact HRX.out⟩
        case measure => simp [intOf]; omega
      · have d1 : w3.cell? ⟨bx, 1, none⟩ = some (.int .i64 3) := by rw [← hkd]; exact (cell_block HBX3.out 1).trans rfl
        have HSQ := hid (show sqOne (k : Int) r = .cons 2 (k : Int) [] (andE (k : Int) r.cells) (.cons 1 (k : Int) r.name (exConst (k : Int) 1) .nil .nil) .nil from by unfold sqOne; rw [if_neg (show ¬ (r.kind = 1 ∨ r.kind = 2) by rw [hkd]; decide), if_pos hkd])
        go_upto_region 9 with fail
        refine wpEnds.begin (fun w' => w'.cell? ⟨bi, 0, none⟩ = some (.int .i64 (k : Int)) ∧ w'.cell? ⟨bx, 1, none⟩ = some (.int .i64 3)) 14 (by kernel_rfl) ⟨c0, d1⟩ (fun hHeld => ?_)
        refine wpEnds.take 0 10 (v := ?v3a0) rfl (by kernel_rfl) (by kernel_rfl) (by kernel_rfl) (by kernel_rfl) (by kernel_rfl) (fun _ _ _ h => h) (by kernel_rfl) hHeld (fun w' hSw => ?h3a0) ?r3a0
        case h3a0 => (obtain ⟨hSw1, hSw2⟩ := hSw; go_simp; try first | with_reducible rfl | decide)
        case r3a0 =>
        (try simp only [Act.put, List.setIfInBounds_toArray, List.set_cons_zero, List.set_cons_succ])
        refine wpEnds.take 1 10 (v := ?v3a1) rfl (by kernel_rfl) (by kernel_rfl) (by kernel_rfl) (by kernel_rfl) (by kernel_rfl) (fun _ _ _ h => h) (by kernel_rfl) hHeld (fun w' hSw => ?h3a1) ?r3a1
        case h3a1 => (obtain ⟨hSw1, hSw2⟩ := hSw; go_simp; try first | with_reducible rfl | decide)
        case r3a1 =>
        (try simp only [Act.put, List.setIfInBounds_toArray, List.set_cons_zero, List.set_cons_succ])
        refine wpEnds.take 2 10 (v := ?v3a2) rfl (by kernel_rfl) (by kernel_rfl) (by kernel_rfl) (by kernel_rfl) (by kernel_rfl) (fun _ _ _ h => h) (by kernel_rfl) hHeld (fun w' hSw => ?h3a2) ?r3a2
        case h3a2 => (obtain ⟨hSw1, hSw2⟩ := hSw; go_simp; try first | with_reducible rfl | decide)
        case r3a2 =>
        (try simp only [Act.put, List.setIfInBounds_toArray, List.set_cons_zero, List.set_cons_succ])
        refine wpEnds.take 3 10 (v := ?v3a3) rfl (by kernel_rfl) (by kernel_rfl) (by kernel_rfl) (by kernel_rfl) (by kernel_rfl) (fun _ _ _ h => h) (by kernel_rfl) hHeld (fun w' hSw => ?h3a3) ?r3a3
        case h3a3 => (obtain ⟨hSw1, hSw2⟩ := hSw; go_simp; try first | with_reducible rfl | decide)
        case r3a3 =>
        (try simp only [Act.put, List.setIfInBounds_toArray, List.set_cons_zero, List.set_cons_succ])
        refine wpEnds.take 4 10 (v := ?v3a4) rfl (by kernel_rfl) (by kernel_rfl) (by kernel_rfl) (by kernel_rfl) (by kernel_rfl) (fun _ _ _ h => h) (by kernel_rfl) hHeld (fun w' hSw => ?h3a4) ?r3a4
        case h3a4 => (obtain ⟨hSw1, hSw2⟩ := hSw; go_simp; try first | with_reducible rfl | decide)
        case r3a4 =>
        (try simp only [Act.put, List.setIfInBounds_toArray, List.set_cons_zero, List.set_cons_succ])
        refine wpEnds.take 5 10 (v := ?v3a5) rfl (by kernel_rfl) (by kernel_rfl) (by kernel_rfl) (by kernel_rfl) (by kernel_rfl) (fun _ _ _ h => h) (by kernel_rfl) hHeld (fun w' hSw => ?h3a5) ?r3a5
        case h3a5 => (obtain ⟨hSw1, hSw2⟩ := hSw; go_simp; try first | with_reducible rfl | decide)
        case r3a5 =>
        (try simp only [Act.put, List.setIfInBounds_toArray, List.set_cons_zero, List.set_cons_succ])
        refine wpEnds.take 6 10 (v := ?v3a6) rfl (by kernel_rfl) (by kernel_rfl) (by kernel_rfl) (by kernel_rfl) (by kernel_rfl) (fun _ _ _ h => h) (by kernel_rfl) hHeld (fun w' hSw => ?h3a6) ?r3a6
        case h3a6 => (obtain ⟨hSw1, hSw2⟩ := hSw; go_simp; try first | with_reducible rfl | decide)
        case r3a6 =>
        (try simp only [Act.put, List.setIfInBounds_toArray, List.set_cons_zero, List.set_cons_succ])
        refine wpEnds.take 7 10 (v := .int .i64 1) rfl (by kernel_rfl) (by kernel_rfl) (by kernel_rfl) (by kernel_rfl) (by kernel_rfl) (fun _ _ _ h => h) (by kernel_rfl) hHeld (fun w' hSw => ?h3a7) ?r3a7
        case h3a7 => (obtain ⟨hSw1, hSw2⟩ := hSw; go_simp; try first | with_reducible rfl | decide)
        case r3a7 =>
        (try simp only [Act.put, List.setIfInBounds_toArray, List.set_cons_zero, List.set_cons_succ])
        have c0D : w3.drew.cell? ⟨bi, 0, none⟩ = some (.int .i64 (k : Int)) := c0
        refine wpEnds.one 8 (by kernel_rfl) rfl (fun K hK => ?_)
        go_simp
        (with_reducible refine (num_any (k : Int) 1 bi w3.drew c0D).mono ?_)
        rintro e w4 ⟨rfl, hw4⟩
        have hb4 : Below w3.heap.size w3 w4 := by rw [hw4]; exact (Below.refl _ _).drew.alloc (Nat.le_refl _) _
        have HC4 := hid (show RepB w2.heap.size w4 (exConst (k : Int) 1) (.pointer (some ⟨w3.heap.size, 0, none⟩)) by rw [hw4]; exact RepB.new (W := w3.drew) (RepB.none _ _) (RepB.none _ _) HW3.out.size _ _ _ _ _ _ _)
        have HW4 := hid (HW3.out.trans (hb4.mono HW3.out.size))
        have HX4 := hid (HX3.out.below hb4)
        have c4 := (hb4.cell (boxLt4 c0)).trans c0
        have f4 := (hb4.cell (boxLt4 d1)).trans d1
        have n4 := (hb4.cell (boxLt4 d2)).trans d2
        have HBI4 := hid ((hb4.block bi hli3).trans HBI3.out)
        have HBX4 := hid ((hb4.block bx hlx3).trans HBX3.out)
        clear hw4 hb4
        refine hK.out _ _ ⟨c4, f4⟩ ?_
        clear hK K
        (try simp only [Act.put, List.setIfInBounds_toArray, List.set_cons_zero, List.set_cons_succ])
        refine wpEnds.one 9 (by kernel_rfl) rfl (fun K hK => ?_)
        go_simp
        (with_reducible refine (set_any (k : Int) r.name (some ⟨w3.heap.size, 0, none⟩) bi bx w4 c4 n4).mono ?_)
        rintro e w5 ⟨rfl, hb5⟩
        have HC5 := hid (HC4.out.below hb5)
        have HX5 := hid (HX4.out.below hb5)
        have HW5 := hid (HW4.out.trans (hb5.mono HW4.out.size))
        have hli5 : bi < w5.heap.size := boxLt ((hb5.block bi (boxLt HBI4.out)).trans HBI4.out)
        have HBI5 := hid ((hb5.block bi (boxLt HBI4.out)).trans HBI4.out)
        have HBX5 := hid ((hb5.block bx (boxLt HBX4.out)).trans HBX4.out)
        have c5 := (hb5.cell (boxLt4 c4)).trans c4
        have f5 := (hb5.cell (boxLt4 f4)).trans f4
        clear hb5
        refine hK.out _ _ ⟨c5, f5⟩ ?_
        clear hK K
        (try simp only [Act.put, List.setIfInBounds_toArray, List.set_cons_zero, List.set_cons_succ])
        refine wpEnds.one 10 (by kernel_rfl) rfl (fun K hK => ?_)
        go_simp
        obtain ⟨w6, hw6⟩ : ∃ w6, w5.alloc (.cells (sC 1 (k : Int) r.name (.pointer (some ⟨w3.heap.size, 0, none⟩)) (.slice none 0 0)).toArray 93) = w6 := ⟨_, rfl⟩
        have hb6 : Below w5.heap.size w5 w6 := by rw [← hw6]; exact (Below.refl _ _).alloc (Nat.le_refl _) _
        have HBT := hid (show w6.heap[w5.heap.size]? = some (.cells (sC 1 (k : Int) r.name (.pointer (some ⟨w3.heap.size, 0, none⟩)) (.slice none 0 0)).toArray 93 (0, 0)) by rw [← hw6]; exact heap_alloc_new w5 _)
        rw [show w5.alloc (.cells #[.int .i64 1, .int .i64 (k : Int), st r.name, .pointer (some ⟨w3.heap.size, 0, none⟩), .slice none 0 0, .int .i64 0, .slice none 0 0, .slice none 0 0] 93) = w6 from hw6]
        have HC6 := hid (HC5.out.below hb6)
        have HX6 := hid (HX5.out.below hb6)
        have HW6 := hid (HW5.out.trans (hb6.mono HW5.out.size))
        have HB6 := hid (HB2.out.trans (HW6.out.mono HB2.out.size))
        have HO6 := hid (HO2.out.old HW6.out)
        have HBI6 := hid ((hb6.block bi hli5).trans HBI5.out)
        have HBX6 := hid ((hb6.block bx (boxLt HBX5.out)).trans HBX5.out)
        have c6 : w6.cell? ⟨bi, 0, none⟩ = some (.int .i64 (k : Int)) := (cell_block HBI6.out 0).trans rfl
        have f6 : w6.cell? ⟨bx, 1, none⟩ = some (.int .i64 3) := (cell_block HBX6.out 1).trans (by rw [← hkd]; rfl)
        have HPT := hid (show w.heap.size ≤ w5.heap.size ∧ w5.heap.size < w6.heap.size ∧ (Value.slice ao k co).ownBlock ≠ some w5.heap.size from ⟨Nat.le_trans HB2.out.size HW5.out.size, boxLt HBT.out, fun e => by have h1 := HLT2.out _ e; have h2 := HW5.out.size; omega⟩)
        clear hw6 hb6
        refine hK.out _ _ ⟨c6, f6⟩ ?_
        clear hK K
        (try simp only [Act.put, List.setIfInBounds_toArray, List.set_cons_zero, List.set_cons_succ])
        refine wpEnds.take 11 10 (v := ?v3a11) rfl (by kernel_rfl) (by kernel_rfl) (by kernel_rfl) (by kernel_rfl) (by kernel_rfl) (fun _ _ _ h => h) (by kernel_rfl) ⟨c6, f6⟩ (fun w' hSw => ?h3a11) ?r3a11
        case h3a11 => (obtain ⟨hSw1, hSw2⟩ := hSw; go_simp; try first | with_reducible rfl | decide)
        case r3a11 =>
        (try simp only [Act.put, List.setIfInBounds_toArray, List.set_cons_zero, List.set_cons_succ])
        refine wpEnds.one 12 (by kernel_rfl) rfl (fun K hK => ?_)
        go_simp
        have c7 : (w6.alloc (.cells (sC 2 (k : Int) [] (.pointer (some ⟨b6, 0, none⟩)) (.slice (some ⟨w5.heap.size, 0, none⟩) 1 1)).toArray 93)).cell? ⟨bi, 0, none⟩ = some (.int .i64 (k : Int)) := (((Below.refl _ _).alloc (Nat.le_refl _) _ : Below w6.heap.size w6 _).cell (boxLt4 c6)).trans c6
        have f7 : (w6.alloc (.cells (sC 2 (k : Int) [] (.pointer (some ⟨b6, 0, none⟩)) (.slice (some ⟨w5.heap.size, 0, none⟩) 1 1)).toArray 93)).cell? ⟨bx, 1, none⟩ = some (.int .i64 3) := (((Below.refl _ _).alloc (Nat.le_refl _) _ : Below w6.heap.size w6 _).cell (boxLt4 f6)).trans f6
        refine hK.out _ _ ⟨c7, f7⟩ ?_
        clear hK K
        (try simp only [Act.put, List.setIfInBounds_toArray, List.set_cons_zero, List.set_cons_succ])
        refine wpEnds.one 13 (by kernel_rfl) rfl (fun K hK => ?_)
        have HU := hid (show SqL w6 (fun j => w.heap.size ≤ j ∧ j < w6.heap.size ∧ (Value.slice ao k co).ownBlock ≠ some j) (.cons 2 (k : Int) [] (andE (k : Int) r.cells) (.cons 1 (k : Int) r.name (exConst (k : Int) 1) .nil .nil) .nil) (sC 2 (k : Int) [] (.pointer (some ⟨b6, 0, none⟩)) (.slice (some ⟨w5.heap.size, 0, none⟩) 1 1)) from SqL.one (HX6.out.elem HB2.out.size HLT2.out) (SqS.box HPT.out HBT.out (HC6.out.elem HB2.out.size HLT2.out)))
        refine stmtPush (by rfl) w.heap.size _ w6 _ _ 47 (by rfl) i0 _ 120 Tryz.underlying47 hi hz0 hz1 hz2 (by rfl) (.slice ao k co) (bodyE (gs.take k) 0) 2 (k : Int) [] (andE (k : Int) r.cells) (.cons 1 (k : Int) r.name (exConst (k : Int) 1) .nil .nil) k (body_take_len (Nat.le_of_succ_le HKL.out)) (by rfl) HO6.out (.pointer (some ⟨b6, 0, none⟩)) (.slice (some ⟨w5.heap.size, 0, none⟩) 1 1) rfl (by rfl) rfl rfl HU.out (by omega) (by decide) HB6.out.size ?_
        intro av cv wb HRX HGB
        have HP9 := hid (below_pushed HB6.out rfl HGB.out (fun j e => (HLT.out j e).1))
        have HBI9 := hid (boxOld HGB.out HBI6.out (fun e => HLI.out _ e rfl))
        have HBX9 := hid (boxOld HGB.out HBX6.out (fun e => HLX.out _ e rfl))
        have c9 : wb.cell? ⟨bi, 0, none⟩ = some (.int .i64 (k : Int)) := (cell_block HBI9.out 0).trans rfl
        have f9 : wb.cell? ⟨bx, 1, none⟩ = some (.int .i64 3) := (cell_block HBX9.out 1).trans (by rw [← hkd]; rfl)
        clear HGB
        refine hK.out _ _ ⟨c9, f9⟩ ?_
        clear hK K
        (try simp only [Act.put, List.setIfInBounds_toArray, List.set_cons_zero, List.set_cons_succ])
        refine wpEnds.last 14 (by kernel_rfl) (by kernel_rfl) rfl (fun K hK => ?_)
        go_simp
        refine hK.out _ _ ?_
        clear hK K
        (try simp only [Act.put, List.setIfInBounds_toArray, List.set_cons_zero, List.set_cons_succ])
        go_wp2_with fail
        go_roundw
        case rel => exact ⟨k + 1, by go_num, HKL.out, HP9.out, by rw [HT.out, HSQ.out]; exact HRX.out⟩
        case measure => simp [intOf]; omega
      · have d1 : w3.cell? ⟨bx, 1, none⟩ = some (.int .i64 4) := by rw [← hkd]; exact (cell_block HBX3.out 1).trans rfl
        have HSQ := hid (show sqOne (k : Int) r = .cons 2 (k : Int) [] (andE (k : Int) r.cells) (.cons 1 (k : Int) r.name (exConst (k : Int) 0) .nil .nil) .nil from by unfold sqOne; rw [if_neg (show ¬ (r.kind = 1 ∨ r.kind = 2) by rw [hkd]; decide), if_neg (show ¬ r.kind = 3 by rw [hkd]; decide)])
        go_upto_region 9 with fail
        refine wpEnds.begin (fun w' => w'.cell? ⟨bi, 0, none⟩ = some (.int .i64 (k : Int)) ∧ w'.cell? ⟨bx, 1, none⟩ = some (.int .i64 4)) 14 (by kernel_rfl) ⟨c0, d1⟩ (fun hHeld => ?_)
        refine wpEnds.take 0 10 (v := ?v4a0) rfl (by kernel_rfl) (by kernel_rfl) (by kernel_rfl) (by kernel_rfl) (by kernel_rfl) (fun _ _ _ h => h) (by kernel_rfl) hHeld (fun w' hSw => ?h4a0) ?r4a0
        case h4a0 => (obtain ⟨hSw1, hSw2⟩ := hSw; go_simp; try first | with_reducible rfl | decide)
        case r4a0 =>
        (try simp only [Act.put, List.setIfInBounds_toArray, List.set_cons_zero, List.set_cons_succ])
        refine wpEnds.take 1 10 (v := ?v4a1) rfl (by kernel_rfl) (by kernel_rfl) (by kernel_rfl) (by kernel_rfl) (by kernel_rfl) (fun _ _ _ h => h) (by kernel_rfl) hHeld (fun w' hSw => ?h4a1) ?r4a1
        case h4a1 => (obtain ⟨hSw1, hSw2⟩ := hSw; go_simp; try first | with_reducible rfl | decide)
        case r4a1 =>
        (try simp only [Act.put, List.setIfInBounds_toArray, List.set_cons_zero, List.set_cons_succ])
        refine wpEnds.take 2 10 (v := ?v4a2) rfl (by kernel_rfl) (by kernel_rfl) (by kernel_rfl) (by kernel_rfl) (by kernel_rfl) (fun _ _ _ h => h) (by kernel_rfl) hHeld (fun w' hSw => ?h4a2) ?r4a2
        case h4a2 => (obtain ⟨hSw1, hSw2⟩ := hSw; go_simp; try first | with_reducible rfl | decide)
        case r4a2 =>
        (try simp only [Act.put, List.setIfInBounds_toArray, List.set_cons_zero, List.set_cons_succ])
        refine wpEnds.take 3 10 (v := ?v4a3) rfl (by kernel_rfl) (by kernel_rfl) (by kernel_rfl) (by kernel_rfl) (by kernel_rfl) (fun _ _ _ h => h) (by kernel_rfl) hHeld (fun w' hSw => ?h4a3) ?r4a3
        case h4a3 => (obtain ⟨hSw1, hSw2⟩ := hSw; go_simp; try first | with_reducible rfl | decide)
        case r4a3 =>
        (try simp only [Act.put, List.setIfInBounds_toArray, List.set_cons_zero, List.set_cons_succ])
        refine wpEnds.take 4 10 (v := ?v4a4) rfl (by kernel_rfl) (by kernel_rfl) (by kernel_rfl) (by kernel_rfl) (by kernel_rfl) (fun _ _ _ h => h) (by kernel_rfl) hHeld (fun w' hSw => ?h4a4) ?r4a4
        case h4a4 => (obtain ⟨hSw1, hSw2⟩ := hSw; go_simp; try first | with_reducible rfl | decide)
        case r4a4 =>
        (try simp only [Act.put, List.setIfInBounds_toArray, List.set_cons_zero, List.set_cons_succ])
        refine wpEnds.take 5 10 (v := ?v4a5) rfl (by kernel_rfl) (by kernel_rfl) (by kernel_rfl) (by kernel_rfl) (by kernel_rfl) (fun _ _ _ h => h) (by kernel_rfl) hHeld (fun w' hSw => ?h4a5) ?r4a5
        case h4a5 => (obtain ⟨hSw1, hSw2⟩ := hSw; go_simp; try first | with_reducible rfl | decide)
        case r4a5 =>
        (try simp only [Act.put, List.setIfInBounds_toArray, List.set_cons_zero, List.set_cons_succ])
        refine wpEnds.take 6 10 (v := ?v4a6) rfl (by kernel_rfl) (by kernel_rfl) (by kernel_rfl) (by kernel_rfl) (by kernel_rfl) (fun _ _ _ h => h) (by kernel_rfl) hHeld (fun w' hSw => ?h4a6) ?r4a6
        case h4a6 => (obtain ⟨hSw1, hSw2⟩ := hSw; go_simp; try first | with_reducible rfl | decide)
        case r4a6 =>
        (try simp only [Act.put, List.setIfInBounds_toArray, List.set_cons_zero, List.set_cons_succ])
        refine wpEnds.take 7 10 (v := .int .i64 0) rfl (by kernel_rfl) (by kernel_rfl) (by kernel_rfl) (by kernel_rfl) (by kernel_rfl) (fun _ _ _ h => h) (by kernel_rfl) hHeld (fun w' hSw => ?h4a7) ?r4a7
        case h4a7 => (obtain ⟨hSw1, hSw2⟩ := hSw; go_simp; try first | with_reducible rfl | decide)
        case r4a7 =>
        (try simp only [Act.put, List.setIfInBounds_toArray, List.set_cons_zero, List.set_cons_succ])
        have c0D : w3.drew.cell? ⟨bi, 0, none⟩ = some (.int .i64 (k : Int)) := c0
        refine wpEnds.one 8 (by kernel_rfl) rfl (fun K hK => ?_)
        go_simp
        (with_reducible refine (num_any (k : Int) 0 bi w3.drew c0D).mono ?_)
        rintro e w4 ⟨rfl, hw4⟩
        have hb4 : Below w3.heap.size w3 w4 := by rw [hw4]; exact (Below.refl _ _).drew.alloc (Nat.le_refl _) _
        have HC4 := hid (show RepB w2.heap.size w4 (exConst (k : Int) 0) (.pointer (some ⟨w3.heap.size, 0, none⟩)) by rw [hw4]; exact RepB.new (W := w3.drew) (RepB.none _ _) (RepB.none _ _) HW3.out.size _ _ _ _ _ _ _)
        have HW4 := hid (HW3.out.trans (hb4.mono HW3.out.size))
        have HX4 := hid (HX3.out.below hb4)
        have c4 := (hb4.cell (boxLt4 c0)).trans c0
        have f4 := (hb4.cell (boxLt4 d1)).trans d1
        have n4 := (hb4.cell (boxLt4 d2)).trans d2
        have HBI4 := hid ((hb4.block bi hli3).trans HBI3.out)
        have HBX4 := hid ((hb4.block bx hlx3).trans HBX3.out)
        clear hw4 hb4
        refine hK.out _ _ ⟨c4, f4⟩ ?_
        clear hK K
        (try simp only [Act.put, List.setIfInBounds_toArray, List.set_cons_zero, List.set_cons_succ])
        refine wpEnds.one 9 (by kernel_rfl) rfl (fun K hK => ?_)
        go_simp
        (with_reducible refine (set_any (k : Int) r.name (some ⟨w3.heap.size, 0, none⟩) bi bx w4 c4 n4).mono ?_)
        rintro e w5 ⟨rfl, hb5⟩
        have HC5 := hid (HC4.out.below hb5)
        have HX5 := hid (HX4.out.below hb5)
        have HW5 := hid (HW4.out.trans (hb5.mono HW4.out.size))
        have hli5 : bi < w5.heap.size := boxLt ((hb5.block bi (boxLt HBI4.out)).trans HBI4.out)
        have HBI5 := hid ((hb5.block bi (boxLt HBI4.out)).trans HBI4.out)
        have HBX5 := hid ((hb5.block bx (boxLt HBX4.out)).trans HBX4.out)
        have c5 := (hb5.cell (boxLt4 c4)).trans c4
        have f5 := (hb5.cell (boxLt4 f4)).trans f4
        clear hb5
        refine hK.out _ _ ⟨c5, f5⟩ ?_
        clear hK K
        (try simp only [Act.put, List.setIfInBounds_toArray, List.set_cons_zero, List.set_cons_succ])
        refine wpEnds.one 10 (by kernel_rfl) rfl (fun K hK => ?_)
        go_simp
        obtain ⟨w6, hw6⟩ : ∃ w6, w5.alloc (.cells (sC 1 (k : Int) r.name (.pointer (some ⟨w3.heap.size, 0, none⟩)) (.slice none 0 0)).toArray 93) = w6 := ⟨_, rfl⟩
        have hb6 : Below w5.heap.size w5 w6 := by rw [← hw6]; exact (Below.refl _ _).alloc (Nat.le_refl _) _
        have HBT := hid (show w6.heap[w5.heap.size]? = some (.cells (sC 1 (k : Int) r.name (.pointer (some ⟨w3.heap.size, 0, none⟩)) (.slice none 0 0)).toArray 93 (0, 0)) by rw [← hw6]; exact heap_alloc_new w5 _)
        rw [show w5.alloc (.cells #[.int .i64 1, .int .i64 (k : Int), st r.name, .pointer (some ⟨w3.heap.size, 0, none⟩), .slice none 0 0, .int .i64 0, .slice none 0 0, .slice none 0 0] 93) = w6 from hw6]
        have HC6 := hid (HC5.out.below hb6)
        have HX6 := hid (HX5.out.below hb6)
        have HW6 := hid (HW5.out.trans (hb6.mono HW5.out.size))
        have HB6 := hid (HB2.out.trans (HW6.out.mono HB2.out.size))
        have HO6 := hid (HO2.out.old HW6.out)
        have HBI6 := hid ((hb6.block bi hli5).trans HBI5.out)
        have HBX6 := hid ((hb6.block bx (boxLt HBX5.out)).trans HBX5.out)
        have c6 : w6.cell? ⟨bi, 0, none⟩ = some (.int .i64 (k : Int)) := (cell_block HBI6.out 0).trans rfl
        have f6 : w6.cell? ⟨bx, 1, none⟩ = some (.int .i64 4) := (cell_block HBX6.out 1).trans (by rw [← hkd]; rfl)
        have HPT := hid (show w.heap.size ≤ w5.heap.size ∧ w5.heap.size < w6.heap.size ∧ (Value.slice ao k co).ownBlock ≠ some w5.heap.size from ⟨Nat.le_trans HB2.out.size HW5.out.size, boxLt HBT.out, fun e => by have h1 := HLT2.out _ e; have h2 := HW5.out.size; omega⟩)
        clear hw6 hb6
        refine hK.out _ _ ⟨c6, f6⟩ ?_
        clear hK K
        (try simp only [Act.put, List.setIfInBounds_toArray, List.set_cons_zero, List.set_cons_succ])
        refine wpEnds.take 11 10 (v := ?v4a11) rfl (by kernel_rfl) (by kernel_rfl) (by kernel_rfl) (by kernel_rfl) (by kernel_rfl) (fun _ _ _ h => h) (by kernel_rfl) ⟨c6, f6⟩ (fun w' hSw => ?h4a11) ?r4a11
        case h4a11 => (obtain ⟨hSw1, hSw2⟩ := hSw; go_simp; try first | with_reducible rfl | decide)
        case r4a11 =>
        (try simp only [Act.put, List.setIfInBounds_toArray, List.set_cons_zero, List.set_cons_succ])
        refine wpEnds.one 12 (by kernel_rfl) rfl (fun K hK => ?_)
        go_simp
        have c7 : (w6.alloc (.cells (sC 2 (k : Int) [] (.pointer (some ⟨b6, 0, none⟩)) (.slice (some ⟨w5.heap.size, 0, none⟩) 1 1)).toArray 93)).cell? ⟨bi, 0, none⟩ = some (.int .i64 (k : Int)) := (((Below.refl _ _).alloc (Nat.le_refl _) _ : Below w6.heap.size w6 _).cell (boxLt4 c6)).trans c6
        have f7 : (w6.alloc (.cells (sC 2 (k : Int) [] (.pointer (some ⟨b6, 0, none⟩)) (.slice (some ⟨w5.heap.size, 0, none⟩) 1 1)).toArray 93)).cell? ⟨bx, 1, none⟩ = some (.int .i64 4) := (((Below.refl _ _).alloc (Nat.le_refl _) _ : Below w6.heap.size w6 _).cell (boxLt4 f6)).trans f6
        refine hK.out _ _ ⟨c7, f7⟩ ?_
        clear hK K
        (try simp only [Act.put, List.setIfInBounds_toArray, List.set_cons_zero, List.set_cons_succ])
        refine wpEnds.one 13 (by kernel_rfl) rfl (fun K hK => ?_)
        have HU := hid (show SqL w6 (fun j => w.heap.size ≤ j ∧ j < w6.heap.size ∧ (Value.slice ao k co).ownBlock ≠ some j) (.cons 2 (k : Int) [] (andE (k : Int) r.cells) (.cons 1 (k : Int) r.name (exConst (k : Int) 0) .nil .nil) .nil) (sC 2 (k : Int) [] (.pointer (some ⟨b6, 0, none⟩)) (.slice (some ⟨w5.heap.size, 0, none⟩) 1 1)) from SqL.one (HX6.out.elem HB2.out.size HLT2.out) (SqS.box HPT.out HBT.out (HC6.out.elem HB2.out.size HLT2.out)))
        refine stmtPush (by rfl) w.heap.size _ w6 _ _ 47 (by rfl) i0 _ 120 Tryz.underlying47 hi hz0 hz1 hz2 (by rfl) (.slice ao k co) (bodyE (gs.take k) 0) 2 (k : Int) [] (andE (k : Int) r.cells) (.cons 1 (k : Int) r.name (exConst (k : Int) 0) .nil .nil) k (body_take_len (Nat.le_of_succ_le HKL.out)) (by rfl) HO6.out (.pointer (some ⟨b6, 0, none⟩)) (.slice (some ⟨w5.heap.size, 0, none⟩) 1 1) rfl (by rfl) rfl rfl HU.out (by omega) (by decide) HB6.out.size ?_
        intro av cv wb HRX HGB
        have HP9 := hid (below_pushed HB6.out rfl HGB.out (fun j e => (HLT.out j e).1))
        have HBI9 := hid (boxOld HGB.out HBI6.out (fun e => HLI.out _ e rfl))
        have HBX9 := hid (boxOld HGB.out HBX6.out (fun e => HLX.out _ e rfl))
        have c9 : wb.cell? ⟨bi, 0, none⟩ = some (.int .i64 (k : Int)) := (cell_block HBI9.out 0).trans rfl
        have f9 : wb.cell? ⟨bx, 1, none⟩ = some (.int .i64 4) := (cell_block HBX9.out 1).trans (by rw [← hkd]; rfl)
        clear HGB
        refine hK.out _ _ ⟨c9, f9⟩ ?_
        clear hK K
        (try simp only [Act.put, List.setIfInBounds_toArray, List.set_cons_zero, List.set_cons_succ])
        refine wpEnds.last 14 (by kernel_rfl) (by kernel_rfl) rfl (fun K hK => ?_)
        go_simp
        refine hK.out _ _ ?_
        clear hK K
        (try simp only [Act.put, List.setIfInBounds_toArray, List.set_cons_zero, List.set_cons_succ])
        go_wp2_with fail
        go_roundw
        case rel => exact ⟨k + 1, by go_num, HKL.out, HP9.out, by rw [HT.out, HSQ.out]; exact HRX.out⟩
        case measure => simp [intOf]; omega
    · have hkk : k = gs.length := by omega
      subst hkk
      have hE := HO.out
      rw [List.take_length] at hE
      have HE := hid hE
      clear hE
      have hkI : ¬ (gs.length : Int) < (gs.length : Int) := by omega
      go_wp2_with fail
      go_ret
      exact ⟨_, rfl, HE.out, HB.out⟩
end Go.Proofs.YtlaeflpddehipabGreatDoor
