/- The document's PrintRungs. -/
import Derived.Test.YtlaeflpddehipabGreatDoorLdPrint
set_option linter.unusedVariables false
set_option linter.unusedSimpArgs false
namespace Go.Proofs.YtlaeflpddehipabGreatDoor
open Go.RowKit
attribute [local go_sem ↓] Go.wp_at_zero Go.wp_at_succ

theorem ctext_nil {t : Tr} (h : t.len = 0) : ctext t = [] := by
  cases t <;> simp_all [Tr.len, ctext, Tr.pieces, Lib.join_nil]
set_option maxRecDepth 100000 in
set_option maxHeartbeats 3200000 in
theorem printR_any (gs : List Rg) (hwf : ∀ g ∈ gs, g.wf 1000000) (hlen : gs.length ≤ 30) (v : Value) (w : World) (hv : GSAt w gs v) : Calls Tryz.prog 10 #[v] w fun e w' => e = .returned (st (ptext gs)) ∧ Below w.heap.size w w' := by
  obtain ⟨a, c, rfl, hc, h1⟩ := hv
  have HWF := hid hwf
  have HPL := hid (ptext_take_len hwf hlen)
  clear hwf
  have hlenI : (gs.length : Int) ≤ 30 := by omega
  go_enter Tryz.func10, Tryz.ntmps10
  go_upto_region 3 with fail
  go_loopw [3, 9] (fun o u wr => ∃ k : Nat, u = .int .i64 k ∧ k ≤ gs.length ∧ o = st (ptext (gs.take k)) ∧ Below w.heap.size w wr) (fun _ u _ => gs.length - (intOf u).toNat)
  case atStart => exact ⟨0, rfl, Nat.zero_le _, rfl, Below.refl _ _⟩
  case round =>
    obtain ⟨k, rfl, hk, rfl, hb⟩ := hrel
    have HB := hid hb
    have hptl := HPL.out k
    obtain ⟨S, hS⟩ : ∃ S, ptext (gs.take k) = S := ⟨_, rfl⟩
    have HS := hid hS
    rw [hS] at hptl
    rw [hS]
    clear hS
    by_cases hkl : k < gs.length
    · obtain ⟨g, rfl, hg⟩ := h1.resolve_left (by omega)
      have HKL := hid (show k + 1 ≤ gs.length from hkl)
      have hkI : (k : Int) < (gs.length : Int) := by omega
      have hk0 : (0 : Int) ≤ (k : Int) := by omega
      obtain ⟨r, hr⟩ : ∃ r, gs[k]? = some r := ⟨_, List.getElem?_eq_getElem hkl⟩
      have hwfr := HWF.out r (List.mem_of_getElem? hr)
      have HT := hid (take_succ hr)
      have hidx := idx5 hwfr.kind
      have HRW := hid hwfr
      obtain ⟨⟨vc, p0, ps⟩, p1, p2⟩ := hg.parts hr
      rw [Nat.zero_add] at p0 p1 p2
      have HPS := hid (ps.keep (w' := wr) fun a v h => (hb.cell (boxLt4 h)).trans h)
      replace p0 := (hb.cell (p := ⟨g, k * 3, none⟩) (boxLt4 p0)).trans p0
      replace p1 := (hb.cell (p := ⟨g, k * 3 + 1, none⟩) (boxLt4 p1)).trans p1
      replace p2 := (hb.cell (p := ⟨g, k * 3 + 2, none⟩) (boxLt4 p2)).trans p2
      obtain ⟨ac, cc, rfl, hcc, _⟩ := HPS.out
      have hrt : r.cells.len ≤ 1000000 := Nat.le_trans r.cells.len_tot hwfr.tot
      have HCT := hid (ctext_len hwfr.cells hwfr.tot)
      have hkt := ktext_len r.kind
      have hkts := st_size (ktext r.kind)
      have hnm := hwfr.name
      have hnms := st_size r.name
      have hSs := st_size S
      clear hb hg hwfr ps hr
      go_upto_region 5 with fail
      have h2 : Below wr.heap.size wr (wr.alloc (.cells #[.slice ac r.cells.len cc, .int .i64 r.kind, st r.name] 42)) := (Below.refl _ _).alloc (Nat.le_refl _) _
      have hbx : (wr.alloc (.cells #[.slice ac r.cells.len cc, .int .i64 r.kind, st r.name] 42)).heap[wr.heap.size]? = some (.cells #[.slice ac r.cells.len cc, .int .i64 r.kind, st r.name] 42 (0, 0)) := heap_alloc_new wr _
      obtain ⟨bx, hbxe⟩ : ∃ bx, wr.heap.size = bx := ⟨_, rfl⟩
      have HB2 := hid (HB.out.trans (h2.mono HB.out.size))
      have HPS2 := hid (HPS.out.below h2)
      rw [hbxe] at hbx
      rw [hbxe]
      generalize wr.alloc _ = w2 at hbx HB2 HPS2 ⊢
      have z0 : w2.cell? ⟨bx, 0, none⟩ = some (.slice ac r.cells.len cc) := (cell_block hbx 0).trans rfl
      have hlx := boxLt hbx
      have HBX := hid hbx
      clear h2 hbx hbxe p0 p1 p2
      go_upto_region 6 with (go_at_call 30; (with_reducible refine (cellsText_any _ r.cells (Nat.lt_succ_self _) HRW.out.tot HRW.out.cells _ w2 HPS2.out).mono ?_); rintro e w3 ⟨rfl, hb3⟩; have HB3 := hid (HB2.out.trans (hb3.mono HB2.out.size)); have HBX3 := hid ((hb3.block bx hlx).trans HBX.out); clear hb3)
      clear z0
      have HBD := hid HB3.out
      have d0 : w3.cell? ⟨bx, 0, none⟩ = some (.slice ac r.cells.len cc) := (cell_block HBX3.out 0).trans rfl
      have d1 : w3.cell? ⟨bx, 1, none⟩ = some (.int .i64 r.kind) := (cell_block HBX3.out 1).trans rfl
      have d2 : w3.cell? ⟨bx, 2, none⟩ = some (st r.name) := (cell_block HBX3.out 2).trans rfl
      have hct := HCT.out
      have hcts := st_size (ctext r.cells)
      by_cases hz : r.cells.len = 0
      · have hzI : ¬ (0 : Int) < (r.cells.len : Int) := by omega
        have hT2 : ptext (gs.take (k + 1)) = S ++ (ctext r.cells ++ [40] ++ ktext r.kind ++ r.name ++ [41, 10]) := by rw [HT.out, HS.out, rtext, if_pos hz, ctext_nil hz]; simp
        obtain ⟨y1, hy1⟩ : ∃ y, ctext r.cells = y := ⟨_, rfl⟩
        have hl1 : y1.length ≤ 16000001 := by rw [← hy1]; omega
        go_upto_region 8 with fail
        rw [hy1] at hT2 ⊢
        clear hy1 hct hcts
        obtain ⟨y2, hy2⟩ : ∃ y, y1 ++ [40] = y := ⟨_, rfl⟩
        obtain ⟨y4, hy4⟩ : ∃ y, y2 ++ ktext r.kind = y := ⟨_, rfl⟩
        obtain ⟨y7, hy7⟩ : ∃ y, y4 ++ r.name = y := ⟨_, rfl⟩
        obtain ⟨y8, hy8⟩ : ∃ y, y7 ++ [41, 10] = y := ⟨_, rfl⟩
        obtain ⟨y9, hy9⟩ : ∃ y, S ++ y8 = y := ⟨_, rfl⟩
        have e2 : (⟨y1.toArray⟩ : ByteArray) ++ ⟨#[40]⟩ = ⟨y2.toArray⟩ := by rw [show (⟨#[40]⟩ : ByteArray) = ⟨([40] : Bs).toArray⟩ from rfl, str_app, hy2]
        have e4 : (⟨y2.toArray⟩ : ByteArray) ++ ⟨(ktext r.kind).toArray⟩ = ⟨y4.toArray⟩ := by rw [str_app, hy4]
        have e7 : (⟨y4.toArray⟩ : ByteArray) ++ ⟨r.name.toArray⟩ = ⟨y7.toArray⟩ := by rw [str_app, hy7]
        have e8 : (⟨y7.toArray⟩ : ByteArray) ++ ⟨#[41, 10]⟩ = ⟨y8.toArray⟩ := by rw [show (⟨#[41, 10]⟩ : ByteArray) = ⟨([41, 10] : Bs).toArray⟩ from rfl, str_app, hy8]
        have e9 : (⟨S.toArray⟩ : ByteArray) ++ ⟨y8.toArray⟩ = ⟨y9.toArray⟩ := by rw [str_app, hy9]
        have hl2 : y2.length ≤ 16000002 := by rw [← hy2]; simp; omega
        have hl4 : y4.length ≤ 16000004 := by rw [← hy4]; simp; omega
        have hl7 : y7.length ≤ 16000016 := by rw [← hy7]; simp; omega
        have hl8 : y8.length ≤ 16000018 := by rw [← hy8]; simp; omega
        have hq2 : ¬ 9223372036854775807 < y1.length + 1 := by omega
        have hq4 : ¬ 9223372036854775807 < y2.length + (ktext r.kind).length := by omega
        have hq7 : ¬ 9223372036854775807 < y4.length + r.name.length := by omega
        have hq8 : ¬ 9223372036854775807 < y7.length + 2 := by omega
        have hq9 : ¬ 9223372036854775807 < S.length + y8.length := by omega
        have hs1 := st_size y1
        have hs2 := st_size y2
        have hs4 := st_size y4
        have hs7 := st_size y7
        have hs8 := st_size y8
        have HP := hid (show st y9 = st (ptext (gs.take (k + 1))) by rw [hT2, hy2, hy4, hy7, hy8, hy9])
        clear hy2 hy4 hy7 hy8 hy9 hT2 hl1 hl2 hl4 hl7 hl8
        refine wpEnds.begin (fun w' => w'.cell? ⟨bx, 1, none⟩ = some (.int .i64 r.kind) ∧ w'.cell? ⟨bx, 2, none⟩ = some (st r.name)) 13 (by kernel_rfl) ⟨d1, d2⟩ (fun hHeld => ?_)
        refine wpEnds.take 0 14 (v := ?va0) rfl (by kernel_rfl) (by kernel_rfl) (by kernel_rfl) (by kernel_rfl) (by kernel_rfl) (fun _ _ _ h => h) (by kernel_rfl) hHeld (fun w' hSw => ?hya0) ?resta0
        case hya0 => (obtain ⟨hSw1, hSw2⟩ := hSw; go_simp; try with_reducible rfl)
        case resta0 =>
        (try simp only [Act.put, List.setIfInBounds_toArray, List.set_cons_zero, List.set_cons_succ])
        refine wpEnds.take 1 14 (v := ?va1) rfl (by kernel_rfl) (by kernel_rfl) (by kernel_rfl) (by kernel_rfl) (by kernel_rfl) (fun _ _ _ h => h) (by kernel_rfl) hHeld (fun w' hSw => ?hya1) ?resta1
        case hya1 => (obtain ⟨hSw1, hSw2⟩ := hSw; go_simp; try with_reducible rfl)
        case resta1 =>
        (try simp only [Act.put, List.setIfInBounds_toArray, List.set_cons_zero, List.set_cons_succ])
        refine wpEnds.take 2 14 (v := st y2) rfl (by kernel_rfl) (by kernel_rfl) (by kernel_rfl) (by kernel_rfl) (by kernel_rfl) (fun _ _ _ h => h) (by kernel_rfl) hHeld (fun w' hSw => ?hya2) ?resta2
        case hya2 => (obtain ⟨hSw1, hSw2⟩ := hSw; go_simp; try with_reducible rfl)
        case resta2 =>
        (try simp only [Act.put, List.setIfInBounds_toArray, List.set_cons_zero, List.set_cons_succ])
        refine wpEnds.take 3 14 (v := ?va3) rfl (by kernel_rfl) (by kernel_rfl) (by kernel_rfl) (by kernel_rfl) (by kernel_rfl) (fun _ _ _ h => h) (by kernel_rfl) hHeld (fun w' hSw => ?hya3) ?resta3
        case hya3 => (obtain ⟨hSw1, hSw2⟩ := hSw; go_simp; try with_reducible rfl)
        case resta3 =>
        (try simp only [Act.put, List.setIfInBounds_toArray, List.set_cons_zero, List.set_cons_succ])
        refine wpEnds.take 4 14 (v := ?va4) rfl (by kernel_rfl) (by kernel_rfl) (by kernel_rfl) (by kernel_rfl) (by kernel_rfl) (fun _ _ _ h => h) (by kernel_rfl) hHeld (fun w' hSw => ?hya4) ?resta4
        case hya4 => (obtain ⟨hSw1, hSw2⟩ := hSw; go_simp; try with_reducible rfl)
        case resta4 =>
        (try simp only [Act.put, List.setIfInBounds_toArray, List.set_cons_zero, List.set_cons_succ])
        refine wpEnds.take 5 14 (v := ?va5) rfl (by kernel_rfl) (by kernel_rfl) (by kernel_rfl) (by kernel_rfl) (by kernel_rfl) (fun _ _ _ h => h) (by kernel_rfl) hHeld (fun w' hSw => ?hya5) ?resta5
        case hya5 => (obtain ⟨hSw1, hSw2⟩ := hSw; go_simp; try with_reducible rfl)
        case resta5 =>
        (try simp only [Act.put, List.setIfInBounds_toArray, List.set_cons_zero, List.set_cons_succ])
        refine wpEnds.take 6 14 (v := st (ktext r.kind)) rfl (by kernel_rfl) (by kernel_rfl) (by kernel_rfl) (by kernel_rfl) (by kernel_rfl) (fun _ _ _ h => h) (by kernel_rfl) hHeld (fun w' hSw => ?hya6) ?resta6
        case hya6 => (obtain ⟨hSw1, hSw2⟩ := hSw; go_simp; try with_reducible rfl)
        case resta6 =>
        (try simp only [Act.put, List.setIfInBounds_toArray, List.set_cons_zero, List.set_cons_succ])
        refine wpEnds.take 7 14 (v := st y4) rfl (by kernel_rfl) (by kernel_rfl) (by kernel_rfl) (by kernel_rfl) (by kernel_rfl) (fun _ _ _ h => h) (by kernel_rfl) hHeld (fun w' hSw => ?hya7) ?resta7
        case hya7 => (obtain ⟨hSw1, hSw2⟩ := hSw; go_simp; try with_reducible rfl)
        case resta7 =>
        (try simp only [Act.put, List.setIfInBounds_toArray, List.set_cons_zero, List.set_cons_succ])
        refine wpEnds.take 8 14 (v := ?va8) rfl (by kernel_rfl) (by kernel_rfl) (by kernel_rfl) (by kernel_rfl) (by kernel_rfl) (fun _ _ _ h => h) (by kernel_rfl) hHeld (fun w' hSw => ?hya8) ?resta8
        case hya8 => (obtain ⟨hSw1, hSw2⟩ := hSw; go_simp; try with_reducible rfl)
        case resta8 =>
        (try simp only [Act.put, List.setIfInBounds_toArray, List.set_cons_zero, List.set_cons_succ])
        refine wpEnds.take 9 14 (v := ?va9) rfl (by kernel_rfl) (by kernel_rfl) (by kernel_rfl) (by kernel_rfl) (by kernel_rfl) (fun _ _ _ h => h) (by kernel_rfl) hHeld (fun w' hSw => ?hya9) ?resta9
        case hya9 => (obtain ⟨hSw1, hSw2⟩ := hSw; go_simp; try with_reducible rfl)
        case resta9 =>
        (try simp only [Act.put, List.setIfInBounds_toArray, List.set_cons_zero, List.set_cons_succ])
        refine wpEnds.take 10 14 (v := st y7) rfl (by kernel_rfl) (by kernel_rfl) (by kernel_rfl) (by kernel_rfl) (by kernel_rfl) (fun _ _ _ h => h) (by kernel_rfl) hHeld (fun w' hSw => ?hya10) ?resta10
        case hya10 => (obtain ⟨hSw1, hSw2⟩ := hSw; go_simp; try with_reducible rfl)
        case resta10 =>
        (try simp only [Act.put, List.setIfInBounds_toArray, List.set_cons_zero, List.set_cons_succ])
        refine wpEnds.take 11 14 (v := st y8) rfl (by kernel_rfl) (by kernel_rfl) (by kernel_rfl) (by kernel_rfl) (by kernel_rfl) (fun _ _ _ h => h) (by kernel_rfl) hHeld (fun w' hSw => ?hya11) ?resta11
        case hya11 => (obtain ⟨hSw1, hSw2⟩ := hSw; go_simp; try with_reducible rfl)
        case resta11 =>
        (try simp only [Act.put, List.setIfInBounds_toArray, List.set_cons_zero, List.set_cons_succ])
        refine wpEnds.take 12 14 (v := st y9) rfl (by kernel_rfl) (by kernel_rfl) (by kernel_rfl) (by kernel_rfl) (by kernel_rfl) (fun _ _ _ h => h) (by kernel_rfl) hHeld (fun w' hSw => ?hya12) ?resta12
        case hya12 => (obtain ⟨hSw1, hSw2⟩ := hSw; go_simp; try with_reducible rfl)
        case resta12 =>
        (try simp only [Act.put, List.setIfInBounds_toArray, List.set_cons_zero, List.set_cons_succ])
        refine wpEnds.last 13 (by kernel_rfl) (by kernel_rfl) rfl (fun K hK => ?_)
        go_simp
        refine hK.out _ _ ?_
        clear hK K
        (try simp only [Act.put, List.setIfInBounds_toArray, List.set_cons_zero, List.set_cons_succ])
        go_wp2_with fail
        go_roundw
        case rel => exact ⟨k + 1, by go_num, HKL.out, HP.out, HBD.out.drew⟩
        case measure => simp [intOf]; omega
      · have hzI : (0 : Int) < (r.cells.len : Int) := by omega
        have hT2 : ptext (gs.take (k + 1)) = S ++ ((ctext r.cells ++ [32]) ++ [40] ++ ktext r.kind ++ r.name ++ [41, 10]) := by rw [HT.out, HS.out, rtext, if_neg hz]; simp
        obtain ⟨y1, hy1⟩ : ∃ y, ctext r.cells ++ [32] = y := ⟨_, rfl⟩
        have hl1 : y1.length ≤ 16000001 := by rw [← hy1]; simp; omega
        have hqc : ¬ 9223372036854775807 < (ctext r.cells).length + 1 := by omega
        go_upto_region 8 with fail
        rw [show (⟨(ctext r.cells).toArray⟩ : ByteArray) ++ ⟨#[32]⟩ = ⟨(ctext r.cells ++ [32]).toArray⟩ from str_app _ [32]]
        rw [hy1] at hT2 ⊢
        clear hy1 hct hcts hqc
        obtain ⟨y2, hy2⟩ : ∃ y, y1 ++ [40] = y := ⟨_, rfl⟩
        obtain ⟨y4, hy4⟩ : ∃ y, y2 ++ ktext r.kind = y := ⟨_, rfl⟩
        obtain ⟨y7, hy7⟩ : ∃ y, y4 ++ r.name = y := ⟨_, rfl⟩
        obtain ⟨y8, hy8⟩ : ∃ y, y7 ++ [41, 10] = y := ⟨_, rfl⟩
        obtain ⟨y9, hy9⟩ : ∃ y, S ++ y8 = y := ⟨_, rfl⟩
        have e2 : (⟨y1.toArray⟩ : ByteArray) ++ ⟨#[40]⟩ = ⟨y2.toArray⟩ := by rw [show (⟨#[40]⟩ : ByteArray) = ⟨([40] : Bs).toArray⟩ from rfl, str_app, hy2]
        have e4 : (⟨y2.toArray⟩ : ByteArray) ++ ⟨(ktext r.kind).toArray⟩ = ⟨y4.toArray⟩ := by rw [str_app, hy4]
        have e7 : (⟨y4.toArray⟩ : ByteArray) ++ ⟨r.name.toArray⟩ = ⟨y7.toArray⟩ := by rw [str_app, hy7]
        have e8 : (⟨y7.toArray⟩ : ByteArray) ++ ⟨#[41, 10]⟩ = ⟨y8.toArray⟩ := by rw [show (⟨#[41, 10]⟩ : ByteArray) = ⟨([41, 10] : Bs).toArray⟩ from rfl, str_app, hy8]
        have e9 : (⟨S.toArray⟩ : ByteArray) ++ ⟨y8.toArray⟩ = ⟨y9.toArray⟩ := by rw [str_app, hy9]
        have hl2 : y2.length ≤ 16000002 := by rw [← hy2]; simp; omega
        have hl4 : y4.length ≤ 16000004 := by rw [← hy4]; simp; omega
        have hl7 : y7.length ≤ 16000016 := by rw [← hy7]; simp; omega
        have hl8 : y8.length ≤ 16000018 := by rw [← hy8]; simp; omega
        have hq2 : ¬ 9223372036854775807 < y1.length + 1 := by omega
        have hq4 : ¬ 9223372036854775807 < y2.length + (ktext r.kind).length := by omega
        have hq7 : ¬ 9223372036854775807 < y4.length + r.name.length := by omega
        have hq8 : ¬ 9223372036854775807 < y7.length + 2 := by omega
        have hq9 : ¬ 9223372036854775807 < S.length + y8.length := by omega
        have hs1 := st_size y1
        have hs2 := st_size y2
        have hs4 := st_size y4
        have hs7 := st_size y7
        have hs8 := st_size y8
        have HP := hid (show st y9 = st (ptext (gs.take (k + 1))) by rw [hT2, hy2, hy4, hy7, hy8, hy9])
        clear hy2 hy4 hy7 hy8 hy9 hT2 hl1 hl2 hl4 hl7 hl8
        refine wpEnds.begin (fun w' => w'.cell? ⟨bx, 1, none⟩ = some (.int .i64 r.kind) ∧ w'.cell? ⟨bx, 2, none⟩ = some (st r.name)) 13 (by kernel_rfl) ⟨d1, d2⟩ (fun hHeld => ?_)
        refine wpEnds.take 0 14 (v := ?vb0) rfl (by kernel_rfl) (by kernel_rfl) (by kernel_rfl) (by kernel_rfl) (by kernel_rfl) (fun _ _ _ h => h) (by kernel_rfl) hHeld (fun w' hSw => ?hyb0) ?restb0
        case hyb0 => (obtain ⟨hSw1, hSw2⟩ := hSw; go_simp; try with_reducible rfl)
        case restb0 =>
        (try simp only [Act.put, List.setIfInBounds_toArray, List.set_cons_zero, List.set_cons_succ])
        refine wpEnds.take 1 14 (v := ?vb1) rfl (by kernel_rfl) (by kernel_rfl) (by kernel_rfl) (by kernel_rfl) (by kernel_rfl) (fun _ _ _ h => h) (by kernel_rfl) hHeld (fun w' hSw => ?hyb1) ?restb1
        case hyb1 => (obtain ⟨hSw1, hSw2⟩ := hSw; go_simp; try with_reducible rfl)
        case restb1 =>
        (try simp only [Act.put, List.setIfInBounds_toArray, List.set_cons_zero, List.set_cons_succ])
        refine wpEnds.take 2 14 (v := st y2) rfl (by kernel_rfl) (by kernel_rfl) (by kernel_rfl) (by kernel_rfl) (by kernel_rfl) (fun _ _ _ h => h) (by kernel_rfl) hHeld (fun w' hSw => ?hyb2) ?restb2
        case hyb2 => (obtain ⟨hSw1, hSw2⟩ := hSw; go_simp; try with_reducible rfl)
        case restb2 =>
        (try simp only [Act.put, List.setIfInBounds_toArray, List.set_cons_zero, List.set_cons_succ])
        refine wpEnds.take 3 14 (v := ?vb3) rfl (by kernel_rfl) (by kernel_rfl) (by kernel_rfl) (by kernel_rfl) (by kernel_rfl) (fun _ _ _ h => h) (by kernel_rfl) hHeld (fun w' hSw => ?hyb3) ?restb3
        case hyb3 => (obtain ⟨hSw1, hSw2⟩ := hSw; go_simp; try with_reducible rfl)
        case restb3 =>
        (try simp only [Act.put, List.setIfInBounds_toArray, List.set_cons_zero, List.set_cons_succ])
        refine wpEnds.take 4 14 (v := ?vb4) rfl (by kernel_rfl) (by kernel_rfl) (by kernel_rfl) (by kernel_rfl) (by kernel_rfl) (fun _ _ _ h => h) (by kernel_rfl) hHeld (fun w' hSw => ?hyb4) ?restb4
        case hyb4 => (obtain ⟨hSw1, hSw2⟩ := hSw; go_simp; try with_reducible rfl)
        case restb4 =>
        (try simp only [Act.put, List.setIfInBounds_toArray, List.set_cons_zero, List.set_cons_succ])
        refine wpEnds.take 5 14 (v := ?vb5) rfl (by kernel_rfl) (by kernel_rfl) (by kernel_rfl) (by kernel_rfl) (by kernel_rfl) (fun _ _ _ h => h) (by kernel_rfl) hHeld (fun w' hSw => ?hyb5) ?restb5
        case hyb5 => (obtain ⟨hSw1, hSw2⟩ := hSw; go_simp; try with_reducible rfl)
        case restb5 =>
        (try simp only [Act.put, List.setIfInBounds_toArray, List.set_cons_zero, List.set_cons_succ])
        refine wpEnds.take 6 14 (v := st (ktext r.kind)) rfl (by kernel_rfl) (by kernel_rfl) (by kernel_rfl) (by kernel_rfl) (by kernel_rfl) (fun _ _ _ h => h) (by kernel_rfl) hHeld (fun w' hSw => ?hyb6) ?restb6
        case hyb6 => (obtain ⟨hSw1, hSw2⟩ := hSw; go_simp; try with_reducible rfl)
        case restb6 =>
        (try simp only [Act.put, List.setIfInBounds_toArray, List.set_cons_zero, List.set_cons_succ])
        refine wpEnds.take 7 14 (v := st y4) rfl (by kernel_rfl) (by kernel_rfl) (by kernel_rfl) (by kernel_rfl) (by kernel_rfl) (fun _ _ _ h => h) (by kernel_rfl) hHeld (fun w' hSw => ?hyb7) ?restb7
        case hyb7 => (obtain ⟨hSw1, hSw2⟩ := hSw; go_simp; try with_reducible rfl)
        case restb7 =>
        (try simp only [Act.put, List.setIfInBounds_toArray, List.set_cons_zero, List.set_cons_succ])
        refine wpEnds.take 8 14 (v := ?vb8) rfl (by kernel_rfl) (by kernel_rfl) (by kernel_rfl) (by kernel_rfl) (by kernel_rfl) (fun _ _ _ h => h) (by kernel_rfl) hHeld (fun w' hSw => ?hyb8) ?restb8
        case hyb8 => (obtain ⟨hSw1, hSw2⟩ := hSw; go_simp; try with_reducible rfl)
        case restb8 =>
        (try simp only [Act.put, List.setIfInBounds_toArray, List.set_cons_zero, List.set_cons_succ])
        refine wpEnds.take 9 14 (v := ?vb9) rfl (by kernel_rfl) (by kernel_rfl) (by kernel_rfl) (by kernel_rfl) (by kernel_rfl) (fun _ _ _ h => h) (by kernel_rfl) hHeld (fun w' hSw => ?hyb9) ?restb9
        case hyb9 => (obtain ⟨hSw1, hSw2⟩ := hSw; go_simp; try with_reducible rfl)
        case restb9 =>
        (try simp only [Act.put, List.setIfInBounds_toArray, List.set_cons_zero, List.set_cons_succ])
        refine wpEnds.take 10 14 (v := st y7) rfl (by kernel_rfl) (by kernel_rfl) (by kernel_rfl) (by kernel_rfl) (by kernel_rfl) (fun _ _ _ h => h) (by kernel_rfl) hHeld (fun w' hSw => ?hyb10) ?restb10
        case hyb10 => (obtain ⟨hSw1, hSw2⟩ := hSw; go_simp; try with_reducible rfl)
        case restb10 =>
        (try simp only [Act.put, List.setIfInBounds_toArray, List.set_cons_zero, List.set_cons_succ])
        refine wpEnds.take 11 14 (v := st y8) rfl (by kernel_rfl) (by kernel_rfl) (by kernel_rfl) (by kernel_rfl) (by kernel_rfl) (fun _ _ _ h => h) (by kernel_rfl) hHeld (fun w' hSw => ?hyb11) ?restb11
        case hyb11 => (obtain ⟨hSw1, hSw2⟩ := hSw; go_simp; try with_reducible rfl)
        case restb11 =>
        (try simp only [Act.put, List.setIfInBounds_toArray, List.set_cons_zero, List.set_cons_succ])
        refine wpEnds.take 12 14 (v := st y9) rfl (by kernel_rfl) (by kernel_rfl) (by kernel_rfl) (by kernel_rfl) (by kernel_rfl) (fun _ _ _ h => h) (by kernel_rfl) hHeld (fun w' hSw => ?hyb12) ?restb12
        case hyb12 => (obtain ⟨hSw1, hSw2⟩ := hSw; go_simp; try with_reducible rfl)
        case restb12 =>
        (try simp only [Act.put, List.setIfInBounds_toArray, List.set_cons_zero, List.set_cons_succ])
        refine wpEnds.last 13 (by kernel_rfl) (by kernel_rfl) rfl (fun K hK => ?_)
        go_simp
        refine hK.out _ _ ?_
        clear hK K
        (try simp only [Act.put, List.setIfInBounds_toArray, List.set_cons_zero, List.set_cons_succ])
        go_wp2_with fail
        go_roundw
        case rel => exact ⟨k + 1, by go_num, HKL.out, HP.out, HBD.out.drew⟩
        case measure => simp [intOf]; omega
    · have hkk : k = gs.length := by omega
      subst hkk
      have hSE : S = ptext gs := by rw [← HS.out, List.take_length]
      subst hSE
      have hkI : ¬ (gs.length : Int) < (gs.length : Int) := by omega
      go_wp2_with fail
      go_ret
      exact ⟨rfl, HB.out⟩
end Go.Proofs.YtlaeflpddehipabGreatDoor
