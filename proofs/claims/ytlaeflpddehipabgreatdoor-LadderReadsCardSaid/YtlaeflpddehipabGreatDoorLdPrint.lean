/- ladder.Print. -/
import Derived.Test.YtlaeflpddehipabGreatDoorRungAt
import Derived.Shelf.Strings.BuilderK
set_option linter.unusedVariables false
set_option linter.unusedSimpArgs false
namespace Go.Proofs.YtlaeflpddehipabGreatDoor
open Go.RowKit
attribute [local go_sem ↓] Go.wp_at_zero Go.wp_at_succ

theorem rowOldF {w w' : World} {base e size n : Nat} {v : Value} {xs : List Value} (h : w.ownsRowF base e size v n xs) (hb : Below w.heap.size w w') : w'.ownsRowF base e size v n xs := by
  obtain ⟨h1, h2⟩ := h
  exact ⟨h1, h2.imp id fun ⟨g, cap, cur, fz, hv, hbg, hg, rest⟩ => ⟨g, cap, cur, fz, hv, hbg, (hb.block g (boxLt hg)).trans hg, rest⟩⟩
/-- A builder of the call's own, that holds l. -/
def Bld (b : Nat) (l : Bs) (w : World) : Prop := Lib.IsBuilderF 84 5 b b (Lib.byteCells l) w
theorem Bld.below {b : Nat} {l : Bs} {w w' : World} (h : Bld b l w) (hb : Below w.heap.size w w') : Bld b l w' :=
  h.imp (fun ⟨hB, v, hk, ho, hn⟩ => ⟨hB, v, (hb.block b (boxLt hk)).trans hk, rowOldF ho hb, hn⟩) (fun ⟨hB, v, hk, ho, hn⟩ => ⟨hB, v, (hb.block b (boxLt hk)).trans hk, rowOldF ho hb, hn⟩)
theorem byteCells_app (a b : Bs) : Lib.byteCells (a ++ b) = Lib.byteCells a ++ Lib.byteCells b := List.map_append
theorem write_any (b : Nat) (l s : Bs) (w : World) (h : Bld b l w) (hlen : l.length + s.length ≤ 100000000000) (hBw : b ≤ w.heap.size) :
    Calls Tryz.prog 27 #[.pointer (some ⟨b, 0, none⟩), st s] w fun e w' => e = .returned (.tuple #[.int .i64 s.length, .nilIface]) ∧ Bld b (l ++ s) w' ∧ Below b w w' ∧ Lib.OthersKept 5 (some b) w w' := by
  refine (Any.Builder_WriteString_k { Tryz.lays156 with } Tryz.Builder_Extra_156 b b (Lib.byteCells l) ⟨s.toArray⟩ w h (by
    rw [Lib.byteCells_length]
    show l.length + s.length ≤ _
    omega) hBw).mono ?_
  rintro e w' ⟨rfl, h1, h2, h3⟩
  exact ⟨rfl, .inr (by rw [byteCells_app]; exact h1), h2, h3⟩
theorem string_any (b : Nat) (l : Bs) (w : World) (h : Bld b l w) (hBw : b ≤ w.heap.size) :
    Calls Tryz.prog 29 #[.pointer (some ⟨b, 0, none⟩)] w fun e w' => e = .returned (st l) ∧ Below b w w' :=
  (Any.Builder_String_any_f Tryz.lays169 Tryz.Builder_Extra_169 b b l w h hBw).mono fun e w' ⟨h1, _, h2⟩ => ⟨h1, h2⟩
theorem idx5 {K : Int} (hK : K = 1 ∨ K = 2 ∨ K = 3 ∨ K = 4) (w : World) : (Instr.index 88 (.agg #[.string ⟨#[]⟩, .string ⟨#[]⟩, .string ⟨#[47]⟩, .string ⟨#[83, 32]⟩, .string ⟨#[82, 32]⟩]) (.int .i64 K)).run Tryz.prog w = .ok (st (ktext K)) w := by
  have h : Tryz.prog.underlying 88 = some (.array 5 9) := by kernel_rfl
  rcases hK with rfl | rfl | rfl | rfl <;> simp [Instr.index, run_underlying h, asIntOf, go_sem, ktext]
theorem heldOf {b : Nat} {w w' : World} {bx : Nat} {cs : Array Value} {T : TypeId} {fr : Nat × Nat} (h : Lib.OthersKept 5 (some b) w w') (hx : w.heap[bx]? = some (.cells cs T fr)) (hT : T ≠ 5) (hb : bx ≠ b) : w'.heap[bx]? = some (.cells cs T fr) :=
  h bx _ hx (fun e => hb (Option.some.inj e)) (fun c fz e => by injection e with _ e; exact hT e)
theorem take_succ {gs : List Rg} {k : Nat} {r : Rg} (h : gs[k]? = some r) : ptext (gs.take (k + 1)) = ptext (gs.take k) ++ rtext r := by
  rw [List.take_add_one, h, ptext_app]
  simp [ptext]
theorem ptext_take_len {gs : List Rg} (h : ∀ g ∈ gs, g.wf 1000000) (hl : gs.length ≤ 30) (k : Nat) : (ptext (gs.take k)).length ≤ 480003000 := by
  have h1 := ptext_len (gs := gs.take k) fun g hg => h g (List.mem_of_mem_take hg)
  have h2 : (gs.take k).length ≤ 30 := Nat.le_trans (by rw [List.length_take]; omega) hl
  omega
set_option maxRecDepth 100000 in
set_option maxHeartbeats 3200000 in
theorem print_any (gs : List Rg) (hwf : ∀ g ∈ gs, g.wf 1000000) (hlen : gs.length ≤ 30) (v : Value) (w : World) (hv : GSAt w gs v) : Calls Tryz.prog 9 #[v] w fun e w' => e = .returned (st (ptext gs)) ∧ Below w.heap.size w w' := by
  obtain ⟨a, c, rfl, hc, h1⟩ := hv
  have HWF := hid hwf
  have HPL := hid (ptext_take_len hwf hlen)
  clear hwf
  have hlenI : (gs.length : Int) ≤ 30 := by omega
  go_enter Tryz.func9, Tryz.ntmps9
  go_upto_region 3 with fail
  have h0b : Below w.heap.size w (w.alloc (.cells #[.pointer none, .slice none 0 0] 84)) := (Below.refl _ _).alloc (Nat.le_refl _) _
  have h0d : Bld w.heap.size [] (w.alloc (.cells #[.pointer none, .slice none 0 0] 84)) := Lib.IsBuilderF.of (Lib.fresh_isBuilder 84 5 w)
  generalize w.alloc _ = w0 at h0b h0d ⊢
  have HB0 := hid h0b
  have HD0 := hid h0d
  clear h0b h0d
  go_loopw [8] (fun u wr => ∃ k : Nat, u = .int .i64 k ∧ k ≤ gs.length ∧ Below w.heap.size w wr ∧ Bld w.heap.size (ptext (gs.take k)) wr) (fun u _ => gs.length - (intOf u).toNat)
  case atStart => exact ⟨0, rfl, Nat.zero_le _, HB0.out, HD0.out⟩
  case round =>
    obtain ⟨k, rfl, hk, hb, hd⟩ := hrel
    have HB := hid hb
    have HD := hid hd
    clear hd
    by_cases hkl : k < gs.length
    · obtain ⟨g, rfl, hg⟩ := h1.resolve_left (by omega)
      have HKL := hid (show k + 1 ≤ gs.length from hkl)
      have hkI : (k : Int) < (gs.length : Int) := by omega
      have hk0 : (0 : Int) ≤ (k : Int) := by omega
      obtain ⟨r, hr⟩ : ∃ r, gs[k]? = some r := ⟨_, List.getElem?_eq_getElem hkl⟩
      have hwfr := HWF.out r (List.mem_of_getElem? hr)
      have HT := hid (take_succ hr)
      have hidx := idx5 hwfr.kind
      have HRW := hid hwfr
      obtain ⟨⟨vc, p0, ps⟩, p1, p2⟩ := hg.parts hr
      rw [Nat.zero_add] at p0 p1 p2
      have HPS := hid (ps.keep (w' := wr) fun a v h => (hb.cell (boxLt4 h)).trans h)
      replace p0 := (hb.cell (p := ⟨g, k * 3, none⟩) (boxLt4 p0)).trans p0
      replace p1 := (hb.cell (p := ⟨g, k * 3 + 1, none⟩) (boxLt4 p1)).trans p1
      replace p2 := (hb.cell (p := ⟨g, k * 3 + 2, none⟩) (boxLt4 p2)).trans p2
      obtain ⟨ac, cc, rfl, hcc, _⟩ := HPS.out
      have hrt : r.cells.len ≤ 1000000 := Nat.le_trans r.cells.len_tot hwfr.tot
      have HCT := hid (ctext_len hwfr.cells hwfr.tot)
      have hkt := ktext_len r.kind
      have hkts := st_size (ktext r.kind)
      have hnm := hwfr.name
      have hnms := st_size r.name
      have hptl := HPL.out k
      have hq4 : ¬ 9223372036854775807 < 1 + (ktext r.kind).length := by omega
      obtain ⟨y4, hy4⟩ : ∃ y, 40 :: ktext r.kind = y := ⟨_, rfl⟩
      obtain ⟨y7, hy7⟩ : ∃ y, y4 ++ r.name = y := ⟨_, rfl⟩
      obtain ⟨y8, hy8⟩ : ∃ y, y7 ++ [41, 10] = y := ⟨_, rfl⟩
      have e4 : (⟨#[40]⟩ : ByteArray) ++ ⟨(ktext r.kind).toArray⟩ = ⟨y4.toArray⟩ := by rw [str_cons, hy4]
      have e7 : (⟨y4.toArray⟩ : ByteArray) ++ ⟨r.name.toArray⟩ = ⟨y7.toArray⟩ := by rw [str_app, hy7]
      have e8 : (⟨y7.toArray⟩ : ByteArray) ++ ⟨#[41, 10]⟩ = ⟨y8.toArray⟩ := by rw [show (⟨#[41, 10]⟩ : ByteArray) = ⟨([41, 10] : Bs).toArray⟩ from rfl, str_app, hy8]
      have hl4 : y4.length ≤ 3 := by rw [← hy4]; simp; omega
      have hl7 : y7.length ≤ 15 := by rw [← hy7]; simp; omega
      have hl8 : y8.length ≤ 17 := by rw [← hy8]; simp; omega
      have hq7 : ¬ 9223372036854775807 < y4.length + r.name.length := by omega
      have hq8 : ¬ 9223372036854775807 < y7.length + 2 := by omega
      have hq7s := st_size y4
      have hq8s := st_size y7
      have HY := hid (show (40 :: ktext r.kind) ++ r.name ++ [41, 10] = y8 by rw [hy4, hy7, hy8])
      clear hy4 hy7 hy8
      have hbs := hb.size
      clear hb hg hwfr ps hr
      go_upto_region 5 with fail
      have h2 : Below wr.heap.size wr (wr.alloc (.cells #[.slice ac r.cells.len cc, .int .i64 r.kind, st r.name] 39)) := (Below.refl _ _).alloc (Nat.le_refl _) _
      have hbx : (wr.alloc (.cells #[.slice ac r.cells.len cc, .int .i64 r.kind, st r.name] 39)).heap[wr.heap.size]? = some (.cells #[.slice ac r.cells.len cc, .int .i64 r.kind, st r.name] 39 (0, 0)) := heap_alloc_new wr _
      obtain ⟨bx, hbxe⟩ : ∃ bx, wr.heap.size = bx := ⟨_, rfl⟩
      have HB2 := hid (HB.out.trans (h2.mono HB.out.size))
      have HD2 := hid (HD.out.below h2)
      have HPS2 := hid (HPS.out.below h2)
      have hxb : bx ≠ w.heap.size := by
        have := HD.out
        rcases this with ⟨_, _, hk, _⟩ | ⟨_, _, hk, _⟩ <;> have := boxLt hk <;> omega
      rw [hbxe] at hbx
      rw [hbxe]
      generalize wr.alloc _ = w2 at hbx HB2 HD2 HPS2 ⊢
      have z0 : w2.cell? ⟨bx, 0, none⟩ = some (.slice ac r.cells.len cc) := (cell_block hbx 0).trans rfl
      have d1 : w2.cell? ⟨bx, 1, none⟩ = some (.int .i64 r.kind) := (cell_block hbx 1).trans rfl
      have d2 : w2.cell? ⟨bx, 2, none⟩ = some (st r.name) := (cell_block hbx 2).trans rfl
      have hlx := boxLt hbx
      have HBX := hid hbx
      clear h2 hbx hbxe p0 p1 p2
      by_cases hz : r.cells.len = 0
      · have hzI : ¬ (0 : Int) < (r.cells.len : Int) := by omega
        have HP := hid (show ptext (gs.take (k + 1)) = ptext (gs.take k) ++ y8 by rw [HT.out, rtext, if_pos hz, ← HY.out]; simp)
        go_upto_region 7 with fail
        have HDB := hid HD2.out
        have HBD := hid HB2.out
        have HLEN := hid (show (ptext (gs.take k)).length + y8.length ≤ 100000000000 by omega)
        have HSZ := hid (show w.heap.size ≤ w2.drew.heap.size from HB2.out.size)
        refine wpEnds.begin (fun w' => w'.cell? ⟨bx, 1, none⟩ = some (.int .i64 r.kind) ∧ w'.cell? ⟨bx, 2, none⟩ = some (st r.name)) 9 (by kernel_rfl) ⟨d1, d2⟩ (fun hHeld => ?_)
        refine wpEnds.take 0 10 (v := ?va0) rfl (by kernel_rfl) (by kernel_rfl) (by kernel_rfl) (by kernel_rfl) (by kernel_rfl) (fun _ _ _ h => h) (by kernel_rfl) hHeld (fun w' hSw => ?hya0) ?resta0
        case hya0 => (obtain ⟨hSw1, hSw2⟩ := hSw; go_simp; try with_reducible rfl)
        case resta0 =>
        (try simp only [Act.put, List.setIfInBounds_toArray, List.set_cons_zero, List.set_cons_succ])
        refine wpEnds.take 1 10 (v := ?va1) rfl (by kernel_rfl) (by kernel_rfl) (by kernel_rfl) (by kernel_rfl) (by kernel_rfl) (fun _ _ _ h => h) (by kernel_rfl) hHeld (fun w' hSw => ?hya1) ?resta1
        case hya1 => (obtain ⟨hSw1, hSw2⟩ := hSw; go_simp; try with_reducible rfl)
        case resta1 =>
        (try simp only [Act.put, List.setIfInBounds_toArray, List.set_cons_zero, List.set_cons_succ])
        refine wpEnds.take 2 10 (v := ?va2) rfl (by kernel_rfl) (by kernel_rfl) (by kernel_rfl) (by kernel_rfl) (by kernel_rfl) (fun _ _ _ h => h) (by kernel_rfl) hHeld (fun w' hSw => ?hya2) ?resta2
        case hya2 => (obtain ⟨hSw1, hSw2⟩ := hSw; go_simp; try with_reducible rfl)
        case resta2 =>
        (try simp only [Act.put, List.setIfInBounds_toArray, List.set_cons_zero, List.set_cons_succ])
        refine wpEnds.take 3 10 (v := st (ktext r.kind)) rfl (by kernel_rfl) (by kernel_rfl) (by kernel_rfl) (by kernel_rfl) (by kernel_rfl) (fun _ _ _ h => h) (by kernel_rfl) hHeld (fun w' hSw => ?hya3) ?resta3
        case hya3 => (obtain ⟨hSw1, hSw2⟩ := hSw; go_simp; try with_reducible rfl)
        case resta3 =>
        (try simp only [Act.put, List.setIfInBounds_toArray, List.set_cons_zero, List.set_cons_succ])
        refine wpEnds.take 4 10 (v := st y4) rfl (by kernel_rfl) (by kernel_rfl) (by kernel_rfl) (by kernel_rfl) (by kernel_rfl) (fun _ _ _ h => h) (by kernel_rfl) hHeld (fun w' hSw => ?hya4) ?resta4
        case hya4 => (obtain ⟨hSw1, hSw2⟩ := hSw; go_simp; try with_reducible rfl)
        case resta4 =>
        (try simp only [Act.put, List.setIfInBounds_toArray, List.set_cons_zero, List.set_cons_succ])
        refine wpEnds.take 5 10 (v := ?va5) rfl (by kernel_rfl) (by kernel_rfl) (by kernel_rfl) (by kernel_rfl) (by kernel_rfl) (fun _ _ _ h => h) (by kernel_rfl) hHeld (fun w' hSw => ?hya5) ?resta5
        case hya5 => (obtain ⟨hSw1, hSw2⟩ := hSw; go_simp; try with_reducible rfl)
        case resta5 =>
        (try simp only [Act.put, List.setIfInBounds_toArray, List.set_cons_zero, List.set_cons_succ])
        refine wpEnds.take 6 10 (v := ?va6) rfl (by kernel_rfl) (by kernel_rfl) (by kernel_rfl) (by kernel_rfl) (by kernel_rfl) (fun _ _ _ h => h) (by kernel_rfl) hHeld (fun w' hSw => ?hya6) ?resta6
        case hya6 => (obtain ⟨hSw1, hSw2⟩ := hSw; go_simp; try with_reducible rfl)
        case resta6 =>
        (try simp only [Act.put, List.setIfInBounds_toArray, List.set_cons_zero, List.set_cons_succ])
        refine wpEnds.take 7 10 (v := st y7) rfl (by kernel_rfl) (by kernel_rfl) (by kernel_rfl) (by kernel_rfl) (by kernel_rfl) (fun _ _ _ h => h) (by kernel_rfl) hHeld (fun w' hSw => ?hya7) ?resta7
        case hya7 => (obtain ⟨hSw1, hSw2⟩ := hSw; go_simp; try with_reducible rfl)
        case resta7 =>
        (try simp only [Act.put, List.setIfInBounds_toArray, List.set_cons_zero, List.set_cons_succ])
        refine wpEnds.take 8 10 (v := st y8) rfl (by kernel_rfl) (by kernel_rfl) (by kernel_rfl) (by kernel_rfl) (by kernel_rfl) (fun _ _ _ h => h) (by kernel_rfl) hHeld (fun w' hSw => ?hya8) ?resta8
        case hya8 => (obtain ⟨hSw1, hSw2⟩ := hSw; go_simp; try with_reducible rfl)
        case resta8 =>
        (try simp only [Act.put, List.setIfInBounds_toArray, List.set_cons_zero, List.set_cons_succ])
        refine wpEnds.last 9 (by kernel_rfl) (by kernel_rfl) rfl (fun K hK => ?_)
        go_simp
        (with_reducible refine (write_any w.heap.size (ptext (gs.take k)) y8 w2.drew (HDB.out.below (Below.refl _ _).drew) HLEN.out HSZ.out).mono ?_)
        rintro e w7 ⟨rfl, h7, hb7, _⟩
        have HB7 := hid (HBD.out.trans ((Below.refl _ _).drew.trans hb7))
        have H7 := hid h7
        clear h7 hb7
        refine hK.out _ _ ?_
        clear hK K
        (try simp only [Act.put, List.setIfInBounds_toArray, List.set_cons_zero, List.set_cons_succ])
        go_wp2_with fail
        go_roundw
        case rel => exact ⟨k + 1, by go_num, HKL.out, HB7.out, by rw [HP.out]; exact H7.out⟩
        case measure => simp [intOf]; omega
      · have hzI : (0 : Int) < (r.cells.len : Int) := by omega
        have HP := hid (show ptext (gs.take (k + 1)) = (ptext (gs.take k) ++ (ctext r.cells ++ [32])) ++ y8 by rw [HT.out, rtext, if_neg hz, ← HY.out]; simp [List.append_assoc])
        have hct := HCT.out
        have hcts := st_size (ctext r.cells)
        have hqc : ¬ 9223372036854775807 < (ctext r.cells).length + 1 := by omega
        go_upto_region 7 with (first
          | (go_at_call 28; (with_reducible refine (text_any _ r.cells (Nat.lt_succ_self _) HRW.out.tot HRW.out.cells _ w2 HPS2.out).mono ?_); rintro e w3 ⟨rfl, hb3⟩; have HB3 := hid (HB2.out.trans (hb3.mono HB2.out.size)); have HD3 := hid (HD2.out.below hb3); have HBX3 := hid ((hb3.block bx hlx).trans HBX.out); clear hb3)
          | (go_at_call 27; rw [show (⟨(ctext r.cells).toArray⟩ : ByteArray) ++ ⟨#[32]⟩ = ⟨(ctext r.cells ++ [32]).toArray⟩ from str_app _ [32]]; (with_reducible refine (write_any w.heap.size (ptext (gs.take k)) (ctext r.cells ++ [32]) w3 HD3.out (by simp; omega) HB3.out.size).mono ?_); rintro e w4 ⟨rfl, h4, hb4, hk4⟩; have HB4 := hid (HB3.out.trans hb4); have HD4 := hid h4; have HBX4 := hid (heldOf hk4 HBX3.out (by decide) hxb); clear h4 hb4 hk4))
        clear d1 d2 z0
        have d1 : w4.cell? ⟨bx, 1, none⟩ = some (.int .i64 r.kind) := (cell_block HBX4.out 1).trans rfl
        have d2 : w4.cell? ⟨bx, 2, none⟩ = some (st r.name) := (cell_block HBX4.out 2).trans rfl
        have HDB := hid HD4.out
        have HBD := hid HB4.out
        have HLEN := hid (show (ptext (gs.take k) ++ (ctext r.cells ++ [32])).length + y8.length ≤ 100000000000 by simp; omega)
        have HSZ := hid (show w.heap.size ≤ w4.drew.heap.size from HB4.out.size)
        refine wpEnds.begin (fun w' => w'.cell? ⟨bx, 1, none⟩ = some (.int .i64 r.kind) ∧ w'.cell? ⟨bx, 2, none⟩ = some (st r.name)) 9 (by kernel_rfl) ⟨d1, d2⟩ (fun hHeld => ?_)
        refine wpEnds.take 0 10 (v := ?vb0) rfl (by kernel_rfl) (by kernel_rfl) (by kernel_rfl) (by kernel_rfl) (by kernel_rfl) (fun _ _ _ h => h) (by kernel_rfl) hHeld (fun w' hSw => ?hyb0) ?restb0
        case hyb0 => (obtain ⟨hSw1, hSw2⟩ := hSw; go_simp; try with_reducible rfl)
        case restb0 =>
        (try simp only [Act.put, List.setIfInBounds_toArray, List.set_cons_zero, List.set_cons_succ])
        refine wpEnds.take 1 10 (v := ?vb1) rfl (by kernel_rfl) (by kernel_rfl) (by kernel_rfl) (by kernel_rfl) (by kernel_rfl) (fun _ _ _ h => h) (by kernel_rfl) hHeld (fun w' hSw => ?hyb1) ?restb1
        case hyb1 => (obtain ⟨hSw1, hSw2⟩ := hSw; go_simp; try with_reducible rfl)
        case restb1 =>
        (try simp only [Act.put, List.setIfInBounds_toArray, List.set_cons_zero, List.set_cons_succ])
        refine wpEnds.take 2 10 (v := ?vb2) rfl (by kernel_rfl) (by kernel_rfl) (by kernel_rfl) (by kernel_rfl) (by kernel_rfl) (fun _ _ _ h => h) (by kernel_rfl) hHeld (fun w' hSw => ?hyb2) ?restb2
        case hyb2 => (obtain ⟨hSw1, hSw2⟩ := hSw; go_simp; try with_reducible rfl)
        case restb2 =>
        (try simp only [Act.put, List.setIfInBounds_toArray, List.set_cons_zero, List.set_cons_succ])
        refine wpEnds.take 3 10 (v := st (ktext r.kind)) rfl (by kernel_rfl) (by kernel_rfl) (by kernel_rfl) (by kernel_rfl) (by kernel_rfl) (fun _ _ _ h => h) (by kernel_rfl) hHeld (fun w' hSw => ?hyb3) ?restb3
        case hyb3 => (obtain ⟨hSw1, hSw2⟩ := hSw; go_simp; try with_reducible rfl)
        case restb3 =>
        (try simp only [Act.put, List.setIfInBounds_toArray, List.set_cons_zero, List.set_cons_succ])
        refine wpEnds.take 4 10 (v := st y4) rfl (by kernel_rfl) (by kernel_rfl) (by kernel_rfl) (by kernel_rfl) (by kernel_rfl) (fun _ _ _ h => h) (by kernel_rfl) hHeld (fun w' hSw => ?hyb4) ?restb4
        case hyb4 => (obtain ⟨hSw1, hSw2⟩ := hSw; go_simp; try with_reducible rfl)
        case restb4 =>
        (try simp only [Act.put, List.setIfInBounds_toArray, List.set_cons_zero, List.set_cons_succ])
        refine wpEnds.take 5 10 (v := ?vb5) rfl (by kernel_rfl) (by kernel_rfl) (by kernel_rfl) (by kernel_rfl) (by kernel_rfl) (fun _ _ _ h => h) (by kernel_rfl) hHeld (fun w' hSw => ?hyb5) ?restb5
        case hyb5 => (obtain ⟨hSw1, hSw2⟩ := hSw; go_simp; try with_reducible rfl)
        case restb5 =>
        (try simp only [Act.put, List.setIfInBounds_toArray, List.set_cons_zero, List.set_cons_succ])
        refine wpEnds.take 6 10 (v := ?vb6) rfl (by kernel_rfl) (by kernel_rfl) (by kernel_rfl) (by kernel_rfl) (by kernel_rfl) (fun _ _ _ h => h) (by kernel_rfl) hHeld (fun w' hSw => ?hyb6) ?restb6
        case hyb6 => (obtain ⟨hSw1, hSw2⟩ := hSw; go_simp; try with_reducible rfl)
        case restb6 =>
        (try simp only [Act.put, List.setIfInBounds_toArray, List.set_cons_zero, List.set_cons_succ])
        refine wpEnds.take 7 10 (v := st y7) rfl (by kernel_rfl) (by kernel_rfl) (by kernel_rfl) (by kernel_rfl) (by kernel_rfl) (fun _ _ _ h => h) (by kernel_rfl) hHeld (fun w' hSw => ?hyb7) ?restb7
        case hyb7 => (obtain ⟨hSw1, hSw2⟩ := hSw; go_simp; try with_reducible rfl)
        case restb7 =>
        (try simp only [Act.put, List.setIfInBounds_toArray, List.set_cons_zero, List.set_cons_succ])
        refine wpEnds.take 8 10 (v := st y8) rfl (by kernel_rfl) (by kernel_rfl) (by kernel_rfl) (by kernel_rfl) (by kernel_rfl) (fun _ _ _ h => h) (by kernel_rfl) hHeld (fun w' hSw => ?hyb8) ?restb8
        case hyb8 => (obtain ⟨hSw1, hSw2⟩ := hSw; go_simp; try with_reducible rfl)
        case restb8 =>
        (try simp only [Act.put, List.setIfInBounds_toArray, List.set_cons_zero, List.set_cons_succ])
        refine wpEnds.last 9 (by kernel_rfl) (by kernel_rfl) rfl (fun K hK => ?_)
        go_simp
        (with_reducible refine (write_any w.heap.size (ptext (gs.take k) ++ (ctext r.cells ++ [32])) y8 w4.drew (HDB.out.below (Below.refl _ _).drew) HLEN.out HSZ.out).mono ?_)
        rintro e w7 ⟨rfl, h7, hb7, _⟩
        have HB7 := hid (HBD.out.trans ((Below.refl _ _).drew.trans hb7))
        have H7 := hid h7
        clear h7 hb7
        refine hK.out _ _ ?_
        clear hK K
        (try simp only [Act.put, List.setIfInBounds_toArray, List.set_cons_zero, List.set_cons_succ])
        go_wp2_with fail
        go_roundw
        case rel => exact ⟨k + 1, by go_num, HKL.out, HB7.out, by rw [HP.out]; exact H7.out⟩
        case measure => simp [intOf]; omega
    · have hkk : k = gs.length := by omega
      subst hkk
      have hE := HD.out
      rw [List.take_length] at hE
      have HE := hid hE
      clear hE
      have hkI : ¬ (gs.length : Int) < (gs.length : Int) := by omega
      go_wp2_with (go_at_call 29; (with_reducible refine (string_any w.heap.size (ptext gs) wr HE.out HB.out.size).mono ?_); rintro e w5 ⟨rfl, hb5⟩)
      go_ret
      exact ⟨rfl, HB.out.trans hb5⟩
end Go.Proofs.YtlaeflpddehipabGreatDoor
