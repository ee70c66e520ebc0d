/- lut.packer.add: a cut more (written by gen_pkadd.py). -/
import Derived.Test.YtlaeflpddehipabPkAdd
set_option linter.unusedVariables false
set_option linter.unusedSimpArgs false
set_option linter.unusedSectionVars false
namespace Go.Proofs.Ytlaeflpddehipab
open Go.RowKit
attribute [local go_sem ↓] Go.wp_at_zero Go.wp_at_succ

theorem Try.pkCut : (Try.prog.info? 83).map (fun i => (i.zero, i.size, i.bytes)) = some (some (.agg #[.slice none 0 0, .int .i64 0]), 2, 32) := by kernel_rfl
theorem pk_max2 {P : Program} {w : World} (ts : Array TypeId) (t : TypeId) (x y : Int) : (Builtin.max_ ts t #[.int .i64 x, .int .i64 y]).run P w = .ok (.int .i64 (max x y)) w := by
  have h1 : (if y > x then y else x) = max x y := by omega
  simp [Builtin.max_, Builtin.max2]
  omega
attribute [local go_sem] pk_max2
/-- The deepest of the first o. -/
def pkMx (dl : List Nat) : Nat → Nat
  | 0 => 0
  | o + 1 => max (pkMx dl o) (dl.getD o 0)
theorem pkMx_le (dl : List Nat) (b : Nat) (h : ∀ o, dl.getD o 0 ≤ b) : ∀ o, pkMx dl o ≤ b
  | 0 => Nat.zero_le _
  | o + 1 => by
    have := pkMx_le dl b h o
    have := h o
    show max _ _ ≤ _
    omega
/-- A cut's cells. -/
def cutCells (g n c : Nat) (d : Int) : List Value := [.slice (some ⟨g, 0, none⟩) n c, .int .i64 d]
section
variable (bp bc n ccap : Nat)
set_option maxRecDepth 100000 in
set_option maxHeartbeats 12800000 in
theorem PkAddTo (B : Nat) (W : World) (k gl nl cl m c : Nat) (a : Option Addr) (l dl : List Nat) (xs : List Value) (cur : Array Value) (hk : k < n) (hbpB : bp < B) (hB : B ≤ W.heap.size)
    (x1 : W.cell? ⟨bp, 1, none⟩ = some (.slice (some ⟨bc, 0, none⟩) n ccap)) (hbc : W.heap[bc]? = some (.cells cur 81 (0, 0))) (hcur : cur[k]? = some (.slice a m c)) (hown : W.ownsRow B 83 2 (.slice a m c) m xs) (hm : m ≤ 1000)
    (hL : Leaves W gl (l.map Int.ofNat)) (hl : l.length = nl) (hgl : gl < W.heap.size) (hdl : ∀ o, dl.getD o 0 ≤ 1000) (hnl : nl ≤ 1000)
    (hbest : ∀ (W' : World) (o : Nat), Below W.heap.size W W' → o < nl → Calls Try.prog 42 #[.pointer (some ⟨bp, 0, none⟩), .int .i64 ((l.getD o 0 : Nat) : Int)] W' fun e w' => e = .returned (.int .i64 ((dl.getD o 0 : Nat) : Int)) ∧ w' = W')
    (hhas : ∀ (W' : World) (bx : Nat), Below W.heap.size W W' → W'.cell? ⟨bx, 0, none⟩ = some (.slice (some ⟨gl, 0, none⟩) nl cl) → bx < W'.heap.size → Calls Try.prog 39 #[.slice a m c, .func (.func 40) #[] #[.pointer (some ⟨bx, 0, none⟩)]] W' fun e w' => e = .returned (.bool false) ∧ Below W'.heap.size W' w') :
    Calls Try.prog 31 #[.pointer (some ⟨bp, 0, none⟩), .int .i64 (k : Int), .slice (some ⟨gl, 0, none⟩) nl cl] W fun e w' =>
      ∃ av cv, e = .returned (.tuple #[]) ∧ w'.heap[bc]? = some (.cells (cur.setIfInBounds k (.slice av (m + 1) cv)) 81 (0, 0)) ∧ w'.ownsRow B 83 2 (.slice av (m + 1) cv) (m + 1) (xs ++ cutCells gl nl cl (pkMx dl nl + 1 : Nat)) ∧
        w'.os = W.os ∧ w'.tape = W.tape ∧ w'.output = W.output ∧ W.heap.size ≤ w'.heap.size ∧ ∀ z, z < W.heap.size → z ≠ bc → some z ≠ (Value.slice a m c).ownBlock → w'.heap[z]? = W.heap[z]? := by
  obtain ⟨i2, hi2, hx0, hx1, hx2⟩ := info_parts Try.pkCut
  have HBA := hid (show Below W.heap.size W (W.alloc (.cells #[.slice (some ⟨gl, 0, none⟩) nl cl] 24)) from (Below.refl _ _).alloc (Nat.le_refl _) _)
  have HBX := hid (show (W.alloc (.cells #[.slice (some ⟨gl, 0, none⟩) nl cl] 24)).cell? ⟨W.heap.size, 0, none⟩ = some (.slice (some ⟨gl, 0, none⟩) nl cl) from (cell_new _ _ _ _).trans rfl)
  have HSZ := hid (show (W.alloc (.cells #[.slice (some ⟨gl, 0, none⟩) nl cl] 24)).heap.size = W.heap.size + 1 by simp)
  have hbcl := boxLt hbc
  have hbpl : bp < W.heap.size := by omega
  have y0 : W.cell? ⟨bc, k, none⟩ = some (.slice a m c) := (cell_block hbc k).trans hcur
  have X1 := hid x1
  have Y0 := hid y0
  have HBC := hid hbc
  have HOWN := hid hown
  have HL := hid hL
  have HLL := hid hl
  have HBEST := hid hbest
  have HHAS := hid hhas
  have hkI : (k : Int) < (n : Int) := by omega
  have hk0 : (0 : Int) ≤ (k : Int) := by omega
  have hx1a := (HBA.out.cell (p := ⟨bp, 1, none⟩) hbpl).trans x1
  have hy0a := (HBA.out.cell (p := ⟨bc, k, none⟩) hbcl).trans y0
  clear hbc hown hL hl hbest hhas hcur y0
  go_enter Try.func31, Try.ntmps31
  go_upto_region 1 with fail
  obtain ⟨W1, hW1⟩ : ∃ W1, W.alloc (.cells #[.slice (some ⟨gl, 0, none⟩) nl cl] 24) = W1 := ⟨_, rfl⟩
  rw [hW1] at HBA HBX HSZ hx1a hy0a ⊢
  have hlt1 : W.heap.size < W1.heap.size := by have := HSZ.out; omega
  clear hW1 x1
  go_upto_region 3 with (go_at_call 39; (with_reducible refine (HHAS.out W1 W.heap.size HBA.out HBX.out hlt1).mono ?_); rintro e w2 ⟨rfl, hb2⟩; have HB2 := hid (HBA.out.trans (hb2.mono HBA.out.size)); have HBX2 := hid ((hb2.cell (p := ⟨W.heap.size, 0, none⟩) hlt1).trans HBX.out); have hsz2 := hb2.size; clear hb2)
  have bx2 := HBX2.out
  have hszW : W.heap.size < w2.heap.size := by have := HSZ.out; omega
  clear hx1a hy0a hsz2
  go_wp2_with fail
  clear bx2
  go_loopw [6, 20] (fun v6 v wr => wr = w2 ∧ ∃ o : Nat, o ≤ nl ∧ v = .int .i64 o ∧ v6 = .int .i64 (pkMx dl o : Nat)) (fun _ v _ => nl - (intOf v).toNat)
  case atStart => exact ⟨rfl, 0, Nat.zero_le _, rfl, rfl⟩
  case round =>
    obtain ⟨hwr, o, ho, rfl, rfl⟩ := hrel
    subst wr
    by_cases hlt : o < nl
    · have hoI : (o : Int) < (nl : Int) := by omega
      have ho0 : (0 : Int) ≤ (o : Int) := by omega
      have hleaf := HL.out o (by rw [List.length_map, HLL.out]; exact hlt)
      have hlv : (l.map Int.ofNat).getD o 0 = ((l.getD o 0 : Nat) : Int) := by
        have : o < l.length := by rw [HLL.out]; exact hlt
        simp [List.getD_eq_getElem?_getD, this]
      rw [hlv, Nat.zero_add] at hleaf
      have hlw := (HB2.out.cell (p := ⟨gl, o, none⟩) hgl).trans hleaf
      have HBS := hid (HBEST.out w2 o HB2.out hlt)
      have HMX : Hid (pkMx dl (o + 1) = max (pkMx dl o) (dl.getD o 0)) := rfl
      have hd1 := hdl o
      generalize l.getD o 0 = lv at hlw HBS
      generalize dl.getD o 0 = dv at HBS HMX hd1
      obtain ⟨M, hM⟩ : ∃ M, pkMx dl o = M := ⟨_, rfl⟩
      unfold Hid at HMX
      rw [hM] at HMX ⊢
      have HMX' := hid HMX
      clear hleaf hlv hM HMX
      go_wp2_with (go_at_call 42; (with_reducible refine HBS.out.mono ?_); rintro e w3 ⟨rfl, hw3⟩; subst w3)
      go_roundw
      case rel => exact ⟨by first | rfl | trivial, o + 1, hlt, by go_num, val_int (by rw [HMX'.out]; omega)⟩
      case measure => simp [intOf]; omega
    · obtain rfl : o = nl := by omega
      have hMle := pkMx_le dl 1000 hdl o
      obtain ⟨M, hM⟩ : ∃ M, pkMx dl o = M := ⟨_, rfl⟩
      rw [hM] at hMle
      have HM := hid hM
      rw [hM]
      clear hM hlt
      have q1 : IntKind.i64.wrap ((M : Int) + 1) = M + 1 := wrap_fit _ (by omega) (by omega)
      have c1 := (HB2.out.cell (p := ⟨bp, 1, none⟩) hbpl).trans X1.out
      have c2 := (HB2.out.cell (p := ⟨bc, k, none⟩) hbcl).trans Y0.out
      have c3 := HBX2.out
      have hbp2 : bp < w2.heap.size := by omega
      have hbc2 : bc < w2.heap.size := by omega
      go_upto_region 8 with fail
      refine wpEnds.begin (fun w' => w'.cell? ⟨bp, 1, none⟩ = some (.slice (some ⟨bc, 0, none⟩) n ccap) ∧ w'.cell? ⟨bc, k, none⟩ = some (.slice a m c) ∧ w'.cell? ⟨W.heap.size, 0, none⟩ = some (.slice (some ⟨gl, 0, none⟩) o cl)) 19 (by kernel_rfl) ⟨c1, c2, c3⟩ (fun hHeld => ?_)
      refine wpEnds.take 0 20 (v := ?vaa0) rfl (by kernel_rfl) (by kernel_rfl) (by kernel_rfl) (by kernel_rfl) (by kernel_rfl) (fun _ _ _ h => h) (by rfl) hHeld (fun w' hSw => ?hyaa0) ?restaa0
      case hyaa0 => ((try dsimp only at hSw); go_simp; try with_reducible rfl)
      case restaa0 =>
      (try simp only [Act.put, List.setIfInBounds_toArray, List.set_cons_zero, List.set_cons_succ])
      refine wpEnds.take 1 20 (v := ?vaa1) rfl (by kernel_rfl) (by kernel_rfl) (by kernel_rfl) (by kernel_rfl) (by kernel_rfl) (fun _ _ _ h => h) (by rfl) hHeld (fun w' hSw => ?hyaa1) ?restaa1
      case hyaa1 => ((try dsimp only at hSw); go_simp; try with_reducible rfl)
      case restaa1 =>
      (try simp only [Act.put, List.setIfInBounds_toArray, List.set_cons_zero, List.set_cons_succ])
      refine wpEnds.take 2 20 (v := ?vaa2) rfl (by kernel_rfl) (by kernel_rfl) (by kernel_rfl) (by kernel_rfl) (by kernel_rfl) (fun _ _ _ h => h) (by rfl) hHeld (fun w' hSw => ?hyaa2) ?restaa2
      case hyaa2 => ((try dsimp only at hSw); go_simp; try with_reducible rfl)
      case restaa2 =>
      (try simp only [Act.put, List.setIfInBounds_toArray, List.set_cons_zero, List.set_cons_succ])
      refine wpEnds.take 3 20 (v := ?vaa3) rfl (by kernel_rfl) (by kernel_rfl) (by kernel_rfl) (by kernel_rfl) (by kernel_rfl) (fun _ _ _ h => h) (by rfl) hHeld (fun w' hSw => ?hyaa3) ?restaa3
      case hyaa3 => ((try dsimp only at hSw); go_simp; try with_reducible rfl)
      case restaa3 =>
      (try simp only [Act.put, List.setIfInBounds_toArray, List.set_cons_zero, List.set_cons_succ])
      refine wpEnds.take 4 20 (v := ?vaa4) rfl (by kernel_rfl) (by kernel_rfl) (by kernel_rfl) (by kernel_rfl) (by kernel_rfl) (fun _ _ _ h => h) (by rfl) hHeld (fun w' hSw => ?hyaa4) ?restaa4
      case hyaa4 => ((try dsimp only at hSw); go_simp; try with_reducible rfl)
      case restaa4 =>
      (try simp only [Act.put, List.setIfInBounds_toArray, List.set_cons_zero, List.set_cons_succ])
      refine wpEnds.take 5 20 (v := ?vaa5) rfl (by kernel_rfl) (by kernel_rfl) (by kernel_rfl) (by kernel_rfl) (by kernel_rfl) (fun _ _ _ h => h) (by rfl) hHeld (fun w' hSw => ?hyaa5) ?restaa5
      case hyaa5 => ((try dsimp only at hSw); go_simp; try with_reducible rfl)
      case restaa5 =>
      (try simp only [Act.put, List.setIfInBounds_toArray, List.set_cons_zero, List.set_cons_succ])
      refine wpEnds.take 6 20 (v := ?vaa6) rfl (by kernel_rfl) (by kernel_rfl) (by kernel_rfl) (by kernel_rfl) (by kernel_rfl) (fun _ _ _ h => h) (by rfl) hHeld (fun w' hSw => ?hyaa6) ?restaa6
      case hyaa6 => ((try dsimp only at hSw); go_simp; try with_reducible rfl)
      case restaa6 =>
      (try simp only [Act.put, List.setIfInBounds_toArray, List.set_cons_zero, List.set_cons_succ])
      refine wpEnds.take 7 20 (v := ?vaa7) rfl (by kernel_rfl) (by kernel_rfl) (by kernel_rfl) (by kernel_rfl) (by kernel_rfl) (fun _ _ _ h => h) (by rfl) hHeld (fun w' hSw => ?hyaa7) ?restaa7
      case hyaa7 => ((try dsimp only at hSw); go_simp; try with_reducible rfl)
      case restaa7 =>
      (try simp only [Act.put, List.setIfInBounds_toArray, List.set_cons_zero, List.set_cons_succ])
      refine wpEnds.take 8 20 (v := ?vaa8) rfl (by kernel_rfl) (by kernel_rfl) (by kernel_rfl) (by kernel_rfl) (by kernel_rfl) (fun _ _ _ h => h) (by rfl) hHeld (fun w' hSw => ?hyaa8) ?restaa8
      case hyaa8 => ((try dsimp only at hSw); go_simp; try with_reducible rfl)
      case restaa8 =>
      (try simp only [Act.put, List.setIfInBounds_toArray, List.set_cons_zero, List.set_cons_succ])
      refine wpEnds.take 9 20 (v := ?vaa9) rfl (by kernel_rfl) (by kernel_rfl) (by kernel_rfl) (by kernel_rfl) (by kernel_rfl) (fun _ _ _ h => h) (by rfl) hHeld (fun w' hSw => ?hyaa9) ?restaa9
      case hyaa9 => ((try dsimp only at hSw); go_simp; try with_reducible rfl)
      case restaa9 =>
      (try simp only [Act.put, List.setIfInBounds_toArray, List.set_cons_zero, List.set_cons_succ])
      refine wpEnds.take 10 20 (v := ?vaa10) rfl (by kernel_rfl) (by kernel_rfl) (by kernel_rfl) (by kernel_rfl) (by kernel_rfl) (fun _ _ _ h => h) (by rfl) hHeld (fun w' hSw => ?hyaa10) ?restaa10
      case hyaa10 => ((try dsimp only at hSw); go_simp; try with_reducible rfl)
      case restaa10 =>
      (try simp only [Act.put, List.setIfInBounds_toArray, List.set_cons_zero, List.set_cons_succ])
      refine wpEnds.take 11 20 (v := ?vaa11) rfl (by kernel_rfl) (by kernel_rfl) (by kernel_rfl) (by kernel_rfl) (by kernel_rfl) (fun _ _ _ h => h) (by rfl) hHeld (fun w' hSw => ?hyaa11) ?restaa11
      case hyaa11 => ((try dsimp only at hSw); go_simp; try with_reducible rfl)
      case restaa11 =>
      (try simp only [Act.put, List.setIfInBounds_toArray, List.set_cons_zero, List.set_cons_succ])
      refine wpEnds.take 12 20 (v := ?vaa12) rfl (by kernel_rfl) (by kernel_rfl) (by kernel_rfl) (by kernel_rfl) (by kernel_rfl) (fun _ _ _ h => h) (by rfl) hHeld (fun w' hSw => ?hyaa12) ?restaa12
      case hyaa12 => ((try dsimp only at hSw); go_simp; try with_reducible rfl)
      case restaa12 =>
      (try simp only [Act.put, List.setIfInBounds_toArray, List.set_cons_zero, List.set_cons_succ])
      refine wpEnds.take 13 20 (v := ?vaa13) rfl (by kernel_rfl) (by kernel_rfl) (by kernel_rfl) (by kernel_rfl) (by kernel_rfl) (fun _ _ _ h => h) (by rfl) hHeld (fun w' hSw => ?hyaa13) ?restaa13
      case hyaa13 => ((try dsimp only at hSw); go_simp; try with_reducible rfl)
      case restaa13 =>
      (try simp only [Act.put, List.setIfInBounds_toArray, List.set_cons_zero, List.set_cons_succ])
      refine wpEnds.take 14 20 (v := ?vaa14) rfl (by kernel_rfl) (by kernel_rfl) (by kernel_rfl) (by kernel_rfl) (by kernel_rfl) (fun _ _ _ h => h) (by rfl) hHeld (fun w' hSw => ?hyaa14) ?restaa14
      case hyaa14 => ((try dsimp only at hSw); go_simp; try with_reducible rfl)
      case restaa14 =>
      (try simp only [Act.put, List.setIfInBounds_toArray, List.set_cons_zero, List.set_cons_succ])
      refine wpEnds.take 15 20 (v := ?vaa15) rfl (by kernel_rfl) (by kernel_rfl) (by kernel_rfl) (by kernel_rfl) (by kernel_rfl) (fun _ _ _ h => h) (by rfl) hHeld (fun w' hSw => ?hyaa15) ?restaa15
      case hyaa15 => ((try dsimp only at hSw); go_simp; try with_reducible rfl)
      case restaa15 =>
      (try simp only [Act.put, List.setIfInBounds_toArray, List.set_cons_zero, List.set_cons_succ])
      refine wpEnds.one 16 (by kernel_rfl) rfl (fun K hK => ?_)
      go_simp
      refine hK.out _ _ ⟨((ls_alloc _ _).cell hbp2).trans c1, ((ls_alloc _ _).cell hbc2).trans c2, ((ls_alloc _ _).cell hszW).trans c3⟩ ?_
      clear hK K
      (try simp only [Act.put, List.setIfInBounds_toArray, List.set_cons_zero, List.set_cons_succ])
      refine wpEnds.one 17 (by kernel_rfl) rfl (fun K hK => ?_)
      refine append_held (by rfl) _ _ 81 (by rfl) B 83 i2 _ 2 32 Try.underlying81 hi2 hx0 hx1 hx2 (by rfl) (by decide) (.slice a m c) m xs (by rfl) (rowOld HOWN.out (HB2.out.trans ((ls_alloc w2 _).mono HB2.out.size))) (some ⟨w2.heap.size, 0, none⟩) 1 1 [.slice (some ⟨gl, 0, none⟩) o cl, .int .i64 ((M : Int) + 1)] (by rfl) (by intro h; cases h) (by rfl) (by rintro ad' h j u hj'; cases h; rw [Addr.add_at]; exact (cell_new _ _ _ _).trans (by simpa using hj')) (by simp [Value.oneCell']) (by unfold maxLen; omega) (by omega) (by have := HB2.out.size; simp; omega) ?_
      intro av1 cv1 wb HPO HRN hgb
      have HBB := hid (HB2.out.trans ((ls_alloc w2 (.cells #[.slice (some ⟨gl, 0, none⟩) o cl, .int .i64 ((M : Int) + 1)] 83)).mono HB2.out.size))
      have hrow2 := rowOld HOWN.out HBB.out
      have hbcb : wb.heap[bc]? = some (.cells cur 81 (0, 0)) := boxCross hgb.out hrow2 ((HBB.out.block bc hbcl).trans HBC.out) (by decide)
      have hfar : ∀ z, z < W.heap.size → some z ≠ (Value.slice a m c).ownBlock → wb.heap[z]? = W.heap[z]? := fun z h1 h2 => (hgb.out.block z (Nat.lt_of_lt_of_le h1 HBB.out.size) h2).trans (HBB.out.block z h1)
      have hbpne : some bp ≠ (Value.slice a m c).ownBlock := fun e => by have := (HOWN.out.lt bp e.symm).1; omega
      have hWne : some W.heap.size ≠ (Value.slice a m c).ownBlock := fun e => by have := (HOWN.out.lt W.heap.size e.symm).2; omega
      have cc1 : wb.cell? ⟨bp, 1, none⟩ = some (.slice (some ⟨bc, 0, none⟩) n ccap) := by
        rw [← X1.out]
        unfold World.cell?
        simp only
        rw [hfar bp hbpl hbpne]
      have cc2 : wb.cell? ⟨bc, k, none⟩ = some (.slice a m c) := by
        rw [cell_block hbcb k, ← cell_block HBC.out k]
        exact Y0.out
      have cc3 : wb.cell? ⟨W.heap.size, 0, none⟩ = some (.slice (some ⟨gl, 0, none⟩) o cl) := by
        have e := (hgb.out.block W.heap.size (Nat.lt_of_lt_of_le hszW (ls_alloc w2 _).size) hWne).trans ((ls_alloc w2 _).block W.heap.size hszW)
        rw [← c3]
        unfold World.cell?
        simp only
        rw [e]
      have hfr := free_block hbcb
      have hbcbl := boxLt hbcb
      have HBCB := hid hbcb
      have HFAR := hid hfar
      have HROW3 := hid HRN.out
      have HG := hid hgb.out
      clear hrow2 hbcb hfar HPO HRN hgb c1 c2 c3
      refine hK.out _ _ ⟨cc1, cc2, cc3⟩ ?_
      clear hK K
      (try simp only [Act.put, List.setIfInBounds_toArray, List.set_cons_zero, List.set_cons_succ])
      refine wpEnds.take 18 20 (v := ?vab18) rfl (by kernel_rfl) (by kernel_rfl) (by kernel_rfl) (by kernel_rfl) (by kernel_rfl) (fun _ _ _ h => h) (by rfl) ⟨cc1, cc2, cc3⟩ (fun w' hSw => ?hyab18) ?restab18
      case hyab18 => ((try dsimp only at hSw); go_simp; try with_reducible rfl)
      case restab18 =>
      (try simp only [Act.put, List.setIfInBounds_toArray, List.set_cons_zero, List.set_cons_succ])
      refine wpEnds.last 19 (by kernel_rfl) (by kernel_rfl) rfl (fun K hK => ?_)
      go_simp
      refine hK.out _ _ ?_
      clear hK K
      (try simp only [Act.put, List.setIfInBounds_toArray, List.set_cons_zero, List.set_cons_succ])
      go_wp2_with fail
      go_end0
      refine ⟨av1, cv1, rfl, boxSet HBCB.out k _, ?_, ?_, ?_, ?_, ?_, fun z h1 h2 h3 => (heap_setCell_other _ _ _ _ h2).trans (HFAR.out z h1 h3)⟩
      · have h := rowSet HROW3.out HBCB.out (by decide) k (.slice av1 (m + 1) cv1)
        rw [HM.out]
        exact h
      · exact (HG.out.os.trans HBB.out.os)
      · exact (HG.out.tape.trans HBB.out.tape)
      · exact (HG.out.output.trans HBB.out.output)
      · have := HG.out.size
        have := HBB.out.size
        simp [World.setCell]
        omega
end
end Go.Proofs.Ytlaeflpddehipab
