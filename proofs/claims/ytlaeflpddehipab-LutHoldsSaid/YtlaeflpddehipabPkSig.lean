/- lut.packer.signal, at a node that has one, and at one over three leaves (written by gen_pksig.py). -/
import Derived.Test.YtlaeflpddehipabPkVal
import Derived.Test.YtlaeflpddehipabEnds
import Derived.Deep.QuietTactic
import Derived.BigQuiet
set_option linter.unusedVariables false
set_option linter.unusedSimpArgs false
set_option linter.unusedSectionVars false
namespace Go.Proofs.Ytlaeflpddehipab
open Go.RowKit Go.Maps
attribute [local go_sem ↓] Go.wp_at_zero Go.wp_at_succ

theorem Try.pkLut : (Try.prog.info? 44).map (fun i => (i.zero, i.size, i.bytes)) = some (some (.agg #[.slice none 0 0, .int .i64 0]), 2, 32) := by kernel_rfl
theorem pkMap {P : Program} {kt : TypeId} {R : Value → Option (DataW Unit × List MemPlace)} {w w' : World} {bs n : Nat} {D : DataW Unit} (h : w.ownsMap P kt R bs n D) (hb : Below w.heap.size w w') : w'.ownsMap P kt R bs n D := by
  have hlt := h.lt
  obtain ⟨es, clock, hg, F, hs, hD⟩ := h
  exact ⟨es, clock, (hb.block bs hlt).trans hg, F, hs, hD⟩
/-- Two blocks turned, of the old ones. -/
structure But2 (W W' : World) (x y : Nat) : Prop where
  os : W'.os = W.os
  tape : W'.tape = W.tape
  output : W'.output = W.output
  size : W.heap.size ≤ W'.heap.size
  block : ∀ k, k < W.heap.size → k ≠ x → k ≠ y → W'.heap[k]? = W.heap[k]?
theorem But2.cell {W W' : World} {x y k o : Nat} {v : Value} (h : But2 W W' x y) (hc : W.cell? ⟨k, o, none⟩ = some v) (hk : k < W.heap.size) (hx : k ≠ x) (hy : k ≠ y) : W'.cell? ⟨k, o, none⟩ = some v := by
  rw [← hc]
  unfold World.cell?
  simp only
  rw [h.block k hk hx hy]
theorem pkFar {w : World} {b j k o : Nat} {v : Value} (h : k ≠ b) : (w.setCell ⟨b, j, none⟩ v).cell? ⟨k, o, none⟩ = w.cell? ⟨k, o, none⟩ := by
  have e := heap_setCell_other w ⟨b, j, none⟩ k v h
  unfold World.cell?
  simp only
  rw [e]
theorem below_drewN' {n : Nat} {w w' : World} (h : Below n w w') (q : Nat) : Below n w (w'.drewN q) := ⟨h.os, h.tape, h.output, h.size, h.block⟩
theorem but2_set {W w' : World} {x y j : Nat} {v : Value} (hb : Below W.heap.size W w') : But2 W (w'.setCell ⟨y, j, none⟩ v) x y :=
  ⟨hb.os, hb.tape, hb.output, by have := hb.size; simpa [World.setCell] using this, fun k hk _ hy => (heap_setCell_other _ _ _ _ hy).trans (hb.block k hk)⟩
theorem But2.grown {W w w' : World} {x y : Nat} (h : But2 W w x y) (hg : w.grownBy w' (some x)) : But2 W w' x y :=
  ⟨hg.os.trans h.os, hg.tape.trans h.tape, hg.output.trans h.output, Nat.le_trans h.size hg.size, fun k hk hx hy => (hg.block k (Nat.lt_of_lt_of_le hk h.size) (by simp; exact hx)).trans (h.block k hk hx hy)⟩
theorem But2.below {W w w' : World} {x y : Nat} (h : But2 W w x y) (hb : Below w.heap.size w w') : But2 W w' x y :=
  ⟨hb.os.trans h.os, hb.tape.trans h.tape, hb.output.trans h.output, Nat.le_trans h.size hb.size, fun k hk hx hy => (hb.block k (Nat.lt_of_lt_of_le hk h.size)).trans (h.block k hk hx hy)⟩
/-- A table of bits. -/
def pkTab (f : Nat → Bool) : Nat → Nat
  | 0 => 0
  | b + 1 => pkTab f b + if f b then 2 ^ b else 0
theorem pkTab_lt (f : Nat → Bool) : ∀ b, pkTab f b < 2 ^ b
  | 0 => by show 0 < 1; omega
  | b + 1 => by
    have := pkTab_lt f b
    show pkTab f b + (if f b then 2 ^ b else 0) < _
    rw [Nat.pow_succ]
    split <;> omega
theorem pkOr8 (b a : Nat) (hb : b < 8) (ha : a < 2 ^ b) : bits BinOp.or IntKind.i64 (a : Int) (wrap64 (2 ^ b)) = ((a + 2 ^ b : Nat) : Int) := by
  have hp : (2 : Int) ^ b = ((2 ^ b : Nat) : Int) := by push_cast; rfl
  have hb8 : 2 ^ b ≤ 2 ^ 7 := Nat.pow_le_pow_right (by omega) (by omega)
  have hw : wrap64 (2 ^ b) = (2 : Int) ^ b := by rw [hp]; exact IntWalk.wrap64_in _ ⟨by omega, by omega⟩
  rw [hw, or_bit a b (by omega) ha, hp]
  push_cast
  rfl
set_option maxHeartbeats 1600000 in
theorem PkSigs (w : World) (bo gl cl : Nat) (s0 : w.cell? ⟨bo, 0, none⟩ = some (.int .i64 3)) (s1 : w.cell? ⟨bo, 1, none⟩ = some (.slice none 0 0)) (s2 : w.cell? ⟨bo, 2, none⟩ = some (.slice (some ⟨gl, 0, none⟩) 1 cl)) :
    Calls Try.prog 16 #[.pointer (some ⟨bo, 0, none⟩)] w fun e w' => e = .returned (.int .i64 4) ∧ ∃ q, w' = w.drewN q := by
  go_enter Try.func16, Try.ntmps16
  go_wp2
  go_quiet (fail)
  go_wp2
  go_ret
  exact ⟨rfl, _, rfl⟩
set_option maxHeartbeats 1600000 in
theorem PkSigHit (W : World) (bp bm k : Nat) (z : Int) (x3 : W.cell? ⟨bp, 3, none⟩ = some (.map (some bm))) (hlk : (Instr.lookup 68 (.map (some bm)) (.int .i64 (k : Int)) true).run Try.prog W = .ok (.tuple #[.int .i64 z, .bool true]) W) :
    Calls Try.prog 25 #[.pointer (some ⟨bp, 0, none⟩), .int .i64 (k : Int)] W fun e w' => e = .returned (.int .i64 z) ∧ w' = W := by
  go_enter Try.func25, Try.ntmps25
  go_wp2
  go_ret
  exact ⟨rfl, rfl⟩
section
variable (bp bN bl n cn bc ccap bo bm gc g : Nat)
set_option maxRecDepth 100000 in
set_option maxHeartbeats 12800000 in
theorem PkSigNew (W : World) (nm m1 c1 cg i j q : Nat) (l : List Nat) (sl : List Int) (D : DataW Unit) (k k3 : Nat) (x y nx y2 nx2 : Int) (hM : PkM W bp bN bl n cn) (hN : PkNode W bl k 6 (k3 : Int) y2 nx2) (hN3 : PkNode W bl k3 5 x y nx) (hkn : k < n) (hkn3 : k3 < n) (hn6 : n ≤ 1000000)
    (y1 : W.cell? ⟨bp, 1, none⟩ = some (.slice (some ⟨bc, 0, none⟩) n ccap)) (y2' : W.cell? ⟨bp, 2, none⟩ = some (.pointer (some ⟨bo, 0, none⟩))) (y3 : W.cell? ⟨bp, 3, none⟩ = some (.map (some bm)))
    (z0 : W.cell? ⟨bc, k, none⟩ = some (.slice (some ⟨gc, 0, none⟩) m1 c1)) (hm1 : 0 < m1) (z1 : W.cell? ⟨gc, 0, none⟩ = some (.slice (some ⟨g, 0, none⟩) 3 cg)) (hl3 : l.length = 3) (hs3 : sl.length = 3) (hL : Leaves W g (l.map Int.ofNat)) (l4 : bc < W.heap.size) (l5 : gc < W.heap.size) (hg : g < W.heap.size)
    (hout : W.heap[bo]? = some (.cells #[.int .i64 3, .slice none 0 0, .slice none 0 0, .slice none 0 0] 26 (0, 0)))
    (hmap : W.ownsMap Try.prog 3 (plainElem Try.prog 3) bm nm D) (hnm : nm ≤ 1000) (hmiss : Maps.has D (.int .i64 (k : Int)) = false) (hhit : ∀ o, o < 3 → l.getD o 0 ≤ 1000000 ∧ Maps.has D (.int .i64 ((l.getD o 0 : Nat) : Int)) = true ∧ D.atKey (.int .i64 ((l.getD o 0 : Nat) : Int)) (.lit (.int .i64 0)) = .lit (.int .i64 (sl.getD o 0)))
    (h0 : Lib.idxOf (l.map Int.ofNat) (k : Int) = -1) (h03 : Lib.idxOf (l.map Int.ofNat) (k3 : Int) = -1) (hx : Lib.idxOf (l.map Int.ofNat) x = ((i : Nat) : Int)) (hi4 : i < 4) (hy : Lib.idxOf (l.map Int.ofNat) y = ((j : Nat) : Int)) (hj : j < 4) (hy2 : Lib.idxOf (l.map Int.ofNat) y2 = ((q : Nat) : Int)) (hq : q < 4)
    (ha : D.atKey (.int .i64 (k : Int)) (.lit (.int .i64 0)) = .lit (.int .i64 0)) :
    Calls Try.prog 25 #[.pointer (some ⟨bp, 0, none⟩), .int .i64 (k : Int)] W fun e w' =>
      ∃ gl cl gi ci, e = .returned (.int .i64 3) ∧ w'.heap[bo]? = some (.cells #[.int .i64 3, .slice none 0 0, .slice (some ⟨gl, 0, none⟩) 1 cl, .slice none 0 0] 26 (0, 0)) ∧
        w'.cell? ⟨gl, 0, none⟩ = some (.slice (some ⟨gi, 0, none⟩) 3 ci) ∧ w'.cell? ⟨gl, 1, none⟩ = some (.int .i64 (pkTab (fun b => bitB b q || (bitB b j && bitB b i)) 8 : Nat)) ∧ (∀ o, o < 3 → w'.cell? ⟨gi, o, none⟩ = some (.int .i64 (sl.getD o 0))) ∧
        W.heap.size ≤ gl ∧ gl < w'.heap.size ∧ W.heap.size ≤ gi ∧ gi < w'.heap.size ∧ But2 W w' bm bo := by
  obtain ⟨i0, hi, hz0, hz1, hz2⟩ := info_parts Try.pkInt
  obtain ⟨i2, hi2, hx0, hx1, hx2⟩ := info_parts Try.pkLut
  obtain ⟨f, hf⟩ : ∃ f : Nat → Bool, (fun b => bitB b q || (bitB b j && bitB b i)) = f := ⟨_, rfl⟩
  have HF := hid hf
  rw [hf]
  obtain ⟨T8, hT8⟩ : ∃ T, pkTab f 8 = T := ⟨_, rfl⟩
  have HT8 := hid hT8
  rw [hT8]
  clear hf hT8
  have hlk := pkLookI hmap k (by omega) false 0 hmiss ha
  have HMISS := hid hmiss
  have HHIT := hid hhit
  have HMAP := hid hmap
  have HOUT := hid hout
  have HM := hid hM
  have HN := hid hN
  have HN3 := hid hN3
  have HL := hid hL
  have HL3 := hid hl3
  have HS3 := hid hs3
  have H0 := hid h0
  have H03 := hid h03
  have HX := hid hx
  have HY := hid hy
  have HY2 := hid hy2
  have hbm := hmap.lt
  have hbo := boxLt hout
  have hbp := hM.l0
  have hkI : (k : Int) < (n : Int) := by omega
  have hk0 : (0 : Int) ≤ (k : Int) := by omega
  have hm1I : (0 : Int) < (m1 : Int) := by omega
  have hwf : (Lit.int .i64 (k : Int)).wf = true := pkWf ⟨by omega, by omega⟩
  have Y2 := hid y2'
  have Y3 := hid y3
  have hW1 : ∀ W1, W.alloc (.cells #[.slice none 0 0, .int .i64 0] 44) = W1 → W1.heap.size = W.heap.size + 1 ∧ Below W.heap.size W W1 ∧ W1.heap[W.heap.size]? = some (.cells #[.slice none 0 0, .int .i64 0] 44 (0, 0)) := by
    rintro W1 rfl
    exact ⟨by simp, (Below.refl _ _).alloc (Nat.le_refl _) _, alloc_at _ _⟩
  clear hmiss hhit hmap hout hM hN hN3 hL hl3 hs3 h0 h03 hx hy hy2 ha
  go_enter Try.func25, Try.ntmps25
  go_upto_region 5 with fail
  obtain ⟨W1, hW⟩ : ∃ W1, W.alloc (.cells #[.slice none 0 0, .int .i64 0] 44) = W1 := ⟨_, rfl⟩
  obtain ⟨hsz1, hb1, hbx1⟩ := hW1 W1 hW
  rw [hW]
  clear hW hW1 hlk
  have y1' := (hb1.cell (p := ⟨bp, 1, none⟩) hbp).trans y1
  have z0' := (hb1.cell (p := ⟨bc, k, none⟩) l4).trans z0
  have z1' := (hb1.cell (p := ⟨gc, 0, none⟩) l5).trans z1
  have HB1 := hid hb1
  have HBX1 := hid hbx1
  clear y1 z0 z1 y2' y3 hb1 hbx1
  go_wp2_with fail
  clear y1' z0' z1'
  go_loopw [45] (fun v wr => ∃ (o : Nat) (a : Option Addr) (c : Nat), o ≤ 3 ∧ v = .int .i64 o ∧ wr.heap[W.heap.size]? = some (.cells #[.slice a o c, .int .i64 0] 44 (0, 0)) ∧ wr.ownsRow W.heap.size 3 1 (.slice a o c) o ((sl.take o).map (.int .i64)) ∧ Below W.heap.size W wr) (fun v _ => 3 - (intOf v).toNat)
  case atStart => exact ⟨0, none, 0, Nat.zero_le _, rfl, HBX1.out, World.ownsRow_nil _ _ _ _, HB1.out⟩
  case round =>
    obtain ⟨o, a, c, ho, rfl, hbx, hown, hbe⟩ := hrel
    have hsz := hbe.size
    have hltL := boxLt hbx
    have HBE := hid hbe
    have HBX := hid hbx
    have HROW := hid hown
    by_cases hlt : o < 3
    · have hoI : (o : Int) < 3 := by omega
      have ho0 : (0 : Int) ≤ (o : Int) := by omega
      obtain ⟨h6, hh, hv⟩ := HHIT.out o hlt
      have hlv : (l.map Int.ofNat).getD o 0 = ((l.getD o 0 : Nat) : Int) := by
        have : o < l.length := by rw [HL3.out]; exact hlt
        simp [List.getD_eq_getElem?_getD, this]
      have hleaf := HL.out o (by rw [List.length_map, HL3.out]; exact hlt)
      rw [hlv] at hleaf
      have hlw := (hbe.cell (p := ⟨g, 0 + o, none⟩) hg).trans hleaf
      rw [Nat.zero_add] at hlw
      have HTK := hid (take_snoc sl o 0 (by rw [HS3.out]; exact hlt))
      generalize l.getD o 0 = lv at h6 hh hv hlw
      generalize sl.getD o 0 = sv9 at hv HTK
      have hlkw := pkLookI (pkMap HMAP.out HBE.out) lv h6 true sv9 hh hv
      have x3w := (hbe.cell (p := ⟨bp, 3, none⟩) hbp).trans Y3.out
      have HTK' := hid HTK
      have HLKW := hid hlkw
      have HX3 := hid (show wr.drew.cell? ⟨bp, 3, none⟩ = some (.map (some bm)) from x3w)
      have cc : wr.cell? ⟨W.heap.size, 0, none⟩ = some (.slice a o c) := (cell_block hbx 0).trans rfl
      have hfr := free_block hbx
      have HH := hid hh
      have HV := hid hv
      clear hbx hown hbe hleaf hlv hh hv HTK hlkw x3w
      go_upto_region 11 with fail
      refine wpEnds.begin (fun w' => w'.cell? ⟨W.heap.size, 0, none⟩ = some (.slice a o c)) 8 (by kernel_rfl) cc (fun hHeld => ?_)
      refine wpEnds.take 0 9 (v := ?vap0) rfl (by kernel_rfl) (by kernel_rfl) (by kernel_rfl) (by kernel_rfl) (by kernel_rfl) (fun _ _ _ h => h) (by rfl) hHeld (fun w' hSw => ?hyap0) ?restap0
      case hyap0 => ((try dsimp only at hSw); go_simp; try with_reducible rfl)
      case restap0 =>
      (try simp only [Act.put, List.setIfInBounds_toArray, List.set_cons_zero, List.set_cons_succ])
      refine wpEnds.take 1 9 (v := ?vap1) rfl (by kernel_rfl) (by kernel_rfl) (by kernel_rfl) (by kernel_rfl) (by kernel_rfl) (fun _ _ _ h => h) (by rfl) hHeld (fun w' hSw => ?hyap1) ?restap1
      case hyap1 => ((try dsimp only at hSw); go_simp; try with_reducible rfl)
      case restap1 =>
      (try simp only [Act.put, List.setIfInBounds_toArray, List.set_cons_zero, List.set_cons_succ])
      refine wpEnds.take 2 9 (v := ?vap2) rfl (by kernel_rfl) (by kernel_rfl) (by kernel_rfl) (by kernel_rfl) (by kernel_rfl) (fun _ _ _ h => h) (by rfl) hHeld (fun w' hSw => ?hyap2) ?restap2
      case hyap2 => ((try dsimp only at hSw); go_simp; try with_reducible rfl)
      case restap2 =>
      (try simp only [Act.put, List.setIfInBounds_toArray, List.set_cons_zero, List.set_cons_succ])
      refine wpEnds.take 3 9 (v := ?vap3) rfl (by kernel_rfl) (by kernel_rfl) (by kernel_rfl) (by kernel_rfl) (by kernel_rfl) (fun _ _ _ h => h) (by rfl) hHeld (fun w' hSw => ?hyap3) ?restap3
      case hyap3 => ((try dsimp only at hSw); go_simp; try with_reducible rfl)
      case restap3 =>
      (try simp only [Act.put, List.setIfInBounds_toArray, List.set_cons_zero, List.set_cons_succ])
      refine wpEnds.one 4 (by kernel_rfl) rfl (fun K hK => ?_)
      go_simp
      go_at_call 25
      with_reducible refine (PkSigHit wr.drew bp bm lv sv9 HX3.out (pkLookI ((pkMap HMAP.out HBE.out).drew) lv h6 true sv9 HH.out HV.out)).mono ?_
      rintro e w1 ⟨rfl, hw1⟩
      subst w1
      refine hK.out _ _ cc ?_
      clear hK K
      (try simp only [Act.put, List.setIfInBounds_toArray, List.set_cons_zero, List.set_cons_succ])
      refine wpEnds.one 5 (by kernel_rfl) rfl (fun K hK => ?_)
      go_simp
      refine hK.out _ _ (((ls_alloc _ _).cell hltL).trans cc) ?_
      clear hK K
      (try simp only [Act.put, List.setIfInBounds_toArray, List.set_cons_zero, List.set_cons_succ])
      refine wpEnds.one 6 (by kernel_rfl) rfl (fun K hK => ?_)
      refine append_held (by rfl) _ _ 24 (by rfl) W.heap.size 3 i0 _ 1 8 Try.underlying24 hi hz0 hz1 hz2 (by rfl) (by decide) (.slice a o c) o ((sl.take o).map (.int .i64)) (by rfl) (rowOld HROW.out (ls_alloc wr _)) (some ⟨wr.heap.size, 0, none⟩) 1 1 [.int .i64 sv9] (by rfl) (by intro h; cases h) (by rfl) (by rintro ad' h j u hj'; cases h; rw [Addr.add_at]; exact (cell_new _ _ _ _).trans (by simpa using hj')) (by simp [Value.oneCell']) (by unfold maxLen; omega) (by omega) (by simp; omega) ?_
      intro av1 cv1 wb HPO HRN hgb
      have hb2 : Below W.heap.size W wb := (HBE.out.trans ((ls_alloc wr _).mono hsz)).grown hgb.out (Nat.le_trans hsz (ls_alloc wr _).size) (fun q hq => (HROW.out.lt q hq).1)
      have hbb : wb.heap[W.heap.size]? = some (.cells #[.slice a o c, .int .i64 0] 44 (0, 0)) := boxCross hgb.out (rowOld HROW.out (ls_alloc wr _)) (((ls_alloc wr _).block _ hltL).trans HBX.out) (by decide)
      have cb : wb.cell? ⟨W.heap.size, 0, none⟩ = some (.slice a o c) := (cell_block hbb 0).trans rfl
      have hbfr := free_block hbb
      have hblt := boxLt hbb
      have HEND := hid (show wb.ownsRow W.heap.size 3 1 (.slice av1 (o + 1) cv1) (o + 1) ((sl.take (o + 1)).map (.int .i64)) by rw [HTK'.out, List.map_append]; exact HRN.out)
      have HBB := hid hbb
      have HB2 := hid hb2
      clear HPO HRN hgb hbb hb2
      refine hK.out _ _ cb ?_
      clear hK K
      (try simp only [Act.put, List.setIfInBounds_toArray, List.set_cons_zero, List.set_cons_succ])
      refine wpEnds.take 7 9 (v := ?vap7) rfl (by kernel_rfl) (by kernel_rfl) (by kernel_rfl) (by kernel_rfl) (by kernel_rfl) (fun _ _ _ h => h) (by rfl) cb (fun w' hSw => ?hyap7) ?restap7
      case hyap7 => ((try dsimp only at hSw); go_simp; try with_reducible rfl)
      case restap7 =>
      (try simp only [Act.put, List.setIfInBounds_toArray, List.set_cons_zero, List.set_cons_succ])
      refine wpEnds.last 8 (by kernel_rfl) (by kernel_rfl) rfl (fun K hK => ?_)
      go_simp
      refine hK.out _ _ ?_
      clear hK K
      (try simp only [Act.put, List.setIfInBounds_toArray, List.set_cons_zero, List.set_cons_succ])
      go_wp2_with fail
      go_roundw
      case rel => exact ⟨o + 1, av1, cv1, hlt, by go_num, by rw [boxSet HBB.out 0]; simp, rowSet HEND.out HBB.out (by decide) _ _, HB2.out.setCell (Nat.le_refl _) _⟩
      case measure => simp [intOf]; omega
    · obtain rfl : o = 3 := by omega
      rw [show ((3 : Nat) : Int) = 3 from rfl]
      have hall : sl.take 3 = sl := List.take_of_length_le (by rw [HS3.out]; exact Nat.le_refl _)
      rw [hall] at hown
      rcases hown.2 with ⟨_, h0⟩ | ⟨gi, cap, cur, e9, hgi, hgg, -⟩
      · omega
      · cases e9
        obtain ⟨a9, c9, e9, -, -, hc9⟩ := pkRow hown
        cases e9
        have hgil := boxLt hgg
        have HCI := hid hc9
        have HGI := hid hgg
        have HGI0 := hid hgg
        clear hown hbe HROW hall hc9 hgg HBX1 HB1 hbx hlt ho hsz1
        have hmm := @run_makeMap Try.prog
        go_wp2_with fail
        obtain ⟨w0, rfl⟩ : ∃ wo : World, wo = wr := ⟨_, rfl⟩
        go_loopw [61] (fun v wr => ∃ b : Nat, b ≤ 8 ∧ v = .int .i64 b ∧ wr.heap[W.heap.size]? = some (.cells #[.slice (some ⟨gi, 0, none⟩) 3 c, .int .i64 (pkTab f b : Nat)] 44 (0, 0)) ∧ (∀ z, z < w0.heap.size → z ≠ W.heap.size → wr.heap[z]? = w0.heap[z]?) ∧ Below W.heap.size W wr ∧ w0.heap.size ≤ wr.heap.size) (fun v _ => 8 - (intOf v).toNat)
        case atStart => exact ⟨0, Nat.zero_le _, rfl, HBX.out, fun _ _ _ => rfl, HBE.out, Nat.le_refl _⟩
        case round =>
          obtain ⟨b, hb8, rfl, hbx, hkeep, hbe, hszw⟩ := hrel
          have hsz := hbe.size
          have hltL := boxLt hbx
          have HBEb := hid hbe
          have HBXb := hid hbx
          have HKP := hid hkeep
          by_cases hlt : b < 8
          · have hbI : (b : Int) < 8 := by omega
            have hb0 : (0 : Int) ≤ (b : Int) := by omega
            have HAL := hid (show Below W.heap.size W (wr.alloc (.map #[] 0)) from hbe.alloc hsz _)
            have HMS := hid (HM.out.stay HAL.out)
            have HNS := hid (HN.out.stay HM.out.l2 HAL.out)
            have HN3S := hid (HN3.out.stay HM.out.l2 HAL.out)
            have HLS := hid (HL.out.stay hg HAL.out)
            have HMP := hid (World.ownsMap_made wr Try.prog 3 (plainElem (H := Unit) Try.prog 4))
            have HSZA := hid (show (wr.alloc (.map #[] 0)).heap.size = wr.heap.size + 1 by simp)
            have hfb : Hid ((bitB b q || (bitB b j && bitB b i)) = f b) := by rw [← HF.out]; rfl
            have hT := pkTab_lt f b
            have hOR : f b = true → bits BinOp.or IntKind.i64 (pkTab f b : Int) (wrap64 (2 ^ b)) = ((pkTab f (b + 1) : Nat) : Int) := fun h => by
              rw [pkOr8 b _ hlt hT]
              show _ = ((pkTab f b + (if f b then 2 ^ b else 0) : Nat) : Int)
              rw [if_pos h]
            have hNO : f b = false → pkTab f (b + 1) = pkTab f b := fun h => by
              show pkTab f b + (if f b then 2 ^ b else 0) = _
              rw [h]
              simp
            generalize pkTab f b = T at hbx HBXb hOR hNO hT
            obtain ⟨T', hTE⟩ : ∃ T', pkTab f (b + 1) = T' := ⟨_, rfl⟩
            have HTE := hid hTE
            rw [hTE] at hOR hNO
            clear hTE
            generalize f b = fb at hfb hOR hNO
            have HFB := hid hfb
            clear hbx hkeep hbe hT hfb
            cases fb
            · have HT' := hid (hNO rfl)
              clear hNO hOR
              go_wp2_with (go_at_call 34; ((with_reducible refine (PkOr bp bN bl n cn _ g 3 cg b i j q wr.heap.size 0 (l.map Int.ofNat) (.map []) k k3 x y nx y2 nx2 HMS.out HNS.out HN3S.out hkn hkn3 hn6 (by rw [List.length_map, HL3.out]) HLS.out (by have := HSZA.out; omega) (by omega) (by omega) H0.out H03.out HX.out hi4 HY.out hj HY2.out hq HMP.out rfl rfl (by omega)).mono ?_); rintro e w2 ⟨rfl, hg2⟩; rw [HFB.out]; have HG2 := hid hg2; clear hg2))
              have hg2 := HG2.out
              have hsa := HSZA.out
              have HBE2 := hid (HAL.out.grown hg2 HAL.out.size (fun q hq => (Option.some.inj hq) ▸ hsz))
              have HBX2 := hid ((hg2.block W.heap.size (by omega) (fun e => by have := Option.some.inj e; omega)).trans ((Below.heap_alloc _ _ _ hltL).trans HBXb.out))
              have HKP2 := hid (show ∀ z, z < w0.heap.size → z ≠ W.heap.size → w2.heap[z]? = w0.heap[z]? from fun z h1 h2 => (hg2.block z (by omega) (fun e => by have := Option.some.inj e; omega)).trans ((Below.heap_alloc _ _ _ (by omega)).trans (HKP.out z h1 h2)))
              have hsz2 : w0.heap.size ≤ w2.heap.size := by have h1 := hg2.size; omega
              clear hg2 hsa
              go_roundw
              case rel => exact ⟨b + 1, hlt, by go_num, by rw [HTE.out, HT'.out]; exact HBX2.out, HKP2.out, HBE2.out, hsz2⟩
              case measure => simp [intOf]; omega
            · have hor := hOR rfl
              clear hNO hOR
              go_upto_region 17 with (go_at_call 34; (with_reducible refine (PkOr bp bN bl n cn _ g 3 cg b i j q wr.heap.size 0 (l.map Int.ofNat) (.map []) k k3 x y nx y2 nx2 HMS.out HNS.out HN3S.out hkn hkn3 hn6 (by rw [List.length_map, HL3.out]) HLS.out (by have := HSZA.out; omega) (by omega) (by omega) H0.out H03.out HX.out hi4 HY.out hj HY2.out hq HMP.out rfl rfl (by omega)).mono ?_); rintro e w2 ⟨rfl, hg2⟩; rw [HFB.out]; have HG2 := hid hg2; clear hg2)
              have hg2 := HG2.out
              have hsa := HSZA.out
              have HBE2 := hid (HAL.out.grown hg2 HAL.out.size (fun q hq => (Option.some.inj hq) ▸ hsz))
              have HBX2 := hid ((hg2.block W.heap.size (by omega) (fun e => by have := Option.some.inj e; omega)).trans ((Below.heap_alloc _ _ _ hltL).trans HBXb.out))
              have HKP2 := hid (show ∀ z, z < w0.heap.size → z ≠ W.heap.size → w2.heap[z]? = w0.heap[z]? from fun z h1 h2 => (hg2.block z (by omega) (fun e => by have := Option.some.inj e; omega)).trans ((Below.heap_alloc _ _ _ (by omega)).trans (HKP.out z h1 h2)))
              have hsz2 : w0.heap.size ≤ w2.heap.size := by have h1 := hg2.size; omega
              clear hg2 hsa
              have c1 : w2.cell? ⟨W.heap.size, 1, none⟩ = some (.int .i64 (T : Int)) := (cell_block HBX2.out 1).trans rfl
              have hfr := free_block HBX2.out
              have hlt2 := boxLt HBX2.out
              refine wpEnds.begin (fun w' => w'.cell? ⟨W.heap.size, 1, none⟩ = some (.int .i64 (T : Int))) 6 (by kernel_rfl) c1 (fun hHeld => ?_)
              refine wpEnds.take 0 7 (v := ?vat0) rfl (by kernel_rfl) (by kernel_rfl) (by kernel_rfl) (by kernel_rfl) (by kernel_rfl) (fun _ _ _ h => h) (by rfl) hHeld (fun w' hSw => ?hyat0) ?restat0
              case hyat0 => ((try dsimp only at hSw); go_simp; try with_reducible rfl)
              case restat0 =>
              (try simp only [Act.put, List.setIfInBounds_toArray, List.set_cons_zero, List.set_cons_succ])
              refine wpEnds.take 1 7 (v := ?vat1) rfl (by kernel_rfl) (by kernel_rfl) (by kernel_rfl) (by kernel_rfl) (by kernel_rfl) (fun _ _ _ h => h) (by rfl) hHeld (fun w' hSw => ?hyat1) ?restat1
              case hyat1 => ((try dsimp only at hSw); go_simp; try with_reducible rfl)
              case restat1 =>
              (try simp only [Act.put, List.setIfInBounds_toArray, List.set_cons_zero, List.set_cons_succ])
              refine wpEnds.take 2 7 (v := ?vat2) rfl (by kernel_rfl) (by kernel_rfl) (by kernel_rfl) (by kernel_rfl) (by kernel_rfl) (fun _ _ _ h => h) (by rfl) hHeld (fun w' hSw => ?hyat2) ?restat2
              case hyat2 => ((try dsimp only at hSw); go_simp; try with_reducible rfl)
              case restat2 =>
              (try simp only [Act.put, List.setIfInBounds_toArray, List.set_cons_zero, List.set_cons_succ])
              refine wpEnds.take 3 7 (v := ?vat3) rfl (by kernel_rfl) (by kernel_rfl) (by kernel_rfl) (by kernel_rfl) (by kernel_rfl) (fun _ _ _ h => h) (by rfl) hHeld (fun w' hSw => ?hyat3) ?restat3
              case hyat3 => ((try dsimp only at hSw); go_simp; try with_reducible rfl)
              case restat3 =>
              (try simp only [Act.put, List.setIfInBounds_toArray, List.set_cons_zero, List.set_cons_succ])
              refine wpEnds.take 4 7 (v := ?vat4) rfl (by kernel_rfl) (by kernel_rfl) (by kernel_rfl) (by kernel_rfl) (by kernel_rfl) (fun _ _ _ h => h) (by rfl) hHeld (fun w' hSw => ?hyat4) ?restat4
              case hyat4 => ((try dsimp only at hSw); go_simp; try with_reducible rfl)
              case restat4 =>
              (try simp only [Act.put, List.setIfInBounds_toArray, List.set_cons_zero, List.set_cons_succ])
              refine wpEnds.take 5 7 (v := ?vat5) rfl (by kernel_rfl) (by kernel_rfl) (by kernel_rfl) (by kernel_rfl) (by kernel_rfl) (fun _ _ _ h => h) (by rfl) hHeld (fun w' hSw => ?hyat5) ?restat5
              case hyat5 => ((try dsimp only at hSw); go_simp; try with_reducible rfl)
              case restat5 =>
              (try simp only [Act.put, List.setIfInBounds_toArray, List.set_cons_zero, List.set_cons_succ])
              refine wpEnds.last 6 (by kernel_rfl) (by kernel_rfl) rfl (fun K hK => ?_)
              go_simp
              refine hK.out _ _ ?_
              clear hK K
              (try simp only [Act.put, List.setIfInBounds_toArray, List.set_cons_zero, List.set_cons_succ])
              go_wp2_with fail
              go_roundw
              case rel => exact ⟨b + 1, hlt, by go_num, by rw [HTE.out, ← hor]; exact (boxSet HBX2.out 1 _).trans (by simp), fun z h1 h2 => (heap_setCell_other _ _ _ _ h2).trans (HKP2.out z h1 h2), (HBE2.out.setCell (Nat.le_refl _) _).drew, by simpa [World.setCell] using hsz2⟩
              case measure => simp [intOf]; omega
          · obtain rfl : b = 8 := by omega
            rw [show ((8 : Nat) : Int) = 8 from rfl]
            rw [HT8.out] at hbx
            clear hlt HBXb HKP
            have hne : gi ≠ W.heap.size := fun e => by
              have h1 := HGI.out
              rw [e, HBX.out] at h1
              cases h1
            have hgiw := (hkeep gi hgil hne).trans HGI.out
            have p2 := (hbe.cell (p := ⟨bp, 2, none⟩) hbp).trans Y2.out
            have hob := (hbe.block bo hbo).trans HOUT.out
            have o2 : wr.cell? ⟨bo, 2, none⟩ = some (.slice none 0 0) := (cell_block hob 2).trans rfl
            have l0 : wr.cell? ⟨W.heap.size, 0, none⟩ = some (.slice (some ⟨gi, 0, none⟩) 3 c) := (cell_block hbx 0).trans rfl
            have l1 : wr.cell? ⟨W.heap.size, 1, none⟩ = some (.int .i64 (T8 : Int)) := (cell_block hbx 1).trans rfl
            have hbpr : bp < wr.heap.size := by omega
            have hbor : bo < wr.heap.size := by omega
            have hgir : gi < wr.heap.size := by omega
            have HGIW := hid hgiw
            have HOB := hid hob
            have HBEw := hid hbe
            clear hkeep hgiw hob hbe hbx HBX HGI HBE
            go_upto_region 19 with fail
            refine wpEnds.begin (fun w' => w'.cell? ⟨bp, 2, none⟩ = some (.pointer (some ⟨bo, 0, none⟩)) ∧ w'.cell? ⟨bo, 2, none⟩ = some (.slice none 0 0) ∧ w'.cell? ⟨W.heap.size, 0, none⟩ = some (.slice (some ⟨gi, 0, none⟩) 3 c) ∧ w'.cell? ⟨W.heap.size, 1, none⟩ = some (.int .i64 (T8 : Int))) 16 (by kernel_rfl) ⟨p2, o2, l0, l1⟩ (fun hHeld => ?_)
            refine wpEnds.take 0 17 (v := ?var0) rfl (by kernel_rfl) (by kernel_rfl) (by kernel_rfl) (by kernel_rfl) (by kernel_rfl) (fun _ _ _ h => h) (by rfl) hHeld (fun w' hSw => ?hyar0) ?restar0
            case hyar0 => ((try dsimp only at hSw); go_simp; try with_reducible rfl)
            case restar0 =>
            (try simp only [Act.put, List.setIfInBounds_toArray, List.set_cons_zero, List.set_cons_succ])
            refine wpEnds.take 1 17 (v := ?var1) rfl (by kernel_rfl) (by kernel_rfl) (by kernel_rfl) (by kernel_rfl) (by kernel_rfl) (fun _ _ _ h => h) (by rfl) hHeld (fun w' hSw => ?hyar1) ?restar1
            case hyar1 => ((try dsimp only at hSw); go_simp; try with_reducible rfl)
            case restar1 =>
            (try simp only [Act.put, List.setIfInBounds_toArray, List.set_cons_zero, List.set_cons_succ])
            refine wpEnds.take 2 17 (v := ?var2) rfl (by kernel_rfl) (by kernel_rfl) (by kernel_rfl) (by kernel_rfl) (by kernel_rfl) (fun _ _ _ h => h) (by rfl) hHeld (fun w' hSw => ?hyar2) ?restar2
            case hyar2 => ((try dsimp only at hSw); go_simp; try with_reducible rfl)
            case restar2 =>
            (try simp only [Act.put, List.setIfInBounds_toArray, List.set_cons_zero, List.set_cons_succ])
            refine wpEnds.take 3 17 (v := ?var3) rfl (by kernel_rfl) (by kernel_rfl) (by kernel_rfl) (by kernel_rfl) (by kernel_rfl) (fun _ _ _ h => h) (by rfl) hHeld (fun w' hSw => ?hyar3) ?restar3
            case hyar3 => ((try dsimp only at hSw); go_simp; try with_reducible rfl)
            case restar3 =>
            (try simp only [Act.put, List.setIfInBounds_toArray, List.set_cons_zero, List.set_cons_succ])
            refine wpEnds.take 4 17 (v := ?var4) rfl (by kernel_rfl) (by kernel_rfl) (by kernel_rfl) (by kernel_rfl) (by kernel_rfl) (fun _ _ _ h => h) (by rfl) hHeld (fun w' hSw => ?hyar4) ?restar4
            case hyar4 => ((try dsimp only at hSw); go_simp; try with_reducible rfl)
            case restar4 =>
            (try simp only [Act.put, List.setIfInBounds_toArray, List.set_cons_zero, List.set_cons_succ])
            refine wpEnds.take 5 17 (v := ?var5) rfl (by kernel_rfl) (by kernel_rfl) (by kernel_rfl) (by kernel_rfl) (by kernel_rfl) (fun _ _ _ h => h) (by rfl) hHeld (fun w' hSw => ?hyar5) ?restar5
            case hyar5 => ((try dsimp only at hSw); go_simp; try with_reducible rfl)
            case restar5 =>
            (try simp only [Act.put, List.setIfInBounds_toArray, List.set_cons_zero, List.set_cons_succ])
            refine wpEnds.take 6 17 (v := ?var6) rfl (by kernel_rfl) (by kernel_rfl) (by kernel_rfl) (by kernel_rfl) (by kernel_rfl) (fun _ _ _ h => h) (by rfl) hHeld (fun w' hSw => ?hyar6) ?restar6
            case hyar6 => ((try dsimp only at hSw); go_simp; try with_reducible rfl)
            case restar6 =>
            (try simp only [Act.put, List.setIfInBounds_toArray, List.set_cons_zero, List.set_cons_succ])
            refine wpEnds.take 7 17 (v := ?var7) rfl (by kernel_rfl) (by kernel_rfl) (by kernel_rfl) (by kernel_rfl) (by kernel_rfl) (fun _ _ _ h => h) (by rfl) hHeld (fun w' hSw => ?hyar7) ?restar7
            case hyar7 => ((try dsimp only at hSw); go_simp; try with_reducible rfl)
            case restar7 =>
            (try simp only [Act.put, List.setIfInBounds_toArray, List.set_cons_zero, List.set_cons_succ])
            refine wpEnds.take 8 17 (v := ?var8) rfl (by kernel_rfl) (by kernel_rfl) (by kernel_rfl) (by kernel_rfl) (by kernel_rfl) (fun _ _ _ h => h) (by rfl) hHeld (fun w' hSw => ?hyar8) ?restar8
            case hyar8 => ((try dsimp only at hSw); go_simp; try with_reducible rfl)
            case restar8 =>
            (try simp only [Act.put, List.setIfInBounds_toArray, List.set_cons_zero, List.set_cons_succ])
            refine wpEnds.take 9 17 (v := ?var9) rfl (by kernel_rfl) (by kernel_rfl) (by kernel_rfl) (by kernel_rfl) (by kernel_rfl) (fun _ _ _ h => h) (by rfl) hHeld (fun w' hSw => ?hyar9) ?restar9
            case hyar9 => ((try dsimp only at hSw); go_simp; try with_reducible rfl)
            case restar9 =>
            (try simp only [Act.put, List.setIfInBounds_toArray, List.set_cons_zero, List.set_cons_succ])
            refine wpEnds.take 10 17 (v := ?var10) rfl (by kernel_rfl) (by kernel_rfl) (by kernel_rfl) (by kernel_rfl) (by kernel_rfl) (fun _ _ _ h => h) (by rfl) hHeld (fun w' hSw => ?hyar10) ?restar10
            case hyar10 => ((try dsimp only at hSw); go_simp; try with_reducible rfl)
            case restar10 =>
            (try simp only [Act.put, List.setIfInBounds_toArray, List.set_cons_zero, List.set_cons_succ])
            refine wpEnds.take 11 17 (v := ?var11) rfl (by kernel_rfl) (by kernel_rfl) (by kernel_rfl) (by kernel_rfl) (by kernel_rfl) (fun _ _ _ h => h) (by rfl) hHeld (fun w' hSw => ?hyar11) ?restar11
            case hyar11 => ((try dsimp only at hSw); go_simp; try with_reducible rfl)
            case restar11 =>
            (try simp only [Act.put, List.setIfInBounds_toArray, List.set_cons_zero, List.set_cons_succ])
            refine wpEnds.one 12 (by kernel_rfl) rfl (fun K hK => ?_)
            go_simp
            refine hK.out _ _ ⟨((ls_alloc _ _).cell hbpr).trans p2, ((ls_alloc _ _).cell hbor).trans o2, ((ls_alloc _ _).cell hltL).trans l0, ((ls_alloc _ _).cell hltL).trans l1⟩ ?_
            clear hK K
            (try simp only [Act.put, List.setIfInBounds_toArray, List.set_cons_zero, List.set_cons_succ])
            refine wpEnds.one 13 (by kernel_rfl) rfl (fun K hK => ?_)
            refine append_held (by rfl) _ _ 23 (by rfl) W.heap.size 44 i2 _ 2 32 Try.underlying23 hi2 hx0 hx1 hx2 (by rfl) (by decide) (.slice none 0 0) 0 [] (by rfl) (World.ownsRow_nil _ _ _ _) (some ⟨wr.heap.size, 0, none⟩) 1 1 [.slice (some ⟨gi, 0, none⟩) 3 c, .int .i64 (T8 : Int)] (by rfl) (by intro h; cases h) (by rfl) (by rintro ad' h j u hj'; cases h; rw [Addr.add_at]; exact (cell_new _ _ _ _).trans (by simpa using hj')) (by simp [Value.oneCell']) (by unfold maxLen; omega) (by omega) (by simp; omega) ?_
            intro av1 cv1 wb HPO HRN hgb
            have hbw : Below wr.heap.size wr wb := (ls_alloc wr (.cells #[.slice (some ⟨gi, 0, none⟩) 3 c, .int .i64 (T8 : Int)] 44)).grown hgb.out (ls_alloc wr _).size (fun q hq => by cases hq)
            obtain ⟨gl, cl, e1, hglb, hgll, hcl⟩ : ∃ gl cl, Value.slice av1 (0 + 1) cv1 = .slice (some ⟨gl, 0, none⟩) 1 cl ∧ W.heap.size ≤ gl ∧ gl < wb.heap.size ∧ ∀ j u, [Value.slice (some ⟨gi, 0, none⟩) 3 c, .int .i64 (T8 : Int)][j]? = some u → wb.cell? ⟨gl, j, none⟩ = some u := by
              rcases HRN.out.2 with ⟨e, h0⟩ | ⟨gl, cap2, cur2, e, hglb, hgh, _, _, _, htk⟩
              · cases h0
              · refine ⟨gl, cap2, e, hglb, boxLt hgh, fun j u hj => ?_⟩
                rw [cell_block hgh j]
                have h2 : (cur2.toList.take ((0 + 1) * 2))[j]? = some u := by rw [htk]; exact hj
                rw [List.getElem?_take] at h2
                split at h2
                · rw [Array.getElem?_toList] at h2; exact h2
                · cases h2
            have cp2 := (hbw.cell (p := ⟨bp, 2, none⟩) hbpr).trans p2
            have co2 := (hbw.cell (p := ⟨bo, 2, none⟩) hbor).trans o2
            have cl0 := (hbw.cell (p := ⟨W.heap.size, 0, none⟩) hltL).trans l0
            have cl1 := (hbw.cell (p := ⟨W.heap.size, 1, none⟩) hltL).trans l1
            have hob2 := (hbw.block bo hbor).trans HOB.out
            have hfr2 := free_block hob2
            have hblt2 := boxLt hob2
            have HBW := hid hbw
            have HOB2 := hid hob2
            have HCL := hid hcl
            rw [e1]
            clear e1 HPO HRN hgb hbw hob2 hcl p2 o2 l0 l1
            refine hK.out _ _ ⟨cp2, co2, cl0, cl1⟩ ?_
            clear hK K
            (try simp only [Act.put, List.setIfInBounds_toArray, List.set_cons_zero, List.set_cons_succ])
            refine wpEnds.take 14 17 (v := ?vas14) rfl (by kernel_rfl) (by kernel_rfl) (by kernel_rfl) (by kernel_rfl) (by kernel_rfl) (fun _ _ _ h => h) (by rfl) ⟨cp2, co2, cl0, cl1⟩ (fun w' hSw => ?hyas14) ?restas14
            case hyas14 => ((try dsimp only at hSw); go_simp; try with_reducible rfl)
            case restas14 =>
            (try simp only [Act.put, List.setIfInBounds_toArray, List.set_cons_zero, List.set_cons_succ])
            refine wpEnds.take 15 17 (v := ?vas15) rfl (by kernel_rfl) (by kernel_rfl) (by kernel_rfl) (by kernel_rfl) (by kernel_rfl) (fun _ _ _ h => h) (by rfl) ⟨cp2, co2, cl0, cl1⟩ (fun w' hSw => ?hyas15) ?restas15
            case hyas15 => ((try dsimp only at hSw); go_simp; try with_reducible rfl)
            case restas15 =>
            (try simp only [Act.put, List.setIfInBounds_toArray, List.set_cons_zero, List.set_cons_succ])
            refine wpEnds.last 16 (by kernel_rfl) (by kernel_rfl) rfl (fun K hK => ?_)
            go_simp
            refine hK.out _ _ ?_
            clear hK K
            (try simp only [Act.put, List.setIfInBounds_toArray, List.set_cons_zero, List.set_cons_succ])
            obtain ⟨wS, hwS⟩ : ∃ wS, wb.setCell ⟨bo, 2, none⟩ (.slice (some ⟨gl, 0, none⟩) 1 cl) = wS := ⟨_, rfl⟩
            rw [hwS]
            have hoS : wS.heap[bo]? = some (.cells #[.int .i64 3, .slice none 0 0, .slice (some ⟨gl, 0, none⟩) 1 cl, .slice none 0 0] 26 (0, 0)) := by rw [← hwS]; exact (boxSet HOB2.out 2 _).trans (by simp)
            have hBut : But2 W wS bm bo := by rw [← hwS]; exact but2_set (HBEw.out.trans (HBW.out.mono HBEw.out.size))
            have hkS : ∀ z, z ≠ bo → wS.heap[z]? = wb.heap[z]? := fun z hz => by rw [← hwS]; exact heap_setCell_other _ _ _ _ hz
            have hszS : wS.heap.size = wb.heap.size := by rw [← hwS]; simp [World.setCell]
            have hmo : bm ≠ bo := fun e => by
              obtain ⟨es, clock, h1, _⟩ := HMAP.out
              rw [e, HOUT.out] at h1
              cases h1
            have hpo : bp ≠ bo := fun e => by
              have h1 := HM.out.x0
              rw [e] at h1
              rw [cell_block HOUT.out 0] at h1
              cases h1
            have s0 : wS.cell? ⟨bo, 0, none⟩ = some (.int .i64 3) := (cell_block hoS 0).trans rfl
            have s1 : wS.cell? ⟨bo, 1, none⟩ = some (.slice none 0 0) := (cell_block hoS 1).trans rfl
            have s2 : wS.cell? ⟨bo, 2, none⟩ = some (.slice (some ⟨gl, 0, none⟩) 1 cl) := (cell_block hoS 2).trans rfl
            have q2 : wS.cell? ⟨bp, 2, none⟩ = some (.pointer (some ⟨bo, 0, none⟩)) := by rw [← hwS]; exact (pkFar hpo).trans cp2
            have q3 : wS.cell? ⟨bp, 3, none⟩ = some (.map (some bm)) := by rw [← hwS]; exact (pkFar hpo).trans ((HBW.out.cell (p := ⟨bp, 3, none⟩) hbpr).trans ((HBEw.out.cell (p := ⟨bp, 3, none⟩) hbp).trans Y3.out))
            have HMAPS : Hid (wS.ownsMap Try.prog 3 (plainElem Try.prog 3) bm nm D) := by
              obtain ⟨es, clock, hg9, F, hs9, hD9⟩ := HMAP.out
              refine ⟨es, clock, ?_, F, hs9, hD9⟩
              rw [hkS bm hmo, HBW.out.block bm (by omega), HBEw.out.block bm hbm]
              exact hg9
            have HBUT := hid hBut
            have HKS := hid hkS
            have HSZS := hid hszS
            have HOS := hid hoS
            have hw3 : (Lit.int .i64 3).wf = true := pkWf ⟨by omega, by omega⟩
            clear hwS cp2 co2 cl0 cl1 hBut hkS hszS hoS hfr2
            go_wp2_with (first
              | (go_at_call 16; ((with_reducible refine (PkSigs wS bo gl cl s0 s1 s2).mono ?_); rintro e w5 ⟨rfl, q5, hw5⟩; have HW5 := hid hw5; have q35 : w5.cell? ⟨bp, 3, none⟩ = some (.map (some bm)) := (by rw [hw5]; exact q3); have HMAP5 : Hid (w5.ownsMap Try.prog 3 (plainElem Try.prog 3) bm nm D) := (by rw [hw5]; exact HMAPS.out); clear hw5))
              | (at_mapUpdate; refine wpList_mapUpdate_own _ rfl _ _ _ 68 rfl 3 3 Try.pkKey Try.underlying68 _ bm nm D rfl HMAP5.out (by unfold maxLen; omega) _ _ _ rfl rfl (keyOf_int_mk Try.underlying3 hwf) _ [] (plainElem_int Try.underlying3 hw3) ?_; intro w9 hown9 hg9; have HG9 := hid (pkFrom (show Below wS.heap.size wS w5 by rw [HW5.out]; exact below_drewN' (Below.refl _ _) q5) hg9); clear hown9 hg9))
            go_ret
            have hk9 : ∀ z, z < wS.heap.size → z ≠ bm → w9.heap[z]? = wS.heap[z]? := fun z h1 h2 => HG9.out.block z h1 (fun e => h2 (Option.some.inj e))
            have hglo : gl ≠ bo := by omega
            have hgio : gi ≠ bo := by omega
            have hsS := HSZS.out
            have hglS : gl < wS.heap.size := by omega
            have hgiS : gi < wS.heap.size := by have := HBW.out.size; omega
            have hs9 := HG9.out.size
            have hcell : ∀ z j, z < wS.heap.size → z ≠ bm → z ≠ bo → w9.cell? ⟨z, j, none⟩ = wb.cell? ⟨z, j, none⟩ := fun z j h1 h2 h3 => by
              unfold World.cell?
              simp only
              rw [hk9 z h1 h2, HKS.out z h3]
            refine ⟨gl, cl, gi, c, rfl, (hk9 bo (by omega) (fun e => hmo e.symm)).trans HOS.out, ?_, ?_, fun o ho => ?_, hglb, by omega, hgi, by omega, HBUT.out.grown HG9.out⟩
            · rw [hcell gl 0 hglS (by omega) hglo]; exact HCL.out 0 _ rfl
            · rw [hcell gl 1 hglS (by omega) hglo]; exact HCL.out 1 _ rfl
            · rw [hcell gi o hgiS (by omega) hgio]
              obtain ⟨b5, o5, e5, _, hc5⟩ := HCI.out.at (by omega)
              cases e5
              have h5 := hc5 o ho
              rw [Nat.zero_add] at h5
              have hh : wb.heap[gi]? = w0.heap[gi]? := by rw [HBW.out.block gi hgir, HGIW.out, HGI0.out]
              unfold World.cell? at h5 ⊢
              simp only at h5 ⊢
              rw [hh]
              exact h5
end
end Go.Proofs.Ytlaeflpddehipab
