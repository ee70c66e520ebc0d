/- CleanKnown, walked. -/
import Derived.Test.YtlaeflpddehipaaKnownPlain
import Derived.Test.YtlaeflpddehipaaCleanW
import Derived.Test.YtlaeflpddehipaaBesideMem
import Derived.Test.YtlaeflpddehipaaOwnRow
set_option linter.unusedVariables false
set_option linter.unusedSimpArgs false
namespace Go.Proofs.Ytlaeflpddehipaa
open Go.RowKit
attribute [local go_sem ↓] Go.wp_at_zero Go.wp_at_succ

theorem sim_step_nil (B : Nat) (b : Nat) (a : Option Addr) (c : Nat) (a' : Option Addr) (c' : Nat) (N : Net) (w : World) (s r : Nat) (regs : List Bool) (cg : Nat)
    (h : SimOk B w b a c a' c' N s r regs) :
    Calls Try.prog 33 #[.pointer (some ⟨s, 0, none⟩), .slice none 0 cg] w (StepPost N regs [] r w) :=
  sim_step B b a c a' c' N w s r regs none cg [] h (Bits.nil w r)
theorem pick_quiet (a n r : Int) (hn : 0 < n ∧ n ≤ 1000000) (hr : Hid (vpick a n = r)) (w : World) : Calls Try.prog 17 #[.int .i64 a, .int .i64 n] w fun e w' => e = .returned (.int .i64 r) ∧ w' = w := by
  refine (pick_any a n hn w).mono ?_
  rintro e w' ⟨rfl, rfl⟩
  rw [hr.out]
  exact ⟨rfl, rfl⟩
theorem index_0 (w : World) : (Instr.index 70 (.agg #[.int .i64 5, .int .i64 6, .int .i64 7, .int .i64 8]) (.int .i64 0)).run Try.prog w = .ok (.int .i64 5) w := by kernel_rfl
theorem index_1 (w : World) : (Instr.index 70 (.agg #[.int .i64 5, .int .i64 6, .int .i64 7, .int .i64 8]) (.int .i64 1)).run Try.prog w = .ok (.int .i64 6) w := by kernel_rfl
theorem index_2 (w : World) : (Instr.index 70 (.agg #[.int .i64 5, .int .i64 6, .int .i64 7, .int .i64 8]) (.int .i64 2)).run Try.prog w = .ok (.int .i64 7) w := by kernel_rfl
theorem index_3 (w : World) : (Instr.index 70 (.agg #[.int .i64 5, .int .i64 6, .int .i64 7, .int .i64 8]) (.int .i64 3)).run Try.prog w = .ok (.int .i64 8) w := by kernel_rfl
theorem index_four (v : Int) (h : 0 ≤ v ∧ v < 4) (w : World) : (Instr.index 70 (.agg #[.int .i64 5, .int .i64 6, .int .i64 7, .int .i64 8]) (.int .i64 v)).run Try.prog w = .ok (.int .i64 (gateOf v)) w := by
  have : v = 0 ∨ v = 1 ∨ v = 2 ∨ v = 3 := by omega
  rcases this with rfl | rfl | rfl | rfl
  · exact index_0 w
  · exact index_1 w
  · exact index_2 w
  · exact index_3 w
/-- Nothing is given, nothing comes out. -/
def NN : Net := ⟨0, [], []⟩
section
variable {w3 wr W1 wb : World} {bm : Nat} {L : List GN} {O : List Int} {ad ao av : Option Addr} {cn co cv : Nat}
theorem tw_push {x : GN} (hbm : w3.heap.size ≤ bm) (hm : wr.heap[bm]? = some (.cells #[.int .i64 0, .slice ad L.length cn, .slice ao O.length co] 48 (0, 0))) (hN : wr.ownsRow w3.heap.size 52 4 (.slice ad L.length cn) L.length (nodeVals L)) (hO : wr.ownsRow w3.heap.size 3 1 (.slice ao O.length co) O.length (O.map (.int .i64))) (hbe : Below w3.heap.size w3 wr)
    (hb : Below wr.heap.size wr W1) (hg : W1.grownBy wb (Value.slice ad L.length cn).ownBlock) (hown : wb.ownsRow w3.heap.size 52 4 (.slice av (L.length + 1) cv) (L.length + 1) (nodeVals L ++ x.cells.toList)) :
    wb.heap[bm]? = some (.cells #[.int .i64 0, .slice ad L.length cn, .slice ao O.length co] 48 (0, 0)) ∧ TwAt w3 NN bm (L ++ [x]) O (wb.setCell ⟨bm, 1, none⟩ (.slice av (L.length + 1) cv)) := by
  have hm1 := (hb.block bm (boxLt hm)).trans hm
  have hN1 := rowOld hN hb
  have hO1 := rowOld hO hb
  have hmb := boxCross hg hN1 hm1 (by decide)
  have hOb := rowCross hg hN1 hO1 (by decide)
  exact ⟨hmb, TwAt.addN1 (N := NN) hbm hmb hown hOb ((hbe.trans (hb.mono hbe.size)).grown hg (Nat.le_trans hbe.size hb.size) (fun k hk => (hN1.lt k hk).1))⟩
theorem tw_pushO {x : Int} (hbm : w3.heap.size ≤ bm) (hm : wr.heap[bm]? = some (.cells #[.int .i64 0, .slice ad L.length cn, .slice ao O.length co] 48 (0, 0))) (hN : wr.ownsRow w3.heap.size 52 4 (.slice ad L.length cn) L.length (nodeVals L)) (hO : wr.ownsRow w3.heap.size 3 1 (.slice ao O.length co) O.length (O.map (.int .i64))) (hbe : Below w3.heap.size w3 wr)
    (hb : Below wr.heap.size wr W1) (hg : W1.grownBy wb (Value.slice ao O.length co).ownBlock) (hown : wb.ownsRow w3.heap.size 3 1 (.slice av (O.length + 1) cv) (O.length + 1) (O.map (.int .i64) ++ [.int .i64 x])) :
    wb.heap[bm]? = some (.cells #[.int .i64 0, .slice ad L.length cn, .slice ao O.length co] 48 (0, 0)) ∧ TwAt w3 NN bm L (O ++ [x]) (wb.setCell ⟨bm, 2, none⟩ (.slice av (O.length + 1) cv)) := by
  have hm1 := (hb.block bm (boxLt hm)).trans hm
  have hN1 := rowOld hN hb
  have hO1 := rowOld hO hb
  have hmb := boxCross hg hO1 hm1 (by decide)
  have hNb := rowCross hg hO1 hN1 (by decide)
  exact ⟨hmb, TwAt.addO (N := NN) hbm hmb hNb hown ((hbe.trans (hb.mono hbe.size)).grown hg (Nat.le_trans hbe.size hb.size) (fun k hk => (hO1.lt k hk).1))⟩
end
theorem tw_start (w : World) : TwAt w NN (w.heap.size + 1) [⟨1, 0, 0, 0⟩, ⟨2, 0, 0, 0⟩] [] ((w.alloc (.cells #[.int .i64 1, .int .i64 0, .int .i64 0, .int .i64 0, .int .i64 2, .int .i64 0, .int .i64 0, .int .i64 0] 52)).alloc (.cells #[.int .i64 0, .slice (some ⟨w.heap.size, 0, none⟩) 2 2, .slice none 0 0] 48)) := by
  have hb1 : Below w.heap.size w (w.alloc (.cells #[.int .i64 1, .int .i64 0, .int .i64 0, .int .i64 0, .int .i64 2, .int .i64 0, .int .i64 0, .int .i64 0] 52)) := (Below.refl _ _).alloc (Nat.le_refl _) _
  have hrow := World.ownsRow_lit (base := w.heap.size) (e := 52) (size := 4) w #[.int .i64 1, .int .i64 0, .int .i64 0, .int .i64 0, .int .i64 2, .int .i64 0, .int .i64 0, .int .i64 0] 2 (Nat.le_refl _) (by unfold maxLen; decide) (by simp)
  have hbox := alloc_at (w.alloc (.cells #[.int .i64 1, .int .i64 0, .int .i64 0, .int .i64 0, .int .i64 2, .int .i64 0, .int .i64 0, .int .i64 0] 52)) (.cells #[.int .i64 0, .slice (some ⟨w.heap.size, 0, none⟩) 2 2, .slice none 0 0] 48)
  rw [World.size_alloc] at hbox
  exact TwAt.of (N := NN) (L := [⟨1, 0, 0, 0⟩, ⟨2, 0, 0, 0⟩]) (O := []) (by omega) hbox (hrow.alloc _) (World.ownsRow_nil _ _ _ _) (hb1.alloc (by simp) _)
/-- The net in the making. -/
def KnRel (l : List GN) (w3 : World) (bm : Nat) (v : Value) (wr : World) : Prop := ∃ i : Nat, i ≤ l.length ∧ v = .int .i64 i ∧ TwAt w3 NN bm (knN l i) [] wr
def KoRel (L : List GN) (outs : List Int) (w3 : World) (bm : Nat) (v : Value) (wr : World) : Prop := ∃ k : Nat, k ≤ outs.length ∧ v = .int .i64 k ∧ TwAt w3 NN bm L (knO outs L.length k) wr

section
variable (B : Nat) (al : Option Addr) (cl : Nat) (l : List GN) (ao : Option Addr) (co : Nat) (outs : List Int) (w : World)
set_option maxRecDepth 100000 in
theorem known_long (h : 60 < l.length ∨ 20 < outs.length) : Calls Try.prog 11 #[.slice al l.length cl, .slice ao outs.length co] w (Yes w) := by
  generalize l.length = n at *
  generalize outs.length = m at *
  by_cases h1 : 60 < n
  · have h1I : (60 : Int) < (n : Int) := by omega
    clear h
    go_enter Try.func11, Try.ntmps11
    go_wp2
    go_ret
    exact ⟨rfl, Below.refl _ _⟩
  · have h1I : decide ((60 : Int) < (n : Int)) = false := decide_eq_false (by omega)
    have h2I : (20 : Int) < (m : Int) := by omega
    clear h h1
    go_enter Try.func11, Try.ntmps11
    go_wp2
    go_ret
    exact ⟨rfl, Below.refl _ _⟩
set_option maxRecDepth 100000 in
set_option maxHeartbeats 12800000 in
theorem known_short (h1 : l.length ≤ 60) (h2 : outs.length ≤ 20) (hl : Cells B w al (l.length * 4) (nodeCell l)) (ho : Cells B w ao outs.length (fun i => .int .i64 (outs.getD i 0))) (hB : B ≤ w.heap.size) : Calls Try.prog 11 #[.slice al l.length cl, .slice ao outs.length co] w (Yes w) := by
  obtain ⟨i0, hi, hz0, hz1, hz2⟩ := info_parts Try.infoNode
  obtain ⟨i1, hi1, hy0, hy1, hy2⟩ := info_parts Try.infoInt
  have HL := hid hl
  have HO := hid ho
  have h1I : decide ((60 : Int) < (l.length : Int)) = false := decide_eq_false (by omega)
  have h2I : decide ((20 : Int) < (outs.length : Int)) = false := decide_eq_false (by omega)
  clear hl ho
  go_enter Try.func11, Try.ntmps11
  go_upto_region 6 with (go_at_call 37; (with_reducible refine (cleaned_any w).mono ?_); rintro e w1 ⟨rfl, hbel⟩; have HB1 := hid hbel; clear hbel)
  have HT := hid (tw_start w1)
  have hB1 := HB1.out.size
  obtain ⟨bm, hbm⟩ : ∃ z, w1.heap.size + 1 = z := ⟨_, rfl⟩
  rw [hbm] at HT ⊢
  generalize (w1.alloc (.cells #[.int .i64 1, .int .i64 0, .int .i64 0, .int .i64 0, .int .i64 2, .int .i64 0, .int .i64 0, .int .i64 0] 52)).alloc (.cells #[.int .i64 0, .slice (some ⟨w1.heap.size, 0, none⟩) 2 2, .slice none 0 0] 48) = w2 at *
  have hbm1 : w1.heap.size ≤ bm := by omega
  clear hbm
  go_wp2_with fail
  go_loopw [6] (fun v wr => KnRel l w1 bm v wr) (fun v _ => l.length - (intOf v).toNat)
  case atStart => exact ⟨0, Nat.zero_le _, rfl, HT.out⟩
  case round =>
    obtain ⟨i, hle, rfl, htw⟩ := hrel
    by_cases hlt : i < l.length
    · obtain ⟨ad, cn, ao', co', hbm, hm, hN, hOo, _, _, _, hbe⟩ := htw
      obtain ⟨bl, ol, rfl, hbl, hcl⟩ := HL.out.at (by omega)
      have hblw : bl < w1.heap.size := by omega
      have d0 := (hbe.cell (p := ⟨bl, ol + i * 4, none⟩) hblw).trans ((HB1.out.cell (p := ⟨bl, ol + i * 4, none⟩) (by show bl < _; omega)).trans (hcl (i * 4) (by omega)))
      have d1 := (hbe.cell (p := ⟨bl, ol + i * 4 + 1, none⟩) hblw).trans ((HB1.out.cell (p := ⟨bl, ol + i * 4 + 1, none⟩) (by show bl < _; omega)).trans (hcl (i * 4 + 1) (by omega)))
      have d2 := (hbe.cell (p := ⟨bl, ol + i * 4 + 2, none⟩) hblw).trans ((HB1.out.cell (p := ⟨bl, ol + i * 4 + 2, none⟩) (by show bl < _; omega)).trans (hcl (i * 4 + 2) (by omega)))
      have e0 : nodeCell l (i * 4) = .int .i64 (l.getD i GN.zero).op := by simp [nodeCell, GN.cell]
      have e1 : nodeCell l (i * 4 + 1) = .int .i64 (l.getD i GN.zero).a := by
        have q1 : (i * 4 + 1) / 4 = i := by omega
        have q2 : (i * 4 + 1) % 4 = 1 := by omega
        simp [nodeCell, q1, q2, GN.cell]
      have e2 : nodeCell l (i * 4 + 2) = .int .i64 (l.getD i GN.zero).b := by
        have q1 : (i * 4 + 2) / 4 = i := by omega
        have q2 : (i * 4 + 2) % 4 = 2 := by omega
        simp [nodeCell, q1, q2, GN.cell]
      rw [e0] at d0
      rw [e1] at d1
      rw [e2] at d2
      have hlen := knN_len l i
      obtain ⟨x, hx⟩ : ∃ x, l.getD i GN.zero = x := ⟨_, rfl⟩
      rw [hx] at d0 d1 d2
      obtain ⟨xo, xa, xb, xn⟩ := x
      simp only at d0 d1 d2
      obtain ⟨L, hL⟩ : ∃ L, knN l i = L := ⟨_, rfl⟩
      rw [hL] at hm hN hlen
      obtain ⟨n, hn⟩ : ∃ n, L.length = n := ⟨_, rfl⟩
      have hmc : wr.heap[bm]? = some (.cells #[.int .i64 0, .slice ad n cn, .slice ao' 0 co'] 48 (0, 0)) := by rw [← hn]; exact hm
      have c1 : wr.cell? ⟨bm, 1, none⟩ = some (.slice ad n cn) := (cell_block hmc 1).trans rfl
      have hbmlt := boxLt hmc
      have hnn : 0 < (n : Int) ∧ (n : Int) ≤ 1000000 := by omega
      have b4 := vpick_bd xo 4 (by omega)
      obtain ⟨p0, hp0⟩ : ∃ p, vpick xo 4 = p := ⟨_, rfl⟩
      obtain ⟨p1, hp1⟩ : ∃ p, vpick xa n = p := ⟨_, rfl⟩
      obtain ⟨p2, hp2⟩ : ∃ p, vpick xb n = p := ⟨_, rfl⟩
      rw [hp0] at b4
      have hix := index_four p0 b4
      obtain ⟨q, hq⟩ : ∃ q, gateOf p0 = q := ⟨_, rfl⟩
      rw [hq] at hix
      have HX := hid hx
      have HM := hid hm
      have HN := hid hN
      have HOo := hid hOo
      have HBE := hid hbe
      have HL2 := hid hL
      have HNN := hid hn
      have HLEN := hid hlen
      have P0 := hid hp0
      have P1 := hid hp1
      have P2 := hid hp2
      have HQ := hid hq
      have HCL := hid hcl
      have hiI : ((i : Nat) : Int) < (l.length : Int) := by omega
      have hblr : bl < wr.heap.size := Nat.lt_of_lt_of_le hblw hbe.size
      clear hx hm hN hOo hbe hL hlen hmc hp0 hp1 hp2 hq hcl e0 e1 e2 hn
      go_upto_region 10 with fail
      refine wpEnds.begin (fun w' => w'.cell? ⟨bm, 1, none⟩ = some (.slice ad n cn) ∧ w'.cell? ⟨bl, ol + i * 4, none⟩ = some (.int .i64 xo) ∧ w'.cell? ⟨bl, ol + i * 4 + 1, none⟩ = some (.int .i64 xa) ∧ w'.cell? ⟨bl, ol + i * 4 + 2, none⟩ = some (.int .i64 xb)) 28 (by kernel_rfl) ⟨c1, d0, d1, d2⟩ (fun hHeld => ?_)
      refine wpEnds.take 0 29 (v := ?va0) rfl (by kernel_rfl) (by kernel_rfl) (by kernel_rfl) (by kernel_rfl) (by kernel_rfl) (fun _ _ _ h => h) (by rfl) hHeld (fun w' hSw => ?hya0) ?resta0
      case hya0 => ((try dsimp only at hSw); go_simp; try with_reducible rfl)
      case resta0 =>
      (try simp only [Act.put, List.setIfInBounds_toArray, List.set_cons_zero, List.set_cons_succ])
      refine wpEnds.take 1 29 (v := ?va1) rfl (by kernel_rfl) (by kernel_rfl) (by kernel_rfl) (by kernel_rfl) (by kernel_rfl) (fun _ _ _ h => h) (by rfl) hHeld (fun w' hSw => ?hya1) ?resta1
      case hya1 => ((try dsimp only at hSw); go_simp; try with_reducible rfl)
      case resta1 =>
      (try simp only [Act.put, List.setIfInBounds_toArray, List.set_cons_zero, List.set_cons_succ])
      refine wpEnds.take 2 29 (v := ?va2) rfl (by kernel_rfl) (by kernel_rfl) (by kernel_rfl) (by kernel_rfl) (by kernel_rfl) (fun _ _ _ h => h) (by rfl) hHeld (fun w' hSw => ?hya2) ?resta2
      case hya2 => ((try dsimp only at hSw); go_simp; try with_reducible rfl)
      case resta2 =>
      (try simp only [Act.put, List.setIfInBounds_toArray, List.set_cons_zero, List.set_cons_succ])
      refine wpEnds.take 3 29 (v := ?va3) rfl (by kernel_rfl) (by kernel_rfl) (by kernel_rfl) (by kernel_rfl) (by kernel_rfl) (fun _ _ _ h => h) (by rfl) hHeld (fun w' hSw => ?hya3) ?resta3
      case hya3 => ((try dsimp only at hSw); go_simp; try with_reducible rfl)
      case resta3 =>
      (try simp only [Act.put, List.setIfInBounds_toArray, List.set_cons_zero, List.set_cons_succ])
      refine wpEnds.take 4 29 (v := ?va4) rfl (by kernel_rfl) (by kernel_rfl) (by kernel_rfl) (by kernel_rfl) (by kernel_rfl) (fun _ _ _ h => h) (by rfl) hHeld (fun w' hSw => ?hya4) ?resta4
      case hya4 => ((try dsimp only at hSw); go_simp; try with_reducible rfl)
      case resta4 =>
      (try simp only [Act.put, List.setIfInBounds_toArray, List.set_cons_zero, List.set_cons_succ])
      refine wpEnds.take 5 29 (v := ?va5) rfl (by kernel_rfl) (by kernel_rfl) (by kernel_rfl) (by kernel_rfl) (by kernel_rfl) (fun _ _ _ h => h) (by rfl) hHeld (fun w' hSw => ?hya5) ?resta5
      case hya5 => ((try dsimp only at hSw); go_simp; try with_reducible rfl)
      case resta5 =>
      (try simp only [Act.put, List.setIfInBounds_toArray, List.set_cons_zero, List.set_cons_succ])
      refine wpEnds.take 6 29 (v := ?va6) rfl (by kernel_rfl) (by kernel_rfl) (by kernel_rfl) (by kernel_rfl) (by kernel_rfl) (fun _ _ _ h => h) (by rfl) hHeld (fun w' hSw => ?hya6) ?resta6
      case hya6 => ((try dsimp only at hSw); go_simp; try with_reducible rfl)
      case resta6 =>
      (try simp only [Act.put, List.setIfInBounds_toArray, List.set_cons_zero, List.set_cons_succ])
      refine wpEnds.take 7 29 (v := ?va7) rfl (by kernel_rfl) (by kernel_rfl) (by kernel_rfl) (by kernel_rfl) (by kernel_rfl) (fun _ _ _ h => h) (by rfl) hHeld (fun w' hSw => ?hya7) ?resta7
      case hya7 => ((try dsimp only at hSw); go_simp; try with_reducible rfl)
      case resta7 =>
      (try simp only [Act.put, List.setIfInBounds_toArray, List.set_cons_zero, List.set_cons_succ])
      refine wpEnds.call 8 29 (v := (.int .i64 p0)) rfl (by kernel_rfl) (by kernel_rfl) (by kernel_rfl) (by kernel_rfl) (by kernel_rfl) (fun _ _ _ h => h) (by rfl) hHeld 17 #[.int .i64 xo, .int .i64 4] (fun w' hSw => ?hea8) (fun w' hSw => ?hca8) ?resta8
      case hea8 => (go_simp; try with_reducible rfl)
      case hca8 => exact pick_quiet xo 4 p0 (by decide) P0 w'
      case resta8 =>
      (try simp only [Act.put, List.setIfInBounds_toArray, List.set_cons_zero, List.set_cons_succ])
      refine wpEnds.take 9 29 (v := ?va9) rfl (by kernel_rfl) (by kernel_rfl) (by kernel_rfl) (by kernel_rfl) (by kernel_rfl) (fun _ _ _ h => h) (by rfl) hHeld (fun w' hSw => ?hya9) ?resta9
      case hya9 => ((try dsimp only at hSw); go_simp; try with_reducible rfl)
      case resta9 =>
      (try simp only [Act.put, List.setIfInBounds_toArray, List.set_cons_zero, List.set_cons_succ])
      refine wpEnds.take 10 29 (v := ?va10) rfl (by kernel_rfl) (by kernel_rfl) (by kernel_rfl) (by kernel_rfl) (by kernel_rfl) (fun _ _ _ h => h) (by rfl) hHeld (fun w' hSw => ?hya10) ?resta10
      case hya10 => ((try dsimp only at hSw); go_simp; try with_reducible rfl)
      case resta10 =>
      (try simp only [Act.put, List.setIfInBounds_toArray, List.set_cons_zero, List.set_cons_succ])
      refine wpEnds.take 11 29 (v := ?va11) rfl (by kernel_rfl) (by kernel_rfl) (by kernel_rfl) (by kernel_rfl) (by kernel_rfl) (fun _ _ _ h => h) (by rfl) hHeld (fun w' hSw => ?hya11) ?resta11
      case hya11 => ((try dsimp only at hSw); go_simp; try with_reducible rfl)
      case resta11 =>
      (try simp only [Act.put, List.setIfInBounds_toArray, List.set_cons_zero, List.set_cons_succ])
      refine wpEnds.take 12 29 (v := ?va12) rfl (by kernel_rfl) (by kernel_rfl) (by kernel_rfl) (by kernel_rfl) (by kernel_rfl) (fun _ _ _ h => h) (by rfl) hHeld (fun w' hSw => ?hya12) ?resta12
      case hya12 => ((try dsimp only at hSw); go_simp; try with_reducible rfl)
      case resta12 =>
      (try simp only [Act.put, List.setIfInBounds_toArray, List.set_cons_zero, List.set_cons_succ])
      refine wpEnds.take 13 29 (v := ?va13) rfl (by kernel_rfl) (by kernel_rfl) (by kernel_rfl) (by kernel_rfl) (by kernel_rfl) (fun _ _ _ h => h) (by rfl) hHeld (fun w' hSw => ?hya13) ?resta13
      case hya13 => ((try dsimp only at hSw); go_simp; try with_reducible rfl)
      case resta13 =>
      (try simp only [Act.put, List.setIfInBounds_toArray, List.set_cons_zero, List.set_cons_succ])
      refine wpEnds.take 14 29 (v := ?va14) rfl (by kernel_rfl) (by kernel_rfl) (by kernel_rfl) (by kernel_rfl) (by kernel_rfl) (fun _ _ _ h => h) (by rfl) hHeld (fun w' hSw => ?hya14) ?resta14
      case hya14 => ((try dsimp only at hSw); go_simp; try with_reducible rfl)
      case resta14 =>
      (try simp only [Act.put, List.setIfInBounds_toArray, List.set_cons_zero, List.set_cons_succ])
      refine wpEnds.take 15 29 (v := ?va15) rfl (by kernel_rfl) (by kernel_rfl) (by kernel_rfl) (by kernel_rfl) (by kernel_rfl) (fun _ _ _ h => h) (by rfl) hHeld (fun w' hSw => ?hya15) ?resta15
      case hya15 => ((try dsimp only at hSw); go_simp; try with_reducible rfl)
      case resta15 =>
      (try simp only [Act.put, List.setIfInBounds_toArray, List.set_cons_zero, List.set_cons_succ])
      refine wpEnds.call 16 29 (v := (.int .i64 p1)) rfl (by kernel_rfl) (by kernel_rfl) (by kernel_rfl) (by kernel_rfl) (by kernel_rfl) (fun _ _ _ h => h) (by rfl) hHeld 17 #[.int .i64 xa, .int .i64 (n : Nat)] (fun w' hSw => ?hea16) (fun w' hSw => ?hca16) ?resta16
      case hea16 => (go_simp; try with_reducible rfl)
      case hca16 => exact pick_quiet xa n p1 hnn P1 w'
      case resta16 =>
      (try simp only [Act.put, List.setIfInBounds_toArray, List.set_cons_zero, List.set_cons_succ])
      refine wpEnds.take 17 29 (v := ?va17) rfl (by kernel_rfl) (by kernel_rfl) (by kernel_rfl) (by kernel_rfl) (by kernel_rfl) (fun _ _ _ h => h) (by rfl) hHeld (fun w' hSw => ?hya17) ?resta17
      case hya17 => ((try dsimp only at hSw); go_simp; try with_reducible rfl)
      case resta17 =>
      (try simp only [Act.put, List.setIfInBounds_toArray, List.set_cons_zero, List.set_cons_succ])
      refine wpEnds.take 18 29 (v := ?va18) rfl (by kernel_rfl) (by kernel_rfl) (by kernel_rfl) (by kernel_rfl) (by kernel_rfl) (fun _ _ _ h => h) (by rfl) hHeld (fun w' hSw => ?hya18) ?resta18
      case hya18 => ((try dsimp only at hSw); go_simp; try with_reducible rfl)
      case resta18 =>
      (try simp only [Act.put, List.setIfInBounds_toArray, List.set_cons_zero, List.set_cons_succ])
      refine wpEnds.take 19 29 (v := ?va19) rfl (by kernel_rfl) (by kernel_rfl) (by kernel_rfl) (by kernel_rfl) (by kernel_rfl) (fun _ _ _ h => h) (by rfl) hHeld (fun w' hSw => ?hya19) ?resta19
      case hya19 => ((try dsimp only at hSw); go_simp; try with_reducible rfl)
      case resta19 =>
      (try simp only [Act.put, List.setIfInBounds_toArray, List.set_cons_zero, List.set_cons_succ])
      refine wpEnds.take 20 29 (v := ?va20) rfl (by kernel_rfl) (by kernel_rfl) (by kernel_rfl) (by kernel_rfl) (by kernel_rfl) (fun _ _ _ h => h) (by rfl) hHeld (fun w' hSw => ?hya20) ?resta20
      case hya20 => ((try dsimp only at hSw); go_simp; try with_reducible rfl)
      case resta20 =>
      (try simp only [Act.put, List.setIfInBounds_toArray, List.set_cons_zero, List.set_cons_succ])
      refine wpEnds.take 21 29 (v := ?va21) rfl (by kernel_rfl) (by kernel_rfl) (by kernel_rfl) (by kernel_rfl) (by kernel_rfl) (fun _ _ _ h => h) (by rfl) hHeld (fun w' hSw => ?hya21) ?resta21
      case hya21 => ((try dsimp only at hSw); go_simp; try with_reducible rfl)
      case resta21 =>
      (try simp only [Act.put, List.setIfInBounds_toArray, List.set_cons_zero, List.set_cons_succ])
      refine wpEnds.take 22 29 (v := ?va22) rfl (by kernel_rfl) (by kernel_rfl) (by kernel_rfl) (by kernel_rfl) (by kernel_rfl) (fun _ _ _ h => h) (by rfl) hHeld (fun w' hSw => ?hya22) ?resta22
      case hya22 => ((try dsimp only at hSw); go_simp; try with_reducible rfl)
      case resta22 =>
      (try simp only [Act.put, List.setIfInBounds_toArray, List.set_cons_zero, List.set_cons_succ])
      refine wpEnds.call 23 29 (v := (.int .i64 p2)) rfl (by kernel_rfl) (by kernel_rfl) (by kernel_rfl) (by kernel_rfl) (by kernel_rfl) (fun _ _ _ h => h) (by rfl) hHeld 17 #[.int .i64 xb, .int .i64 (n : Nat)] (fun w' hSw => ?hea23) (fun w' hSw => ?hca23) ?resta23
      case hea23 => (go_simp; try with_reducible rfl)
      case hca23 => exact pick_quiet xb n p2 hnn P2 w'
      case resta23 =>
      (try simp only [Act.put, List.setIfInBounds_toArray, List.set_cons_zero, List.set_cons_succ])
      refine wpEnds.take 24 29 (v := ?va24) rfl (by kernel_rfl) (by kernel_rfl) (by kernel_rfl) (by kernel_rfl) (by kernel_rfl) (fun _ _ _ h => h) (by rfl) hHeld (fun w' hSw => ?hya24) ?resta24
      case hya24 => ((try dsimp only at hSw); go_simp; try with_reducible rfl)
      case resta24 =>
      (try simp only [Act.put, List.setIfInBounds_toArray, List.set_cons_zero, List.set_cons_succ])
      refine wpEnds.one 25 (by kernel_rfl) rfl (fun K hK => ?_)
      go_simp
      refine hK.out _ _ ⟨((mk_alloc_drew _ _).cell hbmlt).trans c1, ((mk_alloc_drew _ _).cell hblr).trans d0, ((mk_alloc_drew _ _).cell hblr).trans d1, ((mk_alloc_drew _ _).cell hblr).trans d2⟩ ?_
      clear hK K
      (try simp only [Act.put, List.setIfInBounds_toArray, List.set_cons_zero, List.set_cons_succ])
      have hN' : wr.ownsRow w1.heap.size 52 4 (.slice ad n cn) n (nodeVals L) := by have h := HN.out; rw [HNN.out] at h; exact h
      refine wpEnds.one 26 (by kernel_rfl) rfl (fun K hK => ?_)
      refine append_held (by rfl) _ _ 46 (by rfl) w1.heap.size 52 i0 _ 4 32 Try.underlying46 hi hz0 hz1 hz2 (by rfl) (by decide) (.slice ad n cn) n (nodeVals L) (by rfl) ((hN'.alloc _).drew) (some ⟨wr.heap.size, 0, none⟩) 1 1 [.int .i64 q, .int .i64 p1, .int .i64 p2, .int .i64 0] (by rfl) (by intro h; cases h) (by rfl) (by rintro ad' h j' u hj'; cases h; rw [Addr.add_at]; exact (cell_new _ _ _ _).trans (by simpa using hj')) (by simp [Value.oneCell']) (by unfold maxLen; omega) (by omega) (by have := HBE.out.size; simp; omega) ?_
      intro av1 cv1 wb HPO HRN hgb
      have P := tw_push (x := ⟨q, p1, p2, 0⟩) hbm1 HM.out HN.out HOo.out HBE.out (mk_alloc_drew wr _) (by have h := hgb.out; rw [← HNN.out] at h; exact h) (by have h := HRN.out; rw [← HNN.out] at h; exact h)
      rw [HNN.out] at P
      have cb : wb.cell? ⟨bm, 1, none⟩ = some (.slice ad n cn) := (cell_block P.1 1).trans rfl
      have hbfr := free_block P.1
      have hblt := boxLt P.1
      have HEND := hid P.2
      have hgN := HRN.out
      have hfar := hgb.out
      have hbw1 : Below w1.heap.size w1 wb := (((HBE.out.trans ((mk_alloc_drew wr _).mono HBE.out.size)).grown hfar (Nat.le_trans HBE.out.size (mk_alloc_drew wr (.cells #[.int .i64 q, .int .i64 p1, .int .i64 p2, .int .i64 0] 52)).size) (fun k hk => (hN'.lt k hk).1)))
      have g0 := (hbw1.cell (p := ⟨bl, ol + i * 4, none⟩) hblw).trans (((HBE.out.cell (p := ⟨bl, ol + i * 4, none⟩) hblw).symm).trans d0)
      have g1 := (hbw1.cell (p := ⟨bl, ol + i * 4 + 1, none⟩) hblw).trans (((HBE.out.cell (p := ⟨bl, ol + i * 4 + 1, none⟩) hblw).symm).trans d1)
      have g2 := (hbw1.cell (p := ⟨bl, ol + i * 4 + 2, none⟩) hblw).trans (((HBE.out.cell (p := ⟨bl, ol + i * 4 + 2, none⟩) hblw).symm).trans d2)
      clear P HPO HRN hgb hgN hfar
      refine hK.out _ _ ⟨cb, g0, g1, g2⟩ ?_
      clear hK K
      (try simp only [Act.put, List.setIfInBounds_toArray, List.set_cons_zero, List.set_cons_succ])
      refine wpEnds.take 27 29 (v := ?va27) rfl (by kernel_rfl) (by kernel_rfl) (by kernel_rfl) (by kernel_rfl) (by kernel_rfl) (fun _ _ _ h => h) (by rfl) ⟨cb, g0, g1, g2⟩ (fun w' hSw => ?hya27) ?resta27
      case hya27 => ((try dsimp only at hSw); go_simp; try with_reducible rfl)
      case resta27 =>
      (try simp only [Act.put, List.setIfInBounds_toArray, List.set_cons_zero, List.set_cons_succ])
      refine wpEnds.last 28 (by kernel_rfl) (by kernel_rfl) rfl (fun K hK => ?_)
      go_simp
      refine hK.out _ _ ?_
      clear hK K
      (try simp only [Act.put, List.setIfInBounds_toArray, List.set_cons_zero, List.set_cons_succ])
      go_wp2_with fail
      go_roundw
      case rel =>
        refine ⟨i + 1, hlt, by go_num, ?_⟩
        have h := HEND.out
        have e : knN l (i + 1) = L ++ [⟨q, p1, p2, 0⟩] := by
          show knN l i ++ [knX (l.getD i GN.zero) (knN l i).length] = _
          rw [HL2.out, HX.out, HNN.out]
          unfold knX
          simp only
          rw [P0.out, P1.out, P2.out, HQ.out]
        rw [e]
        exact h
      case measure => simp [intOf]; omega
    · obtain rfl : i = l.length := by omega
      have HT2 := hid htw
      have hlenL := knN_len l l.length
      have HLENL := hid hlenL
      obtain ⟨L, hL⟩ : ∃ L, knN l l.length = L := ⟨_, rfl⟩
      have HLL := hid hL
      rw [hL] at HT2
      have hL62 : L.length ≤ 62 := by rw [← hL]; omega
      have hL0 : 0 < L.length := by rw [← hL]; omega
      clear htw hlenL hL hlt hle
      obtain ⟨wo, rfl⟩ : ∃ wo : World, wo = wr := ⟨_, rfl⟩
      go_wp2_with fail
      go_loopw [8] (fun v wr => KoRel L outs w1 bm v wr) (fun v _ => outs.length - (intOf v).toNat)
      case atStart => exact ⟨0, Nat.zero_le _, rfl, HT2.out⟩
      case round =>
        obtain ⟨k, hle, rfl, htw⟩ := hrel
        by_cases hlt : k < outs.length
        · obtain ⟨ad, cn, ao', co', hbm, hm, hN, hOo, _, _, _, hbe⟩ := htw
          obtain ⟨bo, oo, rfl, hbo, hco⟩ := HO.out.at (by omega)
          have hbow : bo < w1.heap.size := by omega
          have d0 := (hbe.cell (p := ⟨bo, oo + k, none⟩) hbow).trans ((HB1.out.cell (p := ⟨bo, oo + k, none⟩) (by show bo < _; omega)).trans (hco k hlt))
          obtain ⟨z, hz⟩ : ∃ z, outs.getD k 0 = z := ⟨_, rfl⟩
          rw [hz] at d0
          have hkl := knO_len outs L.length k (Nat.le_of_lt hlt)
          obtain ⟨O, hOO⟩ : ∃ O, knO outs L.length k = O := ⟨_, rfl⟩
          rw [hOO] at hm hOo hkl
          obtain ⟨n, hn⟩ : ∃ n, L.length = n := ⟨_, rfl⟩
          have hmc : wr.heap[bm]? = some (.cells #[.int .i64 0, .slice ad n cn, .slice ao' k co'] 48 (0, 0)) := by rw [← hn]; rw [hkl] at hm; exact hm
          have c1 : wr.cell? ⟨bm, 1, none⟩ = some (.slice ad n cn) := (cell_block hmc 1).trans rfl
          have c2 : wr.cell? ⟨bm, 2, none⟩ = some (.slice ao' k co') := (cell_block hmc 2).trans rfl
          have hbmlt := boxLt hmc
          have hnn : 0 < (n : Int) ∧ (n : Int) ≤ 1000000 := by omega
          obtain ⟨p1, hp1⟩ : ∃ p, vpick z n = p := ⟨_, rfl⟩
          have HZ := hid hz
          have HM := hid hm
          have HN := hid hN
          have HOo := hid hOo
          have HBE := hid hbe
          have HNN := hid hn
          have HKL := hid hkl
          have HOO := hid hOO
          have P1 := hid hp1
          have HCO := hid hco
          have hkI : ((k : Nat) : Int) < (outs.length : Int) := by omega
          have hbor : bo < wr.heap.size := Nat.lt_of_lt_of_le hbow hbe.size
          clear hz hm hN hOo hbe hkl hOO hmc hp1 hco hn
          go_upto_region 14 with fail
          refine wpEnds.begin (fun w' => w'.cell? ⟨bm, 1, none⟩ = some (.slice ad n cn) ∧ w'.cell? ⟨bm, 2, none⟩ = some (.slice ao' k co') ∧ w'.cell? ⟨bo, oo + k, none⟩ = some (.int .i64 z)) 13 (by kernel_rfl) ⟨c1, c2, d0⟩ (fun hHeld => ?_)
          refine wpEnds.take 0 14 (v := ?vb0) rfl (by kernel_rfl) (by kernel_rfl) (by kernel_rfl) (by kernel_rfl) (by kernel_rfl) (fun _ _ _ h => h) (by rfl) hHeld (fun w' hSw => ?hyb0) ?restb0
          case hyb0 => ((try dsimp only at hSw); go_simp; try with_reducible rfl)
          case restb0 =>
          (try simp only [Act.put, List.setIfInBounds_toArray, List.set_cons_zero, List.set_cons_succ])
          refine wpEnds.take 1 14 (v := ?vb1) rfl (by kernel_rfl) (by kernel_rfl) (by kernel_rfl) (by kernel_rfl) (by kernel_rfl) (fun _ _ _ h => h) (by rfl) hHeld (fun w' hSw => ?hyb1) ?restb1
          case hyb1 => ((try dsimp only at hSw); go_simp; try with_reducible rfl)
          case restb1 =>
          (try simp only [Act.put, List.setIfInBounds_toArray, List.set_cons_zero, List.set_cons_succ])
          refine wpEnds.take 2 14 (v := ?vb2) rfl (by kernel_rfl) (by kernel_rfl) (by kernel_rfl) (by kernel_rfl) (by kernel_rfl) (fun _ _ _ h => h) (by rfl) hHeld (fun w' hSw => ?hyb2) ?restb2
          case hyb2 => ((try dsimp only at hSw); go_simp; try with_reducible rfl)
          case restb2 =>
          (try simp only [Act.put, List.setIfInBounds_toArray, List.set_cons_zero, List.set_cons_succ])
          refine wpEnds.take 3 14 (v := ?vb3) rfl (by kernel_rfl) (by kernel_rfl) (by kernel_rfl) (by kernel_rfl) (by kernel_rfl) (fun _ _ _ h => h) (by rfl) hHeld (fun w' hSw => ?hyb3) ?restb3
          case hyb3 => ((try dsimp only at hSw); go_simp; try with_reducible rfl)
          case restb3 =>
          (try simp only [Act.put, List.setIfInBounds_toArray, List.set_cons_zero, List.set_cons_succ])
          refine wpEnds.take 4 14 (v := ?vb4) rfl (by kernel_rfl) (by kernel_rfl) (by kernel_rfl) (by kernel_rfl) (by kernel_rfl) (fun _ _ _ h => h) (by rfl) hHeld (fun w' hSw => ?hyb4) ?restb4
          case hyb4 => ((try dsimp only at hSw); go_simp; try with_reducible rfl)
          case restb4 =>
          (try simp only [Act.put, List.setIfInBounds_toArray, List.set_cons_zero, List.set_cons_succ])
          refine wpEnds.take 5 14 (v := ?vb5) rfl (by kernel_rfl) (by kernel_rfl) (by kernel_rfl) (by kernel_rfl) (by kernel_rfl) (fun _ _ _ h => h) (by rfl) hHeld (fun w' hSw => ?hyb5) ?restb5
          case hyb5 => ((try dsimp only at hSw); go_simp; try with_reducible rfl)
          case restb5 =>
          (try simp only [Act.put, List.setIfInBounds_toArray, List.set_cons_zero, List.set_cons_succ])
          refine wpEnds.take 6 14 (v := ?vb6) rfl (by kernel_rfl) (by kernel_rfl) (by kernel_rfl) (by kernel_rfl) (by kernel_rfl) (fun _ _ _ h => h) (by rfl) hHeld (fun w' hSw => ?hyb6) ?restb6
          case hyb6 => ((try dsimp only at hSw); go_simp; try with_reducible rfl)
          case restb6 =>
          (try simp only [Act.put, List.setIfInBounds_toArray, List.set_cons_zero, List.set_cons_succ])
          refine wpEnds.take 7 14 (v := ?vb7) rfl (by kernel_rfl) (by kernel_rfl) (by kernel_rfl) (by kernel_rfl) (by kernel_rfl) (fun _ _ _ h => h) (by rfl) hHeld (fun w' hSw => ?hyb7) ?restb7
          case hyb7 => ((try dsimp only at hSw); go_simp; try with_reducible rfl)
          case restb7 =>
          (try simp only [Act.put, List.setIfInBounds_toArray, List.set_cons_zero, List.set_cons_succ])
          refine wpEnds.take 8 14 (v := ?vb8) rfl (by kernel_rfl) (by kernel_rfl) (by kernel_rfl) (by kernel_rfl) (by kernel_rfl) (fun _ _ _ h => h) (by rfl) hHeld (fun w' hSw => ?hyb8) ?restb8
          case hyb8 => ((try dsimp only at hSw); go_simp; try with_reducible rfl)
          case restb8 =>
          (try simp only [Act.put, List.setIfInBounds_toArray, List.set_cons_zero, List.set_cons_succ])
          refine wpEnds.call 9 14 (v := (.int .i64 p1)) rfl (by kernel_rfl) (by kernel_rfl) (by kernel_rfl) (by kernel_rfl) (by kernel_rfl) (fun _ _ _ h => h) (by rfl) hHeld 17 #[.int .i64 z, .int .i64 (n : Nat)] (fun w' hSw => ?heb9) (fun w' hSw => ?hcb9) ?restb9
          case heb9 => (go_simp; try with_reducible rfl)
          case hcb9 => exact pick_quiet z n p1 hnn P1 w'
          case restb9 =>
          (try simp only [Act.put, List.setIfInBounds_toArray, List.set_cons_zero, List.set_cons_succ])
          refine wpEnds.one 10 (by kernel_rfl) rfl (fun K hK => ?_)
          go_simp
          refine hK.out _ _ ⟨((mk_alloc_drew _ _).cell hbmlt).trans c1, ((mk_alloc_drew _ _).cell hbmlt).trans c2, ((mk_alloc_drew _ _).cell hbor).trans d0⟩ ?_
          clear hK K
          (try simp only [Act.put, List.setIfInBounds_toArray, List.set_cons_zero, List.set_cons_succ])
          have hO' : wr.ownsRow w1.heap.size 3 1 (.slice ao' k co') k (O.map (.int .i64)) := by have h := HOo.out; rw [HKL.out] at h; exact h
          refine wpEnds.one 11 (by kernel_rfl) rfl (fun K hK => ?_)
          refine append_held (by rfl) _ _ 24 (by rfl) w1.heap.size 3 i1 _ 1 8 Try.underlying24 hi1 hy0 hy1 hy2 (by rfl) (by decide) (.slice ao' k co') k (O.map (.int .i64)) (by rfl) ((hO'.alloc _).drew) (some ⟨wr.heap.size, 0, none⟩) 1 1 [.int .i64 p1] (by rfl) (by intro h; cases h) (by rfl) (by rintro ad' h j' u hj'; cases h; rw [Addr.add_at]; exact (cell_new _ _ _ _).trans (by simpa using hj')) (by simp [Value.oneCell']) (by unfold maxLen; omega) (by omega) (by have := HBE.out.size; simp; omega) ?_
          intro av1 cv1 wb HPO HRN hgb
          have P := tw_pushO (x := p1) hbm1 HM.out HN.out HOo.out HBE.out (mk_alloc_drew wr _) (by have h := hgb.out; rw [← HKL.out] at h; exact h) (by have h := HRN.out; rw [← HKL.out] at h; exact h)
          rw [HKL.out, HNN.out] at P
          have cb1 : wb.cell? ⟨bm, 1, none⟩ = some (.slice ad n cn) := (cell_block P.1 1).trans rfl
          have cb2 : wb.cell? ⟨bm, 2, none⟩ = some (.slice ao' k co') := (cell_block P.1 2).trans rfl
          have hbfr := free_block P.1
          have hblt := boxLt P.1
          have HEND := hid P.2
          have hfar := hgb.out
          have hbw1 : Below w1.heap.size w1 wb := (((HBE.out.trans ((mk_alloc_drew wr _).mono HBE.out.size)).grown hfar (Nat.le_trans HBE.out.size (mk_alloc_drew wr (.cells #[.int .i64 p1] 3)).size) (fun k hk => (hO'.lt k hk).1)))
          have g0 := (hbw1.cell (p := ⟨bo, oo + k, none⟩) hbow).trans (((HBE.out.cell (p := ⟨bo, oo + k, none⟩) hbow).symm).trans d0)
          clear P HPO HRN hgb hfar
          refine hK.out _ _ ⟨cb1, cb2, g0⟩ ?_
          clear hK K
          (try simp only [Act.put, List.setIfInBounds_toArray, List.set_cons_zero, List.set_cons_succ])
          refine wpEnds.take 12 14 (v := ?vb12) rfl (by kernel_rfl) (by kernel_rfl) (by kernel_rfl) (by kernel_rfl) (by kernel_rfl) (fun _ _ _ h => h) (by rfl) ⟨cb1, cb2, g0⟩ (fun w' hSw => ?hyb12) ?restb12
          case hyb12 => ((try dsimp only at hSw); go_simp; try with_reducible rfl)
          case restb12 =>
          (try simp only [Act.put, List.setIfInBounds_toArray, List.set_cons_zero, List.set_cons_succ])
          refine wpEnds.last 13 (by kernel_rfl) (by kernel_rfl) rfl (fun K hK => ?_)
          go_simp
          refine hK.out _ _ ?_
          clear hK K
          (try simp only [Act.put, List.setIfInBounds_toArray, List.set_cons_zero, List.set_cons_succ])
          go_wp2_with fail
          go_roundw
          case rel =>
            refine ⟨k + 1, hlt, by go_num, ?_⟩
            have h := HEND.out
            have e : knO outs L.length (k + 1) = O ++ [p1] := by
              rw [knO_succ outs L.length hlt, HOO.out, HZ.out, HNN.out, P1.out]
            rw [e]
            exact h
          case measure => simp [intOf]; omega
        · obtain rfl : k = outs.length := by omega
          have HRN := hid (kn_right l outs h1 h2)
          have HKN := hid (kn_known l outs)
          obtain ⟨J, hJ⟩ : ∃ J, knNet l outs = J := ⟨_, rfl⟩
          have hJn : J.nodes = L := by rw [← hJ]; exact HLL.out
          have hJo : J.outs = knO outs L.length outs.length := by rw [← hJ, ← HLL.out]; rfl
          have hJg : J.given = 0 := by rw [← hJ]; rfl
          rw [hJ] at HRN HKN
          have hbe := htw.below
          have HBE := hid hbe
          have htw2 : TwAt w1 NN bm J.nodes J.outs wr := by rw [hJn, hJo]; exact htw
          obtain ⟨ad, cn, aq, cq, hbox, hrows, _, _⟩ := TwAt.rows (N := NN) (J := J) hJg htw2 (by rw [hJn]; unfold maxLen; omega) (by rw [hJo, knO_len _ _ _ (Nat.le_refl _)]; unfold maxLen; omega)
          have HNI := hid (hrows.box (Nat.le_refl _) hbox (Below.refl _ _) wr.heap.size (boxLt hbox) (Nat.le_refl _))
          clear htw htw2 hbe hbox hrows hJ hlt hle
          go_upto_region 16 with (go_at_call 40; (with_reducible refine (Clean_right _ _ _ _ _ _ J wr HNI.out (Nat.le_refl _) HRN.out).mono ?_); rintro e w3 ⟨bk, ak, ck, ak', ck', NK, rfl, hcl, hnet, hbel⟩; have HCK := hid hcl; have HNK := hid hnet; have HNJ := hid ((HNI.out.stay hbel).mono hbel.size); have HB3 := hid (HBE.out.trans (hbel.mono HBE.out.size)); clear hcl hnet hbel HNI HBE)
          have hsm := HCK.out.same HRN.out
          have HRK := hid hsm.right
          have hg0 := hid (known_clean HRN.out HKN.out HCK.out)
          obtain ⟨P, hP0, hP⟩ := hsm.sim
          have HPO := hid (hP _ _ [] hP0).1
          clear hsm hP0 hP
          go_upto_region 18 with (first
            | (go_at_call 32; (with_reducible refine (Gates_any _ _ _ _ _ _ NK w3 HNK.out (Nat.le_refl _)).mono ?_); rintro e w4 ⟨rfl, hbel⟩; rw [hg0.out]; have HNK4 := hid ((HNK.out.stay hbel).mono hbel.size); have HNJ4 := hid ((HNJ.out.stay hbel).mono hbel.size); have HB4 := hid (HB3.out.trans (hbel.mono HB3.out.size)); clear hbel HNK HNJ HB3)
            | (go_at_call 30; (with_reducible refine (Right_any _ _ _ _ _ _ NK w4 HNK4.out (Nat.le_refl _)).mono ?_); rintro e w5 ⟨rfl, hbel⟩; rw [HRK.out]; have HNK5 := hid ((HNK4.out.stay hbel).mono hbel.size); have HNJ5 := hid ((HNJ4.out.stay hbel).mono hbel.size); have HB5 := hid (HB4.out.trans (hbel.mono HB4.out.size)); clear hbel HNK4 HNJ4 HB4))
          have hJ20 := (Net.right_sizes HRN.out).2.2.2
          have hK20 := (Net.right_sizes HRK.out).2.2.2
          have HO1 := hid (decide_eq_true HPO.out)
          go_wp2_with (first
            | (go_at_call 31; (with_reducible refine (New_right _ _ _ _ _ _ J w5 HNJ5.out (Nat.le_refl _) HRN.out).mono ?_); rintro e w6 ⟨sa, ra, rfl, hs, hr, hsr, hsim, hbel⟩; have ska := hid (SimOk.mk' HNJ5.out HRN.out hs hr hsr hsim hbel (Nat.le_refl _)); have HNK6 := hid (HNK5.out.stay hbel); have har := hid (show w5.heap.size ≤ sa ∧ w5.heap.size ≤ ra from ⟨hs, hr⟩); have HB6 := hid (HB5.out.trans (hbel.mono HB5.out.size)); have hz5 := HB5.out.size; have hsz6 := hbel.size; clear HNJ5 HNK5 HB5 hbel hsim hs hr hsr)
            | (go_at_call 31; (with_reducible refine (New_right _ _ _ _ _ _ NK w6 HNK6.out hsz6 HRK.out).mono ?_); rintro e w7 ⟨sb, rb, rfl, hs, hr, hsr, hsim, hbel⟩; have skb := hid (SimOk.mk' HNK6.out HRK.out hs hr hsr hsim hbel hsz6); have ska7 := hid (ska.out.stay hbel); have hab := hid (show sa < w6.heap.size ∧ ra < w6.heap.size ∧ w6.heap.size ≤ sb ∧ w6.heap.size ≤ rb from ⟨ska.out.slt, ska.out.rlt, hs, hr⟩); have HB7 := hid (HB6.out.trans (hbel.mono HB6.out.size)); have hz7 := HB7.out.size; have hsz7 := hbel.size; have hra := har.out; have hab2 := hab.out; have hz6 := HB6.out.size; clear HNK6 ska HB6 hbel hsim hs hr hsr)
            | (go_at_call 33; (with_reducible refine (sim_step_nil _ _ _ _ _ _ J w7 sa ra _ _ ska7.out).mono ?_); rintro e w8 ⟨va, rfl, hown, hrw, hg⟩; have hrb := skb.out.rlt; have skb8 := hid (skb.out.keep hg (by omega) (by omega) (by omega)); have HOWN := hid hown; have HB8 := hid (HB7.out.trans (below_of_grown hg (by omega) (by omega))); have hz8 := HB8.out.size; have hsz8 := hg.size; clear skb ska7 hown hrw hg HB7)
            | (go_at_call 33; (with_reducible refine (sim_step_nil _ _ _ _ _ _ NK w8 sb rb _ _ skb8.out).mono ?_); rintro e w9 ⟨vb, rfl, hownb, hrw, hg⟩; have HOWN9 := hid (owns_grown HOWN.out hg (by omega)); have HOWNB := hid hownb; have HB9 := hid (HB8.out.trans (below_of_grown hg (by omega) (by omega))); clear skb8 hownb hrw hg HB8 HOWN)
            | (go_at_call 27; (with_reducible refine (equal_at HOWN9.out HOWNB.out (by unfold maxLen; omega) HO1.out (Below.refl _ _)).mono ?_); rintro e w10 ⟨rfl, hbel⟩; have HB10 := hid (HB9.out.trans (hbel.mono HB9.out.size)); clear hbel HB9 HOWN9 HOWNB)
            | fail)
          go_ret
          exact ⟨rfl, HB1.out.trans (HB10.out.mono HB1.out.size)⟩
/-- All its cases. -/
theorem known_any (hl : Cells B w al (l.length * 4) (nodeCell l)) (ho : Cells B w ao outs.length (fun i => .int .i64 (outs.getD i 0))) (hB : B ≤ w.heap.size) : Calls Try.prog 11 #[.slice al l.length cl, .slice ao outs.length co] w (Yes w) := by
  by_cases h : 60 < l.length ∨ 20 < outs.length
  · exact known_long al cl l ao co outs w h
  · exact known_short B al cl l ao co outs w (by omega) (by omega) hl ho hB
end
end Go.Proofs.Ytlaeflpddehipaa
