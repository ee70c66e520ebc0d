/- The library's stable sort, of one cut, and of two that stand the wrong way round. -/
import Derived.Test.YtlaeflpddehipabPkWays
import Derived.Deep.DeepCutAuto
import Derived.BigRegion
set_option linter.unusedVariables false
set_option linter.unusedSimpArgs false
set_option linter.unusedSectionVars false
namespace Go.Proofs.Ytlaeflpddehipab
open Go.RowKit
attribute [local go_sem ↓] Go.wp_at_zero Go.wp_at_succ

theorem pk_enters2 : ∀ args w, (callFunc 33 args).run Try.prog w = .ok (.enter 33 args) w := enters_of Try.func33 (by kernel_rfl) rfl
set_option maxHeartbeats 800000 in
theorem PkLess (a1 a2 : Option Addr) (n1 n2 c1 c2 : Nat) (W : World) :
    Calls Try.prog 33 #[.agg #[.slice a1 n1 c1, .int .i64 1], .agg #[.slice a2 n2 c2, .int .i64 2]] W fun e w' => e = .returned (.int .i64 (-1)) ∧ Below W.heap.size W w' := by
  have HB := hid (show Below W.heap.size W ((W.alloc (.cells #[.slice a1 n1 c1, .int .i64 1] 83)).alloc (.cells #[.slice a2 n2 c2, .int .i64 2] 83)) from ((Below.refl _ _).alloc (Nat.le_refl _) _).alloc (by simp) _)
  go_enter Try.func33, Try.ntmps33
  go_wp2
  go_ret
  exact ⟨rfl, HB.out⟩
set_option maxHeartbeats 800000 in
theorem PkIns1 (g c : Nat) (W : World) :
    Calls Try.prog 49 #[.slice (some ⟨g, 0, none⟩) 1 c, .int .i64 0, .int .i64 1, .func (.func 33) #[] #[]] W fun e w' => e = .returned (.tuple #[]) ∧ w' = W := by
  go_enter Try.func49, Try.ntmps49
  go_wp2
  go_loopw [8] (fun v wr => wr = W ∧ v = .int .i64 1) (fun _ _ => 0)
  case atStart => exact ⟨rfl, rfl⟩
  case round =>
    obtain ⟨hwr, rfl⟩ := hrel
    subst wr
    go_wp2_with fail
    go_end0
    exact ⟨rfl, rfl⟩
/-- Two cuts in a row. -/
structure Pair (W : World) (g : Nat) (x y : Value) (d e : Int) : Prop where
  c0 : W.cell? ⟨g, 0, none⟩ = some x
  c1 : W.cell? ⟨g, 1, none⟩ = some (.int .i64 d)
  c2 : W.cell? ⟨g, 2, none⟩ = some y
  c3 : W.cell? ⟨g, 3, none⟩ = some (.int .i64 e)
theorem Pair.below {W W' : World} {g : Nat} {x y : Value} {d e : Int} (h : Pair W g x y d e) (hg : g < W.heap.size) (hb : Below W.heap.size W W') : Pair W' g x y d e :=
  ⟨(hb.cell (p := ⟨g, 0, none⟩) hg).trans h.c0, (hb.cell (p := ⟨g, 1, none⟩) hg).trans h.c1, (hb.cell (p := ⟨g, 2, none⟩) hg).trans h.c2, (hb.cell (p := ⟨g, 3, none⟩) hg).trans h.c3⟩
theorem pk_held {W w' : World} {g : Nat} {x y : Value} {d e : Int} (hg : g < W.heap.size) (h : Pair W g x y d e) (hb : Below W.heap.size W w') :
    w'.cell? ⟨g, 0, none⟩ = some x ∧ w'.cell? ⟨g, 1, none⟩ = some (.int .i64 d) ∧ w'.cell? ⟨g, 2, none⟩ = some y ∧ w'.cell? ⟨g, 3, none⟩ = some (.int .i64 e) ∧ Below W.heap.size W w' := by
  have k := h.below hg hb
  exact ⟨k.c0, k.c1, k.c2, k.c3, hb⟩
theorem pk_below {W w w' : World} (h : Below W.heap.size W w) (hb : Below w.heap.size w w') : Below W.heap.size W w' := h.trans (hb.mono h.size)
theorem pk_swap {W w9 wz : World} {g T : Nat} {cur : Array Value} {x y : Value} (hg : w9.heap[g]? = some (.cells cur T (0, 0))) (h3 : 4 ≤ cur.size) (hb : Below W.heap.size W w9)
    (hz : ((((w9.setCell ⟨g, 2, none⟩ x).setCell ⟨g, 3, none⟩ (.int .i64 2)).setCell ⟨g, 0, none⟩ y).setCell ⟨g, 1, none⟩ (.int .i64 1)).drew = wz) : Pair wz g y x 1 2 ∧ W.grownBy wz (some g) := by
  subst hz
  have h := boxSet (boxSet (boxSet (boxSet hg 2 x) 3 (.int .i64 2)) 0 y) 1 (.int .i64 1)
  have e : (((((w9.setCell ⟨g, 2, none⟩ x).setCell ⟨g, 3, none⟩ (.int .i64 2)).setCell ⟨g, 0, none⟩ y).setCell ⟨g, 1, none⟩ (.int .i64 1)).drew).heap[g]? = some (.cells ((((cur.setIfInBounds 2 x).setIfInBounds 3 (.int .i64 2)).setIfInBounds 0 y).setIfInBounds 1 (.int .i64 1)) T (0, 0)) := h
  have s0 : 0 < cur.size := by omega
  have s1 : 1 < cur.size := by omega
  have s2 : 2 < cur.size := by omega
  have s3 : 3 < cur.size := by omega
  refine ⟨⟨?_, ?_, ?_, ?_⟩, hb.os, hb.tape, hb.output, ?_, fun k hk hne => ?_⟩
  · rw [cell_block e]; simp [Array.getElem?_setIfInBounds, s0, s1, s2, s3]
  · rw [cell_block e]; simp [Array.getElem?_setIfInBounds, s0, s1, s2, s3]
  · rw [cell_block e]; simp [Array.getElem?_setIfInBounds, s0, s1, s2, s3]
  · rw [cell_block e]; simp [Array.getElem?_setIfInBounds, s0, s1, s2, s3]
  · have := hb.size
    simpa [World.setCell, World.drew] using this
  · have hk' : k ≠ g := fun e => hne (by rw [e])
    show ((((w9.setCell ⟨g, 2, none⟩ x).setCell ⟨g, 3, none⟩ (.int .i64 2)).setCell ⟨g, 0, none⟩ y).setCell ⟨g, 1, none⟩ (.int .i64 1)).heap[k]? = _
    rw [heap_setCell_other _ _ _ _ hk', heap_setCell_other _ _ _ _ hk', heap_setCell_other _ _ _ _ hk', heap_setCell_other _ _ _ _ hk']
    exact hb.block k hk
theorem pk_drewP {W : World} {g : Nat} {x y : Value} {d e : Int} (h : Pair W g x y d e) (q : Nat) : Pair (W.drewN q) g x y d e := ⟨h.c0, h.c1, h.c2, h.c3⟩
theorem pk_drewG {W w : World} {r : Option Nat} (h : W.grownBy w r) (q : Nat) : W.grownBy (w.drewN q) r := ⟨h.os, h.tape, h.output, h.size, h.block⟩
set_option maxRecDepth 100000 in
set_option maxHeartbeats 6400000 in
theorem PkIns2 (g c n1 n2 c1 c2 : Nat) (a1 a2 : Option Addr) (cur : Array Value) (W : World) (hg : W.heap[g]? = some (.cells cur 83 (0, 0))) (hP : Pair W g (.slice a1 n1 c1) (.slice a2 n2 c2) 2 1) :
    Calls Try.prog 49 #[.slice (some ⟨g, 0, none⟩) 2 c, .int .i64 0, .int .i64 2, .func (.func 33) #[] #[]] W fun e w' => e = .returned (.tuple #[]) ∧ Pair w' g (.slice a2 n2 c2) (.slice a1 n1 c1) 1 2 ∧ W.grownBy w' (some g) := by
  have HP := hid hP
  have HG := hid hg
  have hgl := boxLt hg
  clear hP hg
  go_enter Try.func49, Try.ntmps49
  go_wp2
  go_loopw [8] (fun v wr => (v = .int .i64 1 ∧ wr = W) ∨ (v = .int .i64 2 ∧ Pair wr g (.slice a2 n2 c2) (.slice a1 n1 c1) 1 2 ∧ W.grownBy wr (some g))) (fun v _ => 2 - (intOf v).toNat)
  case atStart => exact .inl ⟨rfl, rfl⟩
  case round =>
    rcases hrel with ⟨rfl, hwr⟩ | ⟨rfl, hpr, hgr⟩
    · subst wr
      go_wp2_with fail
      go_loopw [9] (fun v wr => (v = .int .i64 1 ∧ wr = W) ∨ (v = .int .i64 0 ∧ Pair wr g (.slice a2 n2 c2) (.slice a1 n1 c1) 1 2 ∧ W.grownBy wr (some g))) (fun v _ => (intOf v).toNat)
      case atStart => exact .inl ⟨rfl, rfl⟩
      case round =>
        rcases hrel with ⟨rfl, hwr⟩ | ⟨rfl, hpr, hgr⟩
        · subst wr
          have hw0 : IntKind.i64.wrap 0 = 0 := by decide
          have f0 := HP.out.c0
          have f1 := HP.out.c1
          have f2 := HP.out.c2
          have f3 := HP.out.c3
          go_upto_region 4 with fail
          refine wpEnds.begin (fun w' => w'.cell? ⟨g, 0, none⟩ = some (.slice a1 n1 c1) ∧ w'.cell? ⟨g, 1, none⟩ = some (.int .i64 2) ∧ w'.cell? ⟨g, 2, none⟩ = some (.slice a2 n2 c2) ∧ w'.cell? ⟨g, 3, none⟩ = some (.int .i64 1)) 16 (by kernel_rfl) ⟨f0, f1, f2, f3⟩ (fun hHeld => ?_)
          refine wpEnds.take 0 17 (v := ?vap0) rfl (by kernel_rfl) (by kernel_rfl) (by kernel_rfl) (by kernel_rfl) (by kernel_rfl) (fun _ _ _ h => h) (by kernel_rfl) hHeld (fun w' hSw => ?hyap0) ?restap0
          case hyap0 => ((try dsimp only at hSw); go_simp; try with_reducible rfl)
          case restap0 =>
          (try simp only [Act.put, List.setIfInBounds_toArray, List.set_cons_zero, List.set_cons_succ])
          refine wpEnds.take 1 17 (v := ?vap1) rfl (by kernel_rfl) (by kernel_rfl) (by kernel_rfl) (by kernel_rfl) (by kernel_rfl) (fun _ _ _ h => h) (by kernel_rfl) hHeld (fun w' hSw => ?hyap1) ?restap1
          case hyap1 => ((try dsimp only at hSw); go_simp; try with_reducible rfl)
          case restap1 =>
          (try simp only [Act.put, List.setIfInBounds_toArray, List.set_cons_zero, List.set_cons_succ])
          refine wpEnds.take 2 17 (v := ?vap2) rfl (by kernel_rfl) (by kernel_rfl) (by kernel_rfl) (by kernel_rfl) (by kernel_rfl) (fun _ _ _ h => h) (by kernel_rfl) hHeld (fun w' hSw => ?hyap2) ?restap2
          case hyap2 => ((try dsimp only at hSw); go_simp; try with_reducible rfl)
          case restap2 =>
          (try simp only [Act.put, List.setIfInBounds_toArray, List.set_cons_zero, List.set_cons_succ])
          refine wpEnds.take 3 17 (v := ?vap3) rfl (by kernel_rfl) (by kernel_rfl) (by kernel_rfl) (by kernel_rfl) (by kernel_rfl) (fun _ _ _ h => h) (by kernel_rfl) hHeld (fun w' hSw => ?hyap3) ?restap3
          case hyap3 => ((try dsimp only at hSw); go_simp; try with_reducible rfl)
          case restap3 =>
          (try simp only [Act.put, List.setIfInBounds_toArray, List.set_cons_zero, List.set_cons_succ])
          refine wpEnds.take 4 17 (v := ?vap4) rfl (by kernel_rfl) (by kernel_rfl) (by kernel_rfl) (by kernel_rfl) (by kernel_rfl) (fun _ _ _ h => h) (by kernel_rfl) hHeld (fun w' hSw => ?hyap4) ?restap4
          case hyap4 => ((try dsimp only at hSw); go_simp; try with_reducible rfl)
          case restap4 =>
          (try simp only [Act.put, List.setIfInBounds_toArray, List.set_cons_zero, List.set_cons_succ])
          refine wpEnds.take 5 17 (v := ?vap5) rfl (by kernel_rfl) (by kernel_rfl) (by kernel_rfl) (by kernel_rfl) (by kernel_rfl) (fun _ _ _ h => h) (by kernel_rfl) hHeld (fun w' hSw => ?hyap5) ?restap5
          case hyap5 => ((try dsimp only at hSw); go_simp; try with_reducible rfl)
          case restap5 =>
          (try simp only [Act.put, List.setIfInBounds_toArray, List.set_cons_zero, List.set_cons_succ])
          refine wpEnds.take 6 17 (v := ?vap6) rfl (by kernel_rfl) (by kernel_rfl) (by kernel_rfl) (by kernel_rfl) (by kernel_rfl) (fun _ _ _ h => h) (by kernel_rfl) hHeld (fun w' hSw => ?hyap6) ?restap6
          case hyap6 => ((try dsimp only at hSw); go_simp; try with_reducible rfl)
          case restap6 =>
          (try simp only [Act.put, List.setIfInBounds_toArray, List.set_cons_zero, List.set_cons_succ])
          refine wpEnds.take 7 17 (v := ?vap7) rfl (by kernel_rfl) (by kernel_rfl) (by kernel_rfl) (by kernel_rfl) (by kernel_rfl) (fun _ _ _ h => h) (by kernel_rfl) hHeld (fun w' hSw => ?hyap7) ?restap7
          case hyap7 => ((try dsimp only at hSw); go_simp; try with_reducible rfl)
          case restap7 =>
          (try simp only [Act.put, List.setIfInBounds_toArray, List.set_cons_zero, List.set_cons_succ])
          refine wpEnds.take 8 17 (v := ?vap8) rfl (by kernel_rfl) (by kernel_rfl) (by kernel_rfl) (by kernel_rfl) (by kernel_rfl) (fun _ _ _ h => h) (by kernel_rfl) hHeld (fun w' hSw => ?hyap8) ?restap8
          case hyap8 => ((try dsimp only at hSw); go_simp; try with_reducible rfl)
          case restap8 =>
          (try simp only [Act.put, List.setIfInBounds_toArray, List.set_cons_zero, List.set_cons_succ])
          refine wpEnds.take 9 17 (v := ?vap9) rfl (by kernel_rfl) (by kernel_rfl) (by kernel_rfl) (by kernel_rfl) (by kernel_rfl) (fun _ _ _ h => h) (by kernel_rfl) hHeld (fun w' hSw => ?hyap9) ?restap9
          case hyap9 => ((try dsimp only at hSw); go_simp; try with_reducible rfl)
          case restap9 =>
          (try simp only [Act.put, List.setIfInBounds_toArray, List.set_cons_zero, List.set_cons_succ])
          refine wpEnds.take 10 17 (v := ?vap10) rfl (by kernel_rfl) (by kernel_rfl) (by kernel_rfl) (by kernel_rfl) (by kernel_rfl) (fun _ _ _ h => h) (by kernel_rfl) hHeld (fun w' hSw => ?hyap10) ?restap10
          case hyap10 => ((try dsimp only at hSw); go_simp; try with_reducible rfl)
          case restap10 =>
          (try simp only [Act.put, List.setIfInBounds_toArray, List.set_cons_zero, List.set_cons_succ])
          refine wpEnds.take 11 17 (v := ?vap11) rfl (by kernel_rfl) (by kernel_rfl) (by kernel_rfl) (by kernel_rfl) (by kernel_rfl) (fun _ _ _ h => h) (by kernel_rfl) hHeld (fun w' hSw => ?hyap11) ?restap11
          case hyap11 => ((try dsimp only at hSw); go_simp; try with_reducible rfl)
          case restap11 =>
          (try simp only [Act.put, List.setIfInBounds_toArray, List.set_cons_zero, List.set_cons_succ])
          refine wpEnds.take 12 17 (v := ?vap12) rfl (by kernel_rfl) (by kernel_rfl) (by kernel_rfl) (by kernel_rfl) (by kernel_rfl) (fun _ _ _ h => h) (by kernel_rfl) hHeld (fun w' hSw => ?hyap12) ?restap12
          case hyap12 => ((try dsimp only at hSw); go_simp; try with_reducible rfl)
          case restap12 =>
          (try simp only [Act.put, List.setIfInBounds_toArray, List.set_cons_zero, List.set_cons_succ])
          refine wpEnds.take 13 17 (v := ?vap13) rfl (by kernel_rfl) (by kernel_rfl) (by kernel_rfl) (by kernel_rfl) (by kernel_rfl) (fun _ _ _ h => h) (by kernel_rfl) hHeld (fun w' hSw => ?hyap13) ?restap13
          case hyap13 => ((try dsimp only at hSw); go_simp; try with_reducible rfl)
          case restap13 =>
          (try simp only [Act.put, List.setIfInBounds_toArray, List.set_cons_zero, List.set_cons_succ])
          refine wpEnds.one 14 (by kernel_rfl) rfl (fun K hK => ?_)
          go_simp
          go_at_call 33
          with_reducible refine (PkLess a2 a1 n2 n1 c2 c1 W.drew).mono ?_
          rintro e w9 ⟨rfl, hb0⟩
          have hb := pk_below (W := W) (Below.refl _ _).drew hb0
          have hk9 := HP.out.below hgl hb
          refine hK.out _ _ ⟨hk9.c0, hk9.c1, hk9.c2, hk9.c3⟩ ?_
          clear hK K
          (try simp only [Act.put, List.setIfInBounds_toArray, List.set_cons_zero, List.set_cons_succ])
          refine wpEnds.one 15 (by kernel_rfl) rfl (fun K hK => ?_)
          go_simp
          refine hK.out _ _ ⟨hk9.c0, hk9.c1, hk9.c2, hk9.c3⟩ ?_
          clear hK K
          (try simp only [Act.put, List.setIfInBounds_toArray, List.set_cons_zero, List.set_cons_succ])
          refine wpEnds.last 16 (by kernel_rfl) (by kernel_rfl) rfl (fun K hK => ?_)
          go_simp
          refine hK.out _ _ ?_
          clear hK K hb0 hk9 hHeld
          (try simp only [Act.put, List.setIfInBounds_toArray, List.set_cons_zero, List.set_cons_succ])
          have hp9 := HP.out.below hgl hb
          have e0 := hp9.c0
          have e1 := hp9.c1
          have e2 := hp9.c2
          have e3 := hp9.c3
          have hg9 := (hb.block g hgl).trans HG.out
          have hfr := free_block hg9
          have hgl9 := boxLt hg9
          have HG9 := hid hg9
          have HB9 := hid hb
          clear f0 f1 f2 f3 hp9 hg9 hb
          go_upto_region 6 with fail
          have HSW := hid (fun wz h => pk_swap (wz := wz) (x := .slice a1 n1 c1) (y := .slice a2 n2 c2) HG9.out (by have := e3; rw [cell_block HG9.out 3] at this; have := (Array.getElem?_eq_some_iff.1 this).1; omega) HB9.out h)
          go_region
          obtain ⟨wz, hwz⟩ : ∃ wz, ((((w9.setCell ⟨g, 2, none⟩ (.slice a1 n1 c1)).setCell ⟨g, 3, none⟩ (.int .i64 2)).setCell ⟨g, 0, none⟩ (.slice a2 n2 c2)).setCell ⟨g, 1, none⟩ (.int .i64 1)).drew = wz := ⟨_, rfl⟩
          obtain ⟨hpz, hgz⟩ := HSW.out wz hwz
          rw [hwz]
          have HPZ := hid hpz
          have HGZ := hid hgz
          clear hwz hpz hgz HSW e0 e1 e2 e3 hfr
          go_wp2_with fail
          go_roundw
          case rel => exact .inr ⟨by go_num, HPZ.out, HGZ.out⟩
          case measure => simp [intOf]
        · have HPR := hid hpr
          have HGR := hid hgr
          clear hpr hgr
          go_upto_region 4 with fail
          go_quiet (fail)
          go_wp2_with fail
          go_roundw
          case rel => exact .inr ⟨by go_num, pk_drewP HPR.out _, pk_drewG HGR.out _⟩
          case measure => simp [intOf]
    · have HPR := hid hpr
      have HGR := hid hgr
      clear hpr hgr
      go_wp2_with fail
      go_end0
      exact ⟨rfl, HPR.out, HGR.out⟩
/-- slices.SortStableFunc, of one cut. -/
theorem PkStable1 (g c : Nat) (W : World) :
    Calls Try.prog 32 #[.slice (some ⟨g, 0, none⟩) 1 c, .func (.func 33) #[] #[]] W fun e w' => e = .returned (.tuple #[]) ∧ w' = W := by
  have key : Calls Try.prog 43 #[.slice (some ⟨g, 0, none⟩) 1 c, .int .i64 1, .func (.func 33) #[] #[]] W fun e w' => e = .returned (.tuple #[]) ∧ w' = W := by
    go_enter Try.func43, Try.ntmps43
    go_wp2_with fail
    go_loopw [7, 8] (fun v7 v8 wr => wr = W ∧ v7 = .int .i64 0 ∧ v8 = .int .i64 20) (fun _ _ _ => 0)
    case atStart => exact ⟨rfl, rfl, rfl⟩
    case round =>
      obtain ⟨hwr, rfl, rfl⟩ := hrel
      subst wr
      go_wp2_with (go_at_call 49; (with_reducible refine (PkIns1 g c W).mono ?_); rintro e w1 ⟨rfl, hw1⟩; subst w1)
      go_loopw [6, 7, 8, 9] (fun v6 v7 v8 v9 wr => wr = W ∧ v6 = .int .i64 20) (fun _ _ _ _ _ => 0)
      case atStart => exact ⟨rfl, rfl⟩
      case round =>
        obtain ⟨hwr, rfl⟩ := hrel
        subst wr
        go_wp2_with fail
        go_end0
        exact ⟨rfl, rfl⟩
  go_enter Try.func32, Try.ntmps32
  go_wp2_with (go_at_call 43; (with_reducible refine key.mono ?_); rintro e w1 ⟨rfl, hw1⟩; subst w1)
  go_end0
  exact ⟨rfl, rfl⟩
/-- .. of two that stand the wrong way round. -/
theorem PkStable2 (g c n1 n2 c1 c2 : Nat) (a1 a2 : Option Addr) (cur : Array Value) (W : World) (hg : W.heap[g]? = some (.cells cur 83 (0, 0))) (hP : Pair W g (.slice a1 n1 c1) (.slice a2 n2 c2) 2 1) :
    Calls Try.prog 32 #[.slice (some ⟨g, 0, none⟩) 2 c, .func (.func 33) #[] #[]] W fun e w' => e = .returned (.tuple #[]) ∧ Pair w' g (.slice a2 n2 c2) (.slice a1 n1 c1) 1 2 ∧ W.grownBy w' (some g) := by
  have HP := hid hP
  have HG := hid hg
  clear hg hP
  have key : Calls Try.prog 43 #[.slice (some ⟨g, 0, none⟩) 2 c, .int .i64 2, .func (.func 33) #[] #[]] W fun e w' => e = .returned (.tuple #[]) ∧ Pair w' g (.slice a2 n2 c2) (.slice a1 n1 c1) 1 2 ∧ W.grownBy w' (some g) := by
    go_enter Try.func43, Try.ntmps43
    go_wp2_with fail
    go_loopw [7, 8] (fun v7 v8 wr => wr = W ∧ v7 = .int .i64 0 ∧ v8 = .int .i64 20) (fun _ _ _ => 0)
    case atStart => exact ⟨rfl, rfl, rfl⟩
    case round =>
      obtain ⟨hwr, rfl, rfl⟩ := hrel
      subst wr
      go_wp2_with (go_at_call 49; (with_reducible refine (PkIns2 g c n1 n2 c1 c2 a1 a2 cur W HG.out HP.out).mono ?_); rintro e w1 ⟨rfl, hp1, hg1⟩; have HP1 := hid hp1; have HG1 := hid hg1; clear hp1 hg1)
      go_loopw [6, 7, 8, 9] (fun v6 v7 v8 v9 wr => wr = w1 ∧ v6 = .int .i64 20) (fun _ _ _ _ _ => 0)
      case atStart => exact ⟨rfl, rfl⟩
      case round =>
        obtain ⟨hwr, rfl⟩ := hrel
        subst wr
        go_wp2_with fail
        go_end0
        exact ⟨rfl, HP1.out, HG1.out⟩
  go_enter Try.func32, Try.ntmps32
  go_wp2_with (go_at_call 43; (with_reducible refine key.mono ?_); rintro e w1 ⟨rfl, hp1, hg1⟩; have HP1 := hid hp1; have HG1 := hid hg1; clear hp1 hg1)
  go_end0
  exact ⟨rfl, HP1.out, HG1.out⟩
end Go.Proofs.Ytlaeflpddehipab
