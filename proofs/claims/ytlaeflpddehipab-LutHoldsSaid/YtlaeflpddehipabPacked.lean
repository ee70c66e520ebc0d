/- The fact that the laws of nets of tables look at first: keep.packed. -/
import Derived.Test.YtlaeflpddehipabPkPack
import Derived.Test.YtlaeflpddehipabLsStep
import Derived.Test.YtlaeflpddehipabNetUse
set_option linter.unusedVariables false
set_option linter.unusedSimpArgs false
namespace Go.Proofs.Ytlaeflpddehipab
open Go.RowKit

/-- The table that comes out. -/
def fiveT : LN := ⟨3, [], [⟨[0, 1, 2], 248⟩], [3]⟩
theorem fiveT_right : fiveT.right = true := by decide +kernel
theorem fiveT_tab : ((pkTab (fun b => bitB b 2 || (bitB b 1 && bitB b 0)) 8 : Nat) : Int) = 248 := by decide +kernel
theorem fiveT_out1 : fiveT.outV [] [true, true, false] = [true] := by decide +kernel
theorem fiveT_out0 : fiveT.outV [] [true, false, false] = [false] := by decide +kernel
theorem fiveT_next (g : List Bool) : fiveT.next [] g = [] := rfl
theorem five_in (w : World) : NetIn (w.heap.size + 3) (((w.alloc (.cells #[.int .i64 3, .int .i64 0, .int .i64 0, .int .i64 0, .int .i64 3, .int .i64 1, .int .i64 0, .int .i64 0, .int .i64 3, .int .i64 2, .int .i64 0, .int .i64 0, .int .i64 5, .int .i64 0, .int .i64 1, .int .i64 0, .int .i64 6, .int .i64 3, .int .i64 2, .int .i64 0] 48)).alloc (.cells #[.int .i64 4] 3)).alloc
    (.cells #[.int .i64 3, .slice (some ⟨w.heap.size, 0, none⟩) 5 5, .slice (some ⟨w.heap.size + 1, 0, none⟩) 1 1] 51)) (w.heap.size + 2) (some ⟨w.heap.size, 0, none⟩) 5 (some ⟨w.heap.size + 1, 0, none⟩) 1 fiveN := by
  obtain ⟨o1, h1⟩ : ∃ o : Obj, o = .cells #[.int .i64 3, .int .i64 0, .int .i64 0, .int .i64 0, .int .i64 3, .int .i64 1, .int .i64 0, .int .i64 0, .int .i64 3, .int .i64 2, .int .i64 0, .int .i64 0, .int .i64 5, .int .i64 0, .int .i64 1, .int .i64 0, .int .i64 6, .int .i64 3, .int .i64 2, .int .i64 0] 48 (0, 0) := ⟨_, rfl⟩
  obtain ⟨o2, h2⟩ : ∃ o : Obj, o = .cells #[.int .i64 4] 3 (0, 0) := ⟨_, rfl⟩
  obtain ⟨o3, h3⟩ : ∃ o : Obj, o = .cells #[.int .i64 3, .slice (some ⟨w.heap.size, 0, none⟩) 5 5, .slice (some ⟨w.heap.size + 1, 0, none⟩) 1 1] 51 (0, 0) := ⟨_, rfl⟩
  rw [← h1, ← h2, ← h3]
  have b1 : (((w.alloc o1).alloc o2).alloc o3).heap[w.heap.size]? = some o1 := by
    rw [Below.heap_alloc _ _ _ (by simp; omega), Below.heap_alloc _ _ _ (by simp)]
    exact alloc_at w o1
  have b2 : (((w.alloc o1).alloc o2).alloc o3).heap[w.heap.size + 1]? = some o2 := by
    rw [Below.heap_alloc _ _ _ (by simp)]
    have h := alloc_at (w.alloc o1) o2
    rw [World.size_alloc] at h
    exact h
  have b3 : (((w.alloc o1).alloc o2).alloc o3).heap[w.heap.size + 2]? = some o3 := by
    have h := alloc_at ((w.alloc o1).alloc o2) o3
    simp only [World.size_alloc] at h
    exact h
  obtain ⟨w3, hw3⟩ : ∃ w3, ((w.alloc o1).alloc o2).alloc o3 = w3 := ⟨_, rfl⟩
  rw [hw3] at b1 b2 b3 ⊢
  rw [h1] at b1
  rw [h2] at b2
  rw [h3] at b3
  refine ⟨(cell_block b3 0).trans rfl, (cell_block b3 1).trans rfl, (cell_block b3 2).trans rfl, .inr ⟨w.heap.size, 0, rfl, by omega, fun j hj => ?_⟩, .inr ⟨w.heap.size + 1, 0, rfl, by omega, fun j hj => ?_⟩, by omega, (show 5 ≤ maxLen by unfold maxLen; decide), (show 1 ≤ maxLen by unfold maxLen; decide)⟩
  · rw [Nat.zero_add]
    refine (cell_block b1 j).trans ?_
    have h20 : j < 20 := hj
    by_cases h10 : j < 10
    · match j, h10 with
      | 0, _ | 1, _ | 2, _ | 3, _ | 4, _ | 5, _ | 6, _ | 7, _ | 8, _ | 9, _ => rfl
    · obtain ⟨i, rfl⟩ : ∃ i, j = i + 10 := ⟨j - 10, by omega⟩
      have hi : i < 10 := by omega
      clear hj h10 h20
      match i, hi with
      | 0, _ | 1, _ | 2, _ | 3, _ | 4, _ | 5, _ | 6, _ | 7, _ | 8, _ | 9, _ => rfl
  · rw [Nat.zero_add]
    refine (cell_block b2 j).trans ?_
    have : j < 1 := hj
    match j, this with
    | 0, _ => rfl
/-- Pack at it. -/
theorem pack5 (B : Nat) (W : World) (bN bl bs : Nat) (hn : NetIn B W bN (some ⟨bl, 0, none⟩) 5 (some ⟨bs, 0, none⟩) 1 fiveN) (hB : B ≤ W.heap.size) :
    Calls Try.prog 14 #[.pointer (some ⟨bN, 0, none⟩)] W fun e w' => ∃ bo y, e = .returned (.tuple #[.pointer (some ⟨bo, 0, none⟩), .nilIface]) ∧ LnIn w'.heap.size w' bo y fiveT ∧ Below W.heap.size W w' ∧ w'.cell? ⟨bo, 2, none⟩ = some (.slice y.al 1 y.cl) := by
  refine (PkPack5 B W bN bl bs hn hB).mono ?_
  rintro e w' ⟨bo, y, T, rfl, rfl, hl, hb⟩
  rw [fiveT_tab] at hl
  exact ⟨bo, y, rfl, hl, hb, hl.luts⟩
/-- One step of it. -/
theorem fiveStep (B C s b g : Nat) (y : Lay) (w : World) (out x0 x1 x2 : Bool) (h : LnIn B w b y fiveT) (hB : B ≤ C) (hC : C ≤ w.heap.size) (hs : LSim C w s b []) (hg : w.heap[g]? = some (.cells #[.bool x0, .bool x1, .bool x2] 4 (0, 0))) (ho : fiveT.outV [] [x0, x1, x2] = [out]) :
    Calls Try.prog 8 #[.pointer (some ⟨s, 0, none⟩), .slice (some ⟨g, 0, none⟩) 3 3] w fun e w' => ∃ g c, e = .returned (.slice (some ⟨g, 0, none⟩) 1 c) ∧ w'.cell? ⟨g, 0, none⟩ = some (.bool out) ∧ LSim C w' s b [] ∧ Below C w w' := by
  refine (LsStep_any B C s b y fiveT w [] [x0, x1, x2] (some ⟨g, 0, none⟩) 3 h hB hC hs fiveT_right rfl (.inr ⟨g, 0, rfl, boxLt hg, fun j hj => ?_⟩) (show 3 ≤ 1000000 by decide)).mono ?_
  · rw [Nat.zero_add]
    refine (cell_block hg j).trans ?_
    have : j < 3 := hj
    match j, this with
    | 0, _ | 1, _ | 2, _ => rfl
  · rintro e w' ⟨v, rfl, hv, hsim, hgr⟩
    rw [ho] at hv
    obtain ⟨g', cap, rfl, _, _, hc⟩ := owns_form hv (by decide)
    obtain ⟨_, _, hCs, _⟩ := hs
    exact ⟨g', cap, rfl, hc 0 (by decide), hsim, below_of_grown hgr hC hCs⟩
set_option maxRecDepth 100000 in
set_option maxHeartbeats 6400000 in
theorem packed_any (w : World) : Calls Try.prog 5 #[] w (Yes w) := by
  have HN := hid (five_in w)
  have HB0 := hid (show Below w.heap.size w (((w.alloc (.cells #[.int .i64 3, .int .i64 0, .int .i64 0, .int .i64 0, .int .i64 3, .int .i64 1, .int .i64 0, .int .i64 0, .int .i64 3, .int .i64 2, .int .i64 0, .int .i64 0, .int .i64 5, .int .i64 0, .int .i64 1, .int .i64 0, .int .i64 6, .int .i64 3, .int .i64 2, .int .i64 0] 48)).alloc (.cells #[.int .i64 4] 3)).alloc
    (.cells #[.int .i64 3, .slice (some ⟨w.heap.size, 0, none⟩) 5 5, .slice (some ⟨w.heap.size + 1, 0, none⟩) 1 1] 51)) from (((Below.refl _ _).alloc (Nat.le_refl _) _).alloc (by simp) _).alloc (by simp; omega) _)
  go_enter Try.func5, Try.ntmps5
  go_upto_region 2 with fail
  obtain ⟨w0, hw0⟩ : ∃ w0, ((w.alloc (.cells #[.int .i64 3, .int .i64 0, .int .i64 0, .int .i64 0, .int .i64 3, .int .i64 1, .int .i64 0, .int .i64 0, .int .i64 3, .int .i64 2, .int .i64 0, .int .i64 0, .int .i64 5, .int .i64 0, .int .i64 1, .int .i64 0, .int .i64 6, .int .i64 3, .int .i64 2, .int .i64 0] 48)).alloc (.cells #[.int .i64 4] 3)).alloc
    (.cells #[.int .i64 3, .slice (some ⟨w.heap.size, 0, none⟩) 5 5, .slice (some ⟨w.heap.size + 1, 0, none⟩) 1 1] 51) = w0 := ⟨_, rfl⟩
  have HS0 := hid (show w0.heap.size = w.heap.size + 3 by rw [← hw0]; simp)
  rw [hw0] at HN HB0 ⊢
  clear hw0
  go_wp2_with (first
    | (go_at_call 14; (with_reducible refine (pack5 (w.heap.size + 3) w0 (w.heap.size + 2) w.heap.size (w.heap.size + 1) HN.out (Nat.le_of_eq HS0.out.symm)).mono ?_); rintro e w1 ⟨bo, y, rfl, hln, hb, -⟩; have HLN := hid hln; have HB1 := hid (HB0.out.trans (hb.mono HB0.out.size)); clear hln hb)
    | (go_at_call 7; (with_reducible refine (LnRight_any _ bo y fiveT w1 HLN.out (Nat.le_refl _)).mono ?_); rintro e w2 ⟨rfl, hb⟩; rw [fiveT_right]; have HLN2 := hid (HLN.out.stay hb); have hl2 : w2.cell? ⟨bo, 2, none⟩ = some (.slice y.al 1 y.cl) := HLN2.out.luts; have HB2 := hid (HB1.out.trans (hb.mono HB1.out.size)); have HS2 := hid hb.size; clear hb)
    | (go_at_call 6; (with_reducible refine (LsNew_right _ bo y fiveT w2 HLN2.out HS2.out fiveT_right).mono ?_); rintro e w3 ⟨s, rfl, hsim, hb⟩; have HSIM := hid (show LSim w2.heap.size w3 s bo [] from hsim); have HLN3 := hid (HLN2.out.stay (hb.mono HS2.out)); have HB3 := hid (HB2.out.trans (hb.mono HB2.out.size)); have HS3 := hid hb.size; clear hb hsim hl2)
    | (go_at_call 8; (with_reducible refine (fiveStep w1.heap.size w2.heap.size s bo w3.heap.size y (w3.alloc (.cells #[.bool true, .bool true, .bool false] 4)) true true true false (HLN3.out.stay ((Below.refl _ _).alloc (Nat.le_trans HS2.out HS3.out) _)) HS2.out (Nat.le_trans HS3.out (by simp)) (HSIM.out.stay ((Below.refl _ _).alloc (Nat.le_refl _) _)) (alloc_at _ _) fiveT_out1).mono ?_); rintro e w4 ⟨g4, c4, rfl, hg4, hsim, hb⟩; have hb := ((Below.refl w2.heap.size w3).alloc HS3.out (.cells #[.bool true, .bool true, .bool false] 4)).trans hb; have HSIM4 := hid hsim; have HLN4 := hid (HLN3.out.stay (hb.mono HS2.out)); have HB4 := hid (HB3.out.trans (hb.mono HB2.out.size)); have HS4 := hid (Nat.le_trans HS3.out hb.size); clear hb hsim)
    | (go_at_call 8; (with_reducible refine (fiveStep w1.heap.size w2.heap.size s bo w4.heap.size y (w4.alloc (.cells #[.bool true, .bool false, .bool false] 4)) false true false false (HLN4.out.stay ((Below.refl _ _).alloc (Nat.le_trans HS2.out HS4.out) _)) HS2.out (Nat.le_trans HS4.out (by simp)) (HSIM4.out.stay ((Below.refl _ _).alloc (Nat.le_refl _) _)) (alloc_at _ _) fiveT_out0).mono ?_); rintro e w5 ⟨g5, c5, rfl, hg5, hsim, hb⟩; have hb := ((Below.refl w2.heap.size w4).alloc HS4.out (.cells #[.bool true, .bool false, .bool false] 4)).trans hb; have HSIM5 := hid hsim; have HLN5 := hid (HLN4.out.stay (hb.mono HS2.out)); have HB5 := hid (HB4.out.trans (hb.mono HB2.out.size)); have HS5 := hid (Nat.le_trans HS4.out hb.size); clear hb hsim)
    | fail)
  go_ret
  exact ⟨rfl, HB5.out⟩
end Go.Proofs.Ytlaeflpddehipab
