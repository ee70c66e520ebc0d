/- What a right net of tables gives; rows of numbers in memory. -/
import Derived.Test.YtlaeflpddehipabLsPlain
import Derived.Test.YtlaeflpddehipabRefLnRight
import Derived.Test.YtlaeflpddehipabOwnRow
import Derived.Test.YtlaeflpddehipabNetNew
set_option linter.unusedVariables false
set_option linter.unusedSimpArgs false
namespace Go.Proofs.Ytlaeflpddehipab
open Go.RowKit

theorem badB_false {s k : Int} (h : badB s k = false) : 0 ≤ k ∧ k < s := by
  unfold badB at h
  simp only [Bool.or_eq_false_iff, decide_eq_false_iff_not] at h
  omega
structure LN.Good (L : LN) : Prop where
  g0 : 0 ≤ L.given
  g1 : L.given ≤ 20000
  r1 : L.regs.length ≤ 20000
  l1 : L.luts.length ≤ 20000
  o1 : L.outs.length ≤ 20000
  four : ∀ i, i < L.luts.length → (L.luts.getD i LT.zero).ins.length ≤ 4
  tab0 : ∀ i, i < L.luts.length → 0 ≤ (L.luts.getD i LT.zero).table
  tab1 : ∀ i, i < L.luts.length → (L.luts.getD i LT.zero).table < 65536
  ins : ∀ i j, i < L.luts.length → j < (L.luts.getD i LT.zero).ins.length → 0 ≤ (L.luts.getD i LT.zero).ins.getD j 0 ∧ (L.luts.getD i LT.zero).ins.getD j 0 < L.given + L.regs.length + i
  regs : ∀ i, i < L.regs.length → 0 ≤ (L.regs.getD i LR.zero).next ∧ (L.regs.getD i LR.zero).next < L.given + L.regs.length + L.luts.length
  outs : ∀ i, i < L.outs.length → 0 ≤ L.outs.getD i 0 ∧ L.outs.getD i 0 < L.given + L.regs.length + L.luts.length
theorem LN.good {L : LN} (h : L.right = true) : L.Good := by
  have h0 := h
  unfold LN.right at h0
  simp only [Bool.and_eq_true] at h0
  obtain ⟨⟨⟨hs, _⟩, _⟩, _⟩ := h0
  obtain ⟨z0, z1, z2, z3, z4⟩ := LN.sizes_of hs
  have hl : ∀ i, i < L.luts.length → L.lutBad i = false := fun i hi => by
    cases hb : L.lutBad i
    · rfl
    · have := LN.right_no_lut hi hb
      rw [h] at this
      cases this
  have hl2 : ∀ i, i < L.luts.length → (L.luts.getD i LT.zero).ins.length ≤ 4 ∧ 0 ≤ (L.luts.getD i LT.zero).table ∧ (L.luts.getD i LT.zero).table < 2 ^ (2 ^ (L.luts.getD i LT.zero).ins.length) ∧ L.insBad i = false := fun i hi => by
    have hb := hl i hi
    unfold LN.lutBad at hb
    simp only [Bool.or_eq_false_iff, decide_eq_false_iff_not] at hb
    exact ⟨Nat.not_lt.1 hb.1.1.1, Int.not_lt.1 hb.1.1.2, Int.not_le.1 hb.1.2, hb.2⟩
  refine ⟨z0, z1, z2, z3, z4, fun i hi => (hl2 i hi).1, fun i hi => (hl2 i hi).2.1, fun i hi => ?_, fun i j hi hj => ?_, fun i hi => ?_, fun i hi => ?_⟩
  · obtain ⟨h4, _, h3, _⟩ := hl2 i hi
    have hp : (2 : Int) ^ (2 ^ (L.luts.getD i LT.zero).ins.length) ≤ 65536 := by
      generalize (L.luts.getD i LT.zero).ins.length = n at h4
      rcases n with _ | _ | _ | _ | _ | n
      · decide
      · decide
      · decide
      · decide
      · decide
      · omega
    omega
  · have hb := (hl2 i hi).2.2.2
    unfold LN.insBad at hb
    rw [List.any_eq_false] at hb
    have := hb j (List.mem_range.2 hj)
    exact badB_false (by simpa using this)
  · have hb : badB L.signals (L.regs.getD i LR.zero).next = false := by
      cases hb : badB L.signals (L.regs.getD i LR.zero).next
      · rfl
      · have := LN.right_no_reg hi hb
        rw [h] at this
        cases this
    exact badB_false hb
  · have hb : badB L.signals (L.outs.getD i 0) = false := by
      cases hb : badB L.signals (L.outs.getD i 0)
      · rfl
      · have := LN.right_no_out hi hb
        rw [h] at this
        cases this
    exact badB_false hb
/-- Numbers as cells. -/
def nums (f : Nat → Nat) (n : Nat) : Array Value := ((List.range n).map fun s => Value.int .i64 (f s : Int)).toArray
theorem nums_get (f : Nat → Nat) (n j : Nat) (h : j < n) : (nums f n)[j]? = some (.int .i64 (f j : Int)) := by
  simp [nums, h]
theorem nums_set (f : Nat → Nat) (n j v : Nat) (h : j < n) : (nums f n).setIfInBounds j (.int .i64 (v : Int)) = nums (fun s => if s = j then v else f s) n := by
  apply Array.ext'
  apply List.ext_getElem?
  intro i
  simp only [nums, Array.toList_setIfInBounds, List.getElem?_set, List.length_map, List.length_range, List.getElem?_map, List.getElem?_range]
  by_cases hij : j = i
  · subst hij
    simp [h]
  · have : ¬ i = j := fun e => hij e.symm
    by_cases hin : i < n
    · simp [hij, hin, this]
    · simp [hij, hin]
def IRow (w : World) (r n : Nat) (f : Nat → Nat) : Prop := w.heap[r]? = some (.cells (nums f n) 3 (0, 0))
theorem IRow.cell {w : World} {r n : Nat} {f : Nat → Nat} (h : IRow w r n f) (j : Nat) (hj : j < n) : w.cell? ⟨r, j, none⟩ = some (.int .i64 (f j : Int)) := by
  rw [cell_block h j, nums_get f n j hj]
theorem IRow.set {w : World} {r n : Nat} {f g : Nat → Nat} (h : IRow w r n f) (j v : Nat) (hj : j < n) (e : ∀ s, s < n → g s = if s = j then v else f s) : IRow (w.setCell ⟨r, j, none⟩ (.int .i64 (v : Int))) r n g := by
  have h1 := boxSet h j (.int .i64 (v : Int))
  rw [nums_set f n j v hj] at h1
  unfold IRow
  rw [h1]
  have e2 : nums (fun s => if s = j then v else f s) n = nums g n := by
    unfold nums
    congr 1
    exact List.map_congr_left fun s hs => by rw [e s (List.mem_range.1 hs)]
  rw [e2]
theorem Try.lsInfoInt : (Try.prog.info? 3).map (fun i => (i.zero, i.size, i.bytes)) = some (some (.int .i64 0), 1, 8) := by kernel_rfl
theorem Try.make_ints (n : Nat) (hn : n ≤ 1000000) (u : World) : (Instr.makeSlice 24 (.int .i64 (n : Int)) (.int .i64 (n : Int))).run Try.prog u = .ok (.slice (some ⟨u.heap.size, 0, none⟩) n n) (u.alloc (.cells (nums (fun _ => 0) n) 3)) := by
  obtain ⟨i0, hi, hz0, hz1, hz2⟩ := info_parts Try.lsInfoInt
  have h := run_make (P := Try.prog) u 24 3 i0 (.int .i64 0) Try.underlying24 hi hz0 .i64 .i64 (n : Int) (n : Int) (by omega) (Int.le_refl _) (by rw [hz2]; omega) (by omega)
  have e : madeCells #[Value.int .i64 0] n = nums (fun _ => 0) n := by
    apply Array.ext'
    rw [toList_madeCells_one]
    apply List.ext_getElem?
    intro i
    by_cases hin : i < n
    · simp [nums, hin]
    · simp [nums, hin]
  rw [Int.toNat_natCast] at h
  rw [h, hz1]
  simp [Value.cells, e]
end Go.Proofs.Ytlaeflpddehipab
