/- What ladder.Parse defers. -/
import Derived.RecoverIn
import Derived.Recover
import Derived.Test.YtlaeflpddehipabGreatDoorLdSeq
import Derived.Test.YtlaeflpddehipabGreatDoorLdRung
set_option linter.unusedVariables false
set_option linter.unusedSimpArgs false
namespace Go.Proofs.YtlaeflpddehipabGreatDoor
open Go.RowKit
attribute [local go_sem ↓] Go.wp_at_zero Go.wp_at_succ

theorem catch_idle (n : Nat) (p q r : Addr) (w : World) :
    CallsDIn Fence.wide n Tryz.prog 22 #[.pointer (some p), .pointer (some q), .pointer (some r)] .returning w fun e u' w' => e = .returned (.tuple #[]) ∧ u' = .returning ∧ w' = w := by
  refine callsDIn_of_wpSIn Tryz.func22 rfl trivial fun c₀ cs hu => ?_
  apply wpSIn_seq
  apply wpSIn_region
  simp [wpOpsSIn, go_sem, recoverD, hu, Tryz.ntmps22, Exit.thenS]
  apply wpSIn_of_wpIn Fence.wide_round
  rw [wpIn_wide]
  simp only [List.size_toArray, List.length_cons, List.length_nil, Nat.reduceAdd, Nat.reduceSub, Array.replicate_succ, Array.replicate_zero, List.push_toArray, List.append_toArray, List.nil_append, List.cons_append, List.setIfInBounds_toArray, List.set_cons_zero, List.set_cons_succ]
  go_wp2
  exact ⟨rfl, .returning, by cases c₀; simp_all, _, results_none rfl _ _ _, rfl, rfl, rfl⟩
theorem boxLt4 {w : World} {a : Addr} {v : Value} (h : w.cell? a = some v) : a.block < w.heap.size := by
  unfold World.cell? at h
  cases hx : w.heap[a.block]? with
  | none => rw [hx] at h; simp at h
  | some o => exact (Array.getElem?_eq_some_iff.1 hx).1
theorem is_wrong (e0 : Int) (xT : TypeId) (w : World) : (Instr.typeAssert (.iface 62 (.agg #[.int .i64 e0])) xT 62 true).run Tryz.prog w = .ok (.tuple #[.agg #[.int .i64 e0], .bool true]) w := by kernel_rfl
theorem catch_end {w w1 : World} {b2 b3 : Nat} {vl : Value} {e0 at0 : Int} (hb : Below b2 w w1) (hs : w.heap.size ≤ w1.heap.size) (h2 : w1.heap[b2]? = some (.cells #[vl] 31 (0, 0))) (h3 : w1.heap[b3]? = some (.cells #[.nilIface] 33 (0, 0))) (hlt : b2 < b3) :
    Below b2 w (((w1.setCell ⟨b2, 0, none⟩ (.slice none 0 0)).setCell ⟨b3, 0, none⟩ (.iface 64 (.pointer (some ⟨w1.heap.size, 0, none⟩)))).alloc (.cells #[.int .i64 e0, .int .i64 at0] 65)).drew ∧
    (((w1.setCell ⟨b2, 0, none⟩ (.slice none 0 0)).setCell ⟨b3, 0, none⟩ (.iface 64 (.pointer (some ⟨w1.heap.size, 0, none⟩)))).alloc (.cells #[.int .i64 e0, .int .i64 at0] 65)).drew.heap[b2]? = some (.cells #[.slice none 0 0] 31 (0, 0)) ∧
    ∃ g, w.heap.size ≤ g ∧ (((w1.setCell ⟨b2, 0, none⟩ (.slice none 0 0)).setCell ⟨b3, 0, none⟩ (.iface 64 (.pointer (some ⟨w1.heap.size, 0, none⟩)))).alloc (.cells #[.int .i64 e0, .int .i64 at0] 65)).drew.heap[b3]? = some (.cells #[.iface 64 (.pointer (some ⟨g, 0, none⟩))] 33 (0, 0)) ∧
      (((w1.setCell ⟨b2, 0, none⟩ (.slice none 0 0)).setCell ⟨b3, 0, none⟩ (.iface 64 (.pointer (some ⟨w1.heap.size, 0, none⟩)))).alloc (.cells #[.int .i64 e0, .int .i64 at0] 65)).drew.heap[g]? = some (.cells #[.int .i64 e0, .int .i64 at0] 65 (0, 0)) := by
  have l2 := boxLt h2
  have l3 := boxLt h3
  have e2 : (w1.setCell ⟨b2, 0, none⟩ (.slice none 0 0)).heap[b2]? = some (.cells #[.slice none 0 0] 31 (0, 0)) := (boxSet h2 0 _).trans (by simp)
  have e3 : (w1.setCell ⟨b2, 0, none⟩ (.slice none 0 0)).heap[b3]? = some (.cells #[.nilIface] 33 (0, 0)) := (heap_setCell_other _ _ _ _ (by simp only; omega)).trans h3
  generalize hw2 : w1.setCell ⟨b2, 0, none⟩ (.slice none 0 0) = w2 at *
  have hz2 : w2.heap.size = w1.heap.size := by rw [← hw2]; simp [World.setCell]
  have hb2 : Below b2 w w2 := by rw [← hw2]; exact hb.setCell (p := ⟨b2, 0, none⟩) (Nat.le_refl _) _
  have e2' : (w2.setCell ⟨b3, 0, none⟩ (.iface 64 (.pointer (some ⟨w1.heap.size, 0, none⟩)))).heap[b2]? = some (.cells #[.slice none 0 0] 31 (0, 0)) := (heap_setCell_other _ _ _ _ (by simp only; omega)).trans e2
  have e3' : (w2.setCell ⟨b3, 0, none⟩ (.iface 64 (.pointer (some ⟨w1.heap.size, 0, none⟩)))).heap[b3]? = some (.cells #[.iface 64 (.pointer (some ⟨w1.heap.size, 0, none⟩))] 33 (0, 0)) := (boxSet e3 0 _).trans (by simp)
  generalize hw3 : w2.setCell ⟨b3, 0, none⟩ (.iface 64 (.pointer (some ⟨w1.heap.size, 0, none⟩))) = w3 at *
  have hz3 : w3.heap.size = w1.heap.size := by rw [← hw3, ← hz2]; simp [World.setCell]
  have hb3 : Below b2 w w3 := by rw [← hw3]; exact hb2.setCell (p := ⟨b3, 0, none⟩) (Nat.le_of_lt hlt) _
  have hb4 : Below w3.heap.size w3 (w3.alloc (.cells #[.int .i64 e0, .int .i64 at0] 65)) := (Below.refl _ _).alloc (Nat.le_refl _) _
  refine ⟨(hb3.alloc (by omega) _).drew, (hb4.block b2 (by omega)).trans e2', w1.heap.size, hs, (hb4.block b3 (by omega)).trans e3', ?_⟩
  rw [← hz3]
  exact heap_alloc_new w3 _
set_option maxRecDepth 100000 in
theorem catch_any (n : Nat) (e0 at0 : Int) (b4 b2 b3 : Nat) (vl : Value) (w : World) (c4 : w.cell? ⟨b4, 0, none⟩ = some (.int .i64 at0)) (hb2 : w.heap[b2]? = some (.cells #[vl] 31 (0, 0))) (hb3 : w.heap[b3]? = some (.cells #[.nilIface] 33 (0, 0))) (hne : b2 ≠ b3) (hlt : b2 < b3) :
    CallsDIn Fence.wide n Tryz.prog 22 #[.pointer (some ⟨b4, 0, none⟩), .pointer (some ⟨b2, 0, none⟩), .pointer (some ⟨b3, 0, none⟩)] (.panicking [{ v := .iface 62 (.agg #[.int .i64 e0]), recovered := false }]) w fun e u' w' =>
      e = .returned (.tuple #[]) ∧ u' = .panicking [{ v := .iface 62 (.agg #[.int .i64 e0]), recovered := true }] ∧ Below b2 w w' ∧ w'.heap[b2]? = some (.cells #[.slice none 0 0] 31 (0, 0)) ∧
      ∃ g, w.heap.size ≤ g ∧ w'.heap[b3]? = some (.cells #[.iface 64 (.pointer (some ⟨g, 0, none⟩))] 33 (0, 0)) ∧ w'.heap[g]? = some (.cells #[.int .i64 e0, .int .i64 at0] 65 (0, 0)) := by
  have c2 : w.cell? ⟨b2, 0, none⟩ = some vl := (cell_block hb2 0).trans rfl
  have c3 : w.cell? ⟨b3, 0, none⟩ = some .nilIface := (cell_block hb3 0).trans rfl
  have f2 := free_block hb2
  have f3 := free_block hb3
  have l2 := boxLt hb2
  have l3 := boxLt hb3
  have l4 : b4 < w.heap.size := boxLt4 c4
  have HB2 := hid hb2
  have HB3 := hid hb3
  clear hb2 hb3
  refine callsDIn_of_wpSIn Tryz.func22 rfl trivial fun c₀ cs hu => ?_
  apply wpSIn_seq
  apply wpSIn_region
  simp [wpOpsSIn, go_sem, recoverD, hu, Tryz.ntmps22, Exit.thenS]
  apply wpSIn_of_wpIn Fence.wide_round
  rw [wpIn_wide]
  simp only [List.size_toArray, List.length_cons, List.length_nil, Nat.reduceAdd, Nat.reduceSub, Array.replicate_succ, Array.replicate_zero, List.push_toArray, List.append_toArray, List.nil_append, List.cons_append, List.setIfInBounds_toArray, List.set_cons_zero, List.set_cons_succ]
  have HU := hid hu
  clear hu
  have ta := is_wrong e0
  go_upto_region 5 with fail
  have hb0 : Below w.heap.size w (w.alloc (.cells #[.int .i64 e0] 62)) := (Below.refl _ _).alloc (Nat.le_refl _) _
  have d4 := (hb0.cell (p := ⟨b4, 0, none⟩) l4).trans c4
  have HD2 := hid ((hb0.block b2 l2).trans HB2.out)
  have HD3 := hid ((hb0.block b3 l3).trans HB3.out)
  have hg0 : (w.alloc (.cells #[.int .i64 e0] 62)).heap[w.heap.size]? = some (.cells #[.int .i64 e0] 62 (0, 0)) := heap_alloc_new w _
  have HBW := hid (hb0.mono (Nat.le_of_lt l2))
  have hsz : w.heap.size ≤ (w.alloc (.cells #[.int .i64 e0] 62)).heap.size := hb0.size
  have HSZ := hid hsz
  obtain ⟨g0, hg⟩ : ∃ g0, w.heap.size = g0 := ⟨_, rfl⟩
  rw [hg] at hg0
  rw [hg]
  generalize w.alloc (.cells #[.int .i64 e0] 62) = w1 at *
  have d2 : w1.cell? ⟨b2, 0, none⟩ = some vl := (cell_block HD2.out 0).trans rfl
  have d3 : w1.cell? ⟨b3, 0, none⟩ = some .nilIface := (cell_block HD3.out 0).trans rfl
  have f2' := free_block HD2.out
  have f3' := free_block HD3.out
  have l2' := boxLt HD2.out
  have l3' := boxLt HD3.out
  have dg : w1.cell? ⟨g0, 0, none⟩ = some (.int .i64 e0) := (cell_block hg0 0).trans rfl
  have lg := boxLt hg0
  clear c2 c3 c4 hb0 hg0 hsz
  have HF := hid (catch_end (w := w) (w1 := w1) (e0 := e0) (at0 := at0) HBW.out HSZ.out HD2.out HD3.out hlt)
  go_region
  exact ⟨rfl, _, rfl, _, results_none rfl _ _ _, rfl, rfl, HF.out⟩
end Go.Proofs.YtlaeflpddehipabGreatDoor
