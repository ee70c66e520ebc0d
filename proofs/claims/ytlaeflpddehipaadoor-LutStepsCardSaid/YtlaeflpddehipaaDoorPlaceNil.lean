/- is and bare, of nil. -/
import Derived.Test.YtlaeflpddehipaaDoorPlace
set_option linter.unusedVariables false
namespace Go.Proofs.YtlaeflpddehipaaDoor
open Go.RowKit Go.Stop Go.Extern.Stop Go.Extern

set_option maxHeartbeats 800000 in
/-- nil is no fault. -/
theorem is_nil (w : World) : Calls Tryd.prog 27 #[.nilIface, .agg #[.int .i64 0, .int .i64 (-1)]] w fun e w' => e = .returned (.bool true) ∧ Below w.heap.size w w' := by
  obtain ⟨w0, hw0⟩ : ∃ w0, w.alloc (.cells #[.int .i64 0, .int .i64 (-1)] 78) = w0 := ⟨_, rfl⟩
  have hb1 : Below w.heap.size w w0 := by rw [← hw0]; exact (Below.refl _ _).alloc (Nat.le_refl _) _
  have hsz : w0.heap.size = w.heap.size + 1 := by rw [← hw0]; simp
  have hbox : w0.heap[w.heap.size]? = some (.cells #[.int .i64 0, .int .i64 (-1)] 78 (0, 0)) := by rw [← hw0]; exact heap_alloc_new w _
  have HB1 := hid hb1
  have hlt : w.heap.size < w0.heap.size := by omega
  clear hb1 hsz
  go_enter Tryd.func27, Tryd.ntmps27
  go_upto_region 1 with fail
  clear hw0
  go_upto_region 2 with (go_at_call 37; (with_reducible refine (Place_nil w0).mono ?_); rintro e w2 ⟨rfl, hb⟩; have HB2 := hid hb; clear hb)
  have hbk := (HB2.out.block _ hlt).trans hbox
  have c0 : w2.cell? ⟨w.heap.size, 0, none⟩ = some (.int .i64 0) := (cell_block hbk 0).trans rfl
  have c1 : w2.cell? ⟨w.heap.size, 1, none⟩ = some (.int .i64 (-1)) := (cell_block hbk 1).trans rfl
  clear hbk hbox
  go_wp2_with fail
  go_ret
  exact ⟨rfl, HB1.out.trans (HB2.out.mono HB1.out.size)⟩
theorem bare_nil (w : World) : Calls Tryd.prog 10 #[.nilIface, .int .i64 0] w fun e w' => e = .returned (.bool true) ∧ Below w.heap.size w w' := by
  go_enter Tryd.func10, Tryd.ntmps10
  go_wp2_with (first
    | (go_at_call 28; (with_reducible refine (Bare_any 0 w).mono ?_); rintro e w1 ⟨rfl, hb⟩; have HB1 := hid hb; clear hb)
    | (go_at_call 27; (with_reducible refine (is_nil w1).mono ?_); rintro e w2 ⟨rfl, hb⟩; have HB2 := hid hb; clear hb))
  go_ret
  exact ⟨rfl, HB1.out.trans (HB2.out.mono HB1.out.size)⟩
end Go.Proofs.YtlaeflpddehipaaDoor
