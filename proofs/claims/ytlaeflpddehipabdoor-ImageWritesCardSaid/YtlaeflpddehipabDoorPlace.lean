/- plain.Place, law.is and law.bare, of nil and of an Errno; sameBits. -/
import Derived.Test.YtlaeflpddehipabDoorTell
import Derived.Test.YtlaeflpddehipabDoorTwBase
import Derived.Laws.Rows
import Derived.Deep.DeepCutAuto
set_option linter.unusedVariables false
namespace Go.Proofs.YtlaeflpddehipabDoor
open Go.RowKit Go.Stop Go.Extern.Stop Go.Extern

theorem no_unwrap (v : Value) (xT : TypeId) (w : World) : (Instr.typeAssert (.iface 33 v) xT 184 true).run Tryd.prog w = .ok (.tuple #[.nilIface, .bool false]) w :=
  run_typeAssert_lacksB Tryd.underlying184 (by kernel_rfl) (by kernel_rfl) v xT w
theorem no_at (k : Int) (xT : TypeId) (w : World) : (Instr.typeAssert (.iface 33 (.int .i64 k)) xT 181 true).run Tryd.prog w = .ok (.tuple #[.pointer none, .bool false]) w := by kernel_rfl
set_option maxHeartbeats 800000 in
theorem Place_nil (w : World) : Calls Tryd.prog 70 #[.nilIface] w fun e w' => e = .returned (.tuple #[.int .i64 0, .int .i64 (-1)]) ∧ Below w.heap.size w w' := by
  go_enter Tryd.func70, Tryd.ntmps70
  go_wp2_with (go_at_call 18; (with_reducible refine (Tell_nil w).mono ?_); rintro e w1 ⟨rfl, rfl⟩)
  go_loopw [0] (fun v wr => v = .nilIface ∧ Below w1.heap.size w1 wr) (fun _ _ => 0)
  case atStart => exact ⟨rfl, Below.refl _ _⟩
  case round =>
    obtain ⟨rfl, hb⟩ := hrel
    have HB := hid hb
    clear hb
    go_wp2_with fail
    go_ret2
    exact ⟨rfl, HB.out⟩
set_option maxHeartbeats 800000 in
set_option maxRecDepth 10000 in
theorem Place_errno (k : Int) (w : World) (hg : ErrType w) : Calls Tryd.prog 70 #[.iface 33 (.int .i64 k)] w fun e w' => e = .returned (.tuple #[.int .i64 k, .int .i64 (-1)]) ∧ Below w.heap.size w w' := by
  have HG := hid hg
  have hnu := no_unwrap
  have hna := no_at
  clear hg
  go_enter Tryd.func70, Tryd.ntmps70
  go_wp2_with (go_at_call 18; (with_reducible refine (Tell_errno k w HG.out).mono ?_); rintro e w1 ⟨rfl, hb⟩; have HB1 := hid hb; clear hb)
  go_loopw [0] (fun v wr => v = .iface 33 (.int .i64 k) ∧ Below w.heap.size w wr) (fun _ _ => 0)
  case atStart => exact ⟨rfl, HB1.out⟩
  case round =>
    obtain ⟨rfl, hb⟩ := hrel
    have HB := hid hb
    clear hb
    go_wp2_with fail
    go_ret2
    exact ⟨rfl, HB.out⟩
theorem Bare_any (k : Int) (w : World) : Calls Tryd.prog 43 #[.int .i64 k] w fun e w' => e = .returned (.agg #[.int .i64 k, .int .i64 (-1)]) ∧ Below w.heap.size w w' := by
  go_enter Tryd.func43, Tryd.ntmps43
  go_wp2
  refine bodyPost_ret (v := .agg #[.int .i64 k, .int .i64 (-1)]) (results_cell_row rfl _ _ w.heap.size 97 _ (0, 0) _ rfl (heap_alloc_new w _) Tryd.underlying97 rfl (by kernel_rfl)) rfl ⟨rfl, (Below.refl _ _).alloc (Nat.le_refl _) _⟩
set_option maxHeartbeats 800000 in
/-- An Errno is that Errno, without a place. -/
theorem is_same (k : Int) (w : World) (hg : ErrType w) : Calls Tryd.prog 42 #[.iface 33 (.int .i64 k), .agg #[.int .i64 k, .int .i64 (-1)]] w fun e w' => e = .returned (.bool true) ∧ Below w.heap.size w w' := by
  obtain ⟨w0, hw0⟩ : ∃ w0, w.alloc (.cells #[.int .i64 k, .int .i64 (-1)] 97) = w0 := ⟨_, rfl⟩
  have hb1 : Below w.heap.size w w0 := by rw [← hw0]; exact (Below.refl _ _).alloc (Nat.le_refl _) _
  have hsz : w0.heap.size = w.heap.size + 1 := by rw [← hw0]; simp
  have hbox : w0.heap[w.heap.size]? = some (.cells #[.int .i64 k, .int .i64 (-1)] 97 (0, 0)) := by rw [← hw0]; exact heap_alloc_new w _
  have HG := hid (hg.stay hb1)
  have HB1 := hid hb1
  have hlt : w.heap.size < w0.heap.size := by omega
  clear hg hb1 hsz
  go_enter Tryd.func42, Tryd.ntmps42
  go_upto_region 1 with fail
  clear hw0
  go_upto_region 2 with (go_at_call 70; (with_reducible refine (Place_errno k w0 HG.out).mono ?_); rintro e w2 ⟨rfl, hb⟩; have HB2 := hid hb; clear hb)
  have hbk := (HB2.out.block _ hlt).trans hbox
  have c0 : w2.cell? ⟨w.heap.size, 0, none⟩ = some (.int .i64 k) := (cell_block hbk 0).trans rfl
  have c1 : w2.cell? ⟨w.heap.size, 1, none⟩ = some (.int .i64 (-1)) := (cell_block hbk 1).trans rfl
  have hd0 : decide (k = k) = true := decide_eq_true rfl
  clear hbk hbox
  go_wp2_with fail
  go_ret
  exact ⟨rfl, HB1.out.trans (HB2.out.mono HB1.out.size)⟩
theorem bare_same (k : Int) (w : World) (hg : ErrType w) : Calls Tryd.prog 10 #[.iface 33 (.int .i64 k), .int .i64 k] w fun e w' => e = .returned (.bool true) ∧ Below w.heap.size w w' := by
  have HG := hid hg
  clear hg
  go_enter Tryd.func10, Tryd.ntmps10
  go_wp2_with (first
    | (go_at_call 43; (with_reducible refine (Bare_any k w).mono ?_); rintro e w1 ⟨rfl, hb⟩; have HB1 := hid hb; clear hb)
    | (go_at_call 42; (with_reducible refine (is_same k w1 (HG.out.stay HB1.out)).mono ?_); rintro e w2 ⟨rfl, hb⟩; have HB2 := hid hb; clear hb))
  go_ret
  exact ⟨rfl, HB1.out.trans (HB2.out.mono HB1.out.size)⟩
end Go.Proofs.YtlaeflpddehipabDoor
