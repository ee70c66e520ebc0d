/- plain.Place and law.is of what ladder.Parse hands back. -/
import Derived.Test.YtlaeflpddehipabGreatDoorAsAt
import Derived.Test.YtlaeflpddehipabGreatDoorLdParse
import Derived.Laws.Rows
import Derived.BigQuiet
import Derived.Deep.QuietTactic
set_option linter.unusedVariables false
namespace Go.Proofs.YtlaeflpddehipabGreatDoor
open Go.RowKit Go.Stop Go.Extern.Stop Go.Extern

/-- The variable errors.errorType holds the type error. -/
def ErrType (w : World) : Prop := w.cell? ⟨2, 0, none⟩ = some (.iface 160 (.agg #[.pointer (some ⟨6, 33, none⟩)]))
theorem ErrType.lt {w : World} (h : ErrType w) : 2 < w.heap.size := boxLt4 h
theorem ErrType.stay {w w' : World} (h : ErrType w) (hb : Below w.heap.size w w') : ErrType w' := (hb.cell (p := ⟨2, 0, none⟩) h.lt).trans h
theorem Tell_nil (w : World) : Calls Tryz.prog 54 #[.nilIface] w fun e w' => e = .returned (.int .i64 0) ∧ w' = w := by
  go_enter Tryz.func54, Tryz.ntmps54
  go_wp2
  go_ret
  exact ⟨rfl, rfl⟩
theorem as_tellAt (k at0 : Int) (g : Nat) (w : World) (hg : ErrType w) (hgA : w.heap[g]? = some (.cells #[.int .i64 k, .int .i64 at0] 65 (0, 0))) :
    Calls Tryz.prog 72 #[.iface 64 (.pointer (some ⟨g, 0, none⟩)), .iface 131 (.pointer (some ⟨w.heap.size, 0, none⟩))] (w.alloc (.cells #[.int .i64 0] 26)) fun e w' => e = .returned (.bool true) ∧ w'.cell? ⟨w.heap.size, 0, none⟩ = some (.int .i64 k) ∧ Below w.heap.size w w' := by
  have hb1 : Below w.heap.size w (w.alloc (.cells #[.int .i64 0] 26)) := (Below.refl _ _).alloc (Nat.le_refl _) _
  have hbox : (w.alloc (.cells #[.int .i64 0] 26)).heap[w.heap.size]? = some (.cells #[.int .i64 0] 26 (0, 0)) := by
    show (w.heap.push _)[_]? = _
    simp
  have hc : (w.alloc (.cells #[.int .i64 0] 26)).cell? ⟨w.heap.size, 0, none⟩ = some (.int .i64 0) := (cell_block hbox 0).trans rfl
  have hsz : (w.alloc (.cells #[.int .i64 0] 26)).heap.size = w.heap.size + 1 := by simp
  refine (as_at k at0 g ⟨w.heap.size, 0, none⟩ (.int .i64 0) _ ((hb1.block g (boxLt hgA)).trans hgA) (hg.stay hb1) hc (free_block hbox 0)).mono ?_
  rintro e w' ⟨rfl, rfl⟩
  refine ⟨rfl, ?_, ?_⟩
  · refine cell_set (u := .int .i64 0) _ ?_
    rw [World.cell?_alloc_lt _ _ _ (by simp; omega), World.cell?_alloc_lt _ _ _ (by simp; omega), World.cell?_alloc_lt _ _ _ (by simp; omega), World.cell?_alloc_lt _ _ _ (by simp)]
    exact hc
  · exact (((((hb1.alloc (by simp) _).alloc (by simp; omega) _).alloc (by simp; omega) _).alloc (by simp; omega) _)).setCell (by simp) _
set_option maxHeartbeats 800000 in
theorem Tell_at (k at0 : Int) (g : Nat) (w : World) (hg : ErrType w) (hgA : w.heap[g]? = some (.cells #[.int .i64 k, .int .i64 at0] 65 (0, 0))) : Calls Tryz.prog 54 #[.iface 64 (.pointer (some ⟨g, 0, none⟩))] w fun e w' => e = .returned (.int .i64 k) ∧ Below w.heap.size w w' := by
  have HG := hid hg
  have HA := hid hgA
  clear hg hgA
  go_enter Tryz.func54, Tryz.ntmps54
  go_wp2_with (go_at_call 72; refine (as_tellAt k at0 g w HG.out HA.out).mono ?_; rintro e w1 ⟨rfl, hc1, hb1⟩; have HB1 := hid hb1; clear hb1)
  go_ret
  exact ⟨rfl, HB1.out⟩
theorem below_drewN {B : Nat} {w W : World} (h : Below B w W) (n : Nat) : Below B w (W.drewN n) := ⟨h.os, h.tape, h.output, h.size, h.block⟩
theorem yes_at (a : Option Addr) (xT : TypeId) (w : World) : (Instr.typeAssert (.iface 64 (.pointer a)) xT 64 true).run Tryz.prog w = .ok (.tuple #[.pointer a, .bool true]) w := by kernel_rfl
set_option maxHeartbeats 800000 in
theorem Place_nil (w : World) : Calls Tryz.prog 26 #[.nilIface] w fun e w' => e = .returned (.tuple #[.int .i64 0, .int .i64 (-1)]) ∧ Below w.heap.size w w' := by
  go_enter Tryz.func26, Tryz.ntmps26
  go_wp2_with (go_at_call 54; (with_reducible refine (Tell_nil w).mono ?_); rintro e w1 ⟨rfl, rfl⟩)
  go_loopw [0] (fun v wr => v = .nilIface ∧ Below w1.heap.size w1 wr) (fun _ _ => 0)
  case atStart => exact ⟨rfl, Below.refl _ _⟩
  case round =>
    obtain ⟨rfl, hb⟩ := hrel
    have HB := hid hb
    clear hb
    go_wp2_with fail
    go_ret2
    exact ⟨rfl, HB.out⟩
set_option maxHeartbeats 800000 in
set_option maxRecDepth 10000 in
theorem Place_at (k at0 : Int) (g : Nat) (w : World) (hg : ErrType w) (hgA : w.heap[g]? = some (.cells #[.int .i64 k, .int .i64 at0] 65 (0, 0))) : Calls Tryz.prog 26 #[.iface 64 (.pointer (some ⟨g, 0, none⟩))] w fun e w' => e = .returned (.tuple #[.int .i64 k, .int .i64 at0]) ∧ Below w.heap.size w w' := by
  have HG := hid hg
  have HA := hid hgA
  have hya := yes_at
  clear hg hgA
  go_enter Tryz.func26, Tryz.ntmps26
  go_wp2_with (go_at_call 54; (with_reducible refine (Tell_at k at0 g w HG.out HA.out).mono ?_); rintro e w1 ⟨rfl, hb⟩; have HB1 := hid hb; clear hb)
  go_loopw [0] (fun v wr => v = .iface 64 (.pointer (some ⟨g, 0, none⟩)) ∧ Below w.heap.size w wr) (fun _ _ => 0)
  case atStart => exact ⟨rfl, HB1.out⟩
  case round =>
    obtain ⟨rfl, hb⟩ := hrel
    have HB := hid hb
    have c1 : wr.cell? ⟨g, 1, none⟩ = some (.int .i64 at0) := (cell_block ((hb.block g (boxLt HA.out)).trans HA.out) 1).trans rfl
    clear hb
    go_upto_region 5 with fail
    go_quiet (fail)
    go_wp2_with fail
    go_ret2
    exact ⟨rfl, below_drewN HB.out _⟩
/-- What Parse hands back as the error, against what Rungs hands back as the fault. -/
theorem is_place (err : Value) (a b : Int) (w : World) (hp : ∀ W, Below w.heap.size w W → Calls Tryz.prog 26 #[err] W fun e w' => e = .returned (.tuple #[.int .i64 a, .int .i64 b]) ∧ Below W.heap.size W w') :
    Calls Tryz.prog 7 #[err, .agg #[.int .i64 a, .int .i64 b]] w fun e w' => e = .returned (.bool true) ∧ Below w.heap.size w w' := by
  obtain ⟨w0, hw0⟩ : ∃ w0, w.alloc (.cells #[.int .i64 a, .int .i64 b] 28) = w0 := ⟨_, rfl⟩
  have hb1 : Below w.heap.size w w0 := by rw [← hw0]; exact (Below.refl _ _).alloc (Nat.le_refl _) _
  have hsz : w0.heap.size = w.heap.size + 1 := by rw [← hw0]; simp
  have hbox : w0.heap[w.heap.size]? = some (.cells #[.int .i64 a, .int .i64 b] 28 (0, 0)) := by rw [← hw0]; exact heap_alloc_new w _
  have HP := hid (hp w0 hb1)
  have HB1 := hid hb1
  have hlt : w.heap.size < w0.heap.size := by omega
  clear hp hb1 hsz
  go_enter Tryz.func7, Tryz.ntmps7
  go_upto_region 1 with fail
  clear hw0
  go_upto_region 2 with (go_at_call 26; (with_reducible refine HP.out.mono ?_); rintro e w2 ⟨rfl, hb⟩; have HB2 := hid hb; clear hb)
  have hbk := (HB2.out.block _ hlt).trans hbox
  have c0 : w2.cell? ⟨w.heap.size, 0, none⟩ = some (.int .i64 a) := (cell_block hbk 0).trans rfl
  have c1 : w2.cell? ⟨w.heap.size, 1, none⟩ = some (.int .i64 b) := (cell_block hbk 1).trans rfl
  have hd0 : decide (a = a) = true := decide_eq_true rfl
  have hd1 : decide (b = b) = true := decide_eq_true rfl
  clear hbk hbox
  go_wp2_with fail
  go_ret
  exact ⟨rfl, HB1.out.trans (HB2.out.mono HB1.out.size)⟩
end Go.Proofs.YtlaeflpddehipabGreatDoor
