/- Nets as values; whether a net is few enough to be held. -/
import Derived.Test.YtlaeflpddehipaaNetUse
import Derived.Test.YtlaeflpddehipaaEqual
import Derived.Test.YtlaeflpddehipaaRegion
set_option linter.unusedVariables false
namespace Go.Proofs.Ytlaeflpddehipaa
open Go.RowKit

/-- A net as a value. -/
def netVal (a : Option Addr) (c : Nat) (a' : Option Addr) (c' : Nat) (N : Net) : Array Value := #[.int .i64 N.given, .slice a N.nodes.length c, .slice a' N.outs.length c']
def Net.small (N : Net) : Bool := decide (N.nodes.length ≤ 60) && decide (N.outs.length ≤ 30) && decide (N.given ≤ 200)

/-- The rows that a net's value leads to. -/
structure NetRows (B : Nat) (w : World) (a : Option Addr) (c : Nat) (a' : Option Addr) (c' : Nat) (N : Net) : Prop where
  rn : Cells B w a (N.nodes.length * 4) (nodeCell N.nodes)
  ro : Cells B w a' N.outs.length (fun i => .int .i64 (N.outs.getD i 0))
  ln : N.nodes.length ≤ maxLen
  lo : N.outs.length ≤ maxLen

/-- A net that is laid into a new block. -/
theorem NetRows.box {B : Nat} {w w' : World} {a : Option Addr} {c : Nat} {a' : Option Addr} {c' : Nat} {N : Net} {T : TypeId} (h : NetRows B w a c a' c' N) (hB : B ≤ w.heap.size) {b : Nat} (hb : w'.heap[b]? = some (.cells (netVal a c a' c' N) T (0, 0)))
    (hbw : Below w.heap.size w w') (C : Nat) (hC : b < C) (hBC : B ≤ C) : NetIn C w' b a c a' c' N where
  g := by rw [cell_block hb]; rfl
  nodes := by rw [cell_block hb]; rfl
  outs := by rw [cell_block hb]; rfl
  rn := (h.rn.stay (hbw.mono hB)).mono hBC
  ro := (h.ro.stay (hbw.mono hB)).mono hBC
  hb := hC
  ln := h.ln
  lo := h.lo

theorem small_any (a : Option Addr) (c : Nat) (a' : Option Addr) (c' : Nat) (N : Net) (w : World) :
    Calls Try.prog 28 #[.agg #[.int .i64 N.given, .slice a N.nodes.length c, .slice a' N.outs.length c']] w (Tells N.small w) := by
  have E : Hid (N.small = (decide (N.nodes.length ≤ 60) && decide (N.outs.length ≤ 30) && decide (N.given ≤ 200))) := rfl
  generalize N.nodes.length = n at *
  generalize N.outs.length = n' at *
  generalize N.given = g at *
  generalize N.small = r at *
  by_cases h1 : n ≤ 60
  · by_cases h2 : n' ≤ 30
    · have d1 : (n : Int) ≤ 60 := by omega
      have d2 : (n' : Int) ≤ 30 := by omega
      have F : Hid (r = decide (g ≤ 200)) := by unfold Hid; rw [E.out]; simp [h1, h2]
      go_enter Try.func28, Try.ntmps28
      go_wp2
      all_goals go_ret
      all_goals exact ⟨ret_bool (by rw [F.out]), (Below.refl _ _).alloc (Nat.le_refl _) _⟩
    · have d1 : (n : Int) ≤ 60 := by omega
      have d2 : decide ((n' : Int) ≤ 30) = false := decide_eq_false (by omega)
      have F : Hid (r = false) := by unfold Hid; rw [E.out]; simp [h1, h2]
      go_enter Try.func28, Try.ntmps28
      go_wp2
      all_goals go_ret
      all_goals exact ⟨ret_bool F.out.symm, (Below.refl _ _).alloc (Nat.le_refl _) _⟩
  · have d1 : decide ((n : Int) ≤ 60) = false := decide_eq_false (by omega)
    have F : Hid (r = false) := by unfold Hid; rw [E.out]; simp [h1]
    go_enter Try.func28, Try.ntmps28
    go_wp2
    all_goals go_ret
    all_goals exact ⟨ret_bool F.out.symm, (Below.refl _ _).alloc (Nat.le_refl _) _⟩

theorem small_is (a : Option Addr) (c : Nat) (a' : Option Addr) (c' : Nat) (N : Net) (r : Bool) (h : Hid (N.small = r)) (w : World) :
    Calls Try.prog 28 #[.agg #[.int .i64 N.given, .slice a N.nodes.length c, .slice a' N.outs.length c']] w (Tells r w) := by
  have h' : N.small = r := h
  rw [← h']; exact small_any a c a' c' N w
end Go.Proofs.Ytlaeflpddehipaa
