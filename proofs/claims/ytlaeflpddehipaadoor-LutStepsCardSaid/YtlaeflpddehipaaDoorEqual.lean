/- slices.Equal at bools and ints: whether two slices hold the same. -/
import Derived.Test.YtlaeflpddehipaaDoorBase
import Derived.Deep.QuietTactic
import Derived.BigQuiet
set_option linter.unusedVariables false
namespace Go.Proofs.YtlaeflpddehipaaDoor
open Go.RowKit

/-- A bool comes back; but for draws the world is as it was. -/
def Says (b : Bool) (w : World) (e : Ending) (w' : World) : Prop := e = .returned (.bool b) ∧ ∃ q, w' = w.drewN q

theorem Says.below {b : Bool} {w w' : World} {e : Ending} (h : Says b w e w') : e = .returned (.bool b) ∧ Below w.heap.size w w' := by
  obtain ⟨h1, q, rfl⟩ := h
  exact ⟨h1, below_drewN (Below.refl _ _) q⟩

theorem drewN_add (w : World) (a b : Nat) : (w.drewN a).drewN b = w.drewN (a + b) := by simp [World.drewN, Nat.add_assoc]

theorem Cells.drewN {B : Nat} {w : World} {a : Option Addr} {m : Nat} {f : Nat → Value} (h : Cells B w a m f) (q : Nat) : Cells B (w.drewN q) a m f := h

theorem prefix_step {α : Type} [DecidableEq α] (l m : List α) (d : α) (k : Nat) (hl : k < l.length) (hm : k < m.length) (h : l.take k = m.take k) (hk : l.getD k d = m.getD k d) : l.take (k + 1) = m.take (k + 1) := by
  rw [List.take_succ_eq_append_getElem hl, List.take_succ_eq_append_getElem hm, h]
  simp [List.getD_eq_getElem?_getD, hl, hm] at hk
  rw [hk]

theorem prefix_ne {α : Type} (l m : List α) (d : α) (k : Nat) (hk : ¬ l.getD k d = m.getD k d) : ¬ l = m := by
  intro h; subst h; exact hk rfl


end Go.Proofs.YtlaeflpddehipaaDoor
