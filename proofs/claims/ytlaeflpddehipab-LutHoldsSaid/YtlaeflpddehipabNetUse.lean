/- Simulators in memory, from step to step. -/
import Derived.Test.YtlaeflpddehipabNetStep
set_option linter.unusedVariables false
namespace Go.Proofs.Ytlaeflpddehipab
open Go.RowKit


/-- Bits that are given: they lie in memory, and not where the registers lie. -/
structure Bits (w : World) (ag : Option Addr) (given : List Bool) (r : Nat) : Prop where
  cells : Cells w.heap.size w ag given.length (fun i => .bool (given.getD i false))
  apart : ∀ bg off, ag = some ⟨bg, off, none⟩ → 0 < given.length → bg ≠ r
  len : given.length ≤ maxLen

theorem Bits.nil (w : World) (r : Nat) : Bits w none [] r := ⟨.inl rfl, fun _ _ h => (by cases h), Nat.zero_le _⟩





/-- An owned row of one-cell elements, its shape and cells. -/
theorem owns_form {w : World} {base E n : Nat} {v : Value} {xs : List Value} (h : w.ownsRow base E 1 v n xs) (hn : 0 < n) :
    ∃ g cap, v = .slice (some ⟨g, 0, none⟩) n cap ∧ base ≤ g ∧ g < w.heap.size ∧ ∀ j, j < n → w.cell? ⟨g, j, none⟩ = some (xs.getD j undef) := by
  have hlt := h.lt
  obtain ⟨a, c, rfl, h1, h2, h3⟩ := Cells.of_owns h
  rcases h.2 with ⟨h4, h5⟩ | ⟨g, cap, cur, hv, hg, _⟩
  · omega
  · simp only [Value.slice.injEq] at hv
    obtain ⟨rfl, _, rfl⟩ := hv
    have hl := hlt g rfl
    refine ⟨g, c, rfl, hg, hl.2, ?_⟩
    rcases h3 with h3 | ⟨b, off, ha, hb, hc⟩
    · omega
    · simp only [Option.some.injEq, Addr.mk.injEq, and_true] at ha
      obtain ⟨rfl, rfl⟩ := ha
      intro j hj
      have := hc j (by omega)
      simpa using this
end Go.Proofs.Ytlaeflpddehipab
