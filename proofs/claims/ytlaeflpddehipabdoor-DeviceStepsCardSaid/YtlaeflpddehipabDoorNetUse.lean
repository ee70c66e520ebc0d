/- Simulators in memory, from step to step. -/
import Derived.Test.YtlaeflpddehipabDoorNetStep
set_option linter.unusedVariables false
namespace Go.Proofs.YtlaeflpddehipabDoor
open Go.RowKit

/-- A simulator of a net that may be, with its registers as they are now. -/
structure SimOk (B : Nat) (w : World) (b : Nat) (a : Option Addr) (c : Nat) (a' : Option Addr) (c' : Nat) (N : Net) (s r : Nat) (regs : List Bool) : Prop where
  net : NetIn B w b a c a' c' N
  right : N.right = true
  sim : SimIn w s r b regs
  len : regs.length = N.nodes.length
  bs : B ≤ s
  br : B ≤ r
  sr : s ≠ r
  bw : B ≤ w.heap.size

/-- Bits that are given: they lie in memory, and not where the registers lie. -/
structure Bits (w : World) (ag : Option Addr) (given : List Bool) (r : Nat) : Prop where
  cells : Cells w.heap.size w ag given.length (fun i => .bool (given.getD i false))
  apart : ∀ bg off, ag = some ⟨bg, off, none⟩ → 0 < given.length → bg ≠ r
  len : given.length ≤ maxLen

theorem Bits.nil (w : World) (r : Nat) : Bits w none [] r := ⟨.inl rfl, fun _ _ h => (by cases h), Nat.zero_le _⟩

theorem sim_step (B : Nat) (b : Nat) (a : Option Addr) (c : Nat) (a' : Option Addr) (c' : Nat) (N : Net) (w : World) (s r : Nat) (regs : List Bool) (ag : Option Addr) (cg : Nat) (given : List Bool)
    (h : SimOk B w b a c a' c' N s r regs) (hg : Bits w ag given r) :
    Calls Tryd.prog 21 #[.pointer (some ⟨s, 0, none⟩), .slice ag given.length cg] w (StepPost N regs given r w) :=
  Step_any B b a c a' c' N w s r regs ag cg given ⟨h.net, h.right, h.sim, h.len, h.bs, h.br, h.sr, h.bw, hg.cells, hg.apart, hg.len⟩

theorem SimOk.slt {B : Nat} {w : World} {b : Nat} {a : Option Addr} {c : Nat} {a' : Option Addr} {c' : Nat} {N : Net} {s r : Nat} {regs : List Bool} (h : SimOk B w b a c a' c' N s r regs) : s < w.heap.size := by
  rcases Nat.lt_or_ge s w.heap.size with h' | h'
  · exact h'
  · have := h.sim.1; simp [Array.getElem?_eq_none h'] at this
theorem SimOk.rlt {B : Nat} {w : World} {b : Nat} {a : Option Addr} {c : Nat} {a' : Option Addr} {c' : Nat} {N : Net} {s r : Nat} {regs : List Bool} (h : SimOk B w b a c a' c' N s r regs) : r < w.heap.size := h.sim.2.lt

/-- Behind its own step. -/
theorem SimOk.next {B : Nat} {w w' : World} {b : Nat} {a : Option Addr} {c : Nat} {a' : Option Addr} {c' : Nat} {N : Net} {s r : Nat} {regs given : List Bool} (h : SimOk B w b a c a' c' N s r regs)
    (hrow : Row w' r (N.regs' regs given)) (hg : w.grownBy w' (some r)) : SimOk B w' b a c a' c' N s r (N.regs' regs given) := by
  have hl : (N.regs' regs given).length = regs.length := N.regsTo_len _ _ _
  refine ⟨h.net.stay (below_of_grown hg h.bw h.br), h.right, ⟨?_, hrow⟩, by rw [hl]; exact h.len, h.bs, h.br, h.sr, Nat.le_trans h.bw hg.size⟩
  rw [hg.block s h.slt (by simp; exact h.sr), hl]
  exact h.sim.1

/-- Where nothing of it has changed. -/
theorem SimOk.keep {B : Nat} {w w' : World} {b : Nat} {a : Option Addr} {c : Nat} {a' : Option Addr} {c' : Nat} {N : Net} {s r : Nat} {regs : List Bool} {r' : Nat} (h : SimOk B w b a c a' c' N s r regs)
    (hg : w.grownBy w' (some r')) (hb : B ≤ r') (hs : s ≠ r') (hr : r ≠ r') : SimOk B w' b a c a' c' N s r regs :=
  ⟨h.net.stay (below_of_grown hg h.bw hb), h.right, ⟨by rw [hg.block s h.slt (by simp; exact hs)]; exact h.sim.1, h.sim.2.keep (hg.block r h.rlt (by simp; exact hr))⟩, h.len, h.bs, h.br, h.sr, Nat.le_trans h.bw hg.size⟩
theorem SimOk.stay {B : Nat} {w w' : World} {b : Nat} {a : Option Addr} {c : Nat} {a' : Option Addr} {c' : Nat} {N : Net} {s r : Nat} {regs : List Bool} (h : SimOk B w b a c a' c' N s r regs)
    (hb : Below w.heap.size w w') : SimOk B w' b a c a' c' N s r regs :=
  ⟨h.net.stay (hb.mono h.bw), h.right, ⟨by rw [hb.block s h.slt]; exact h.sim.1, h.sim.2.keep (hb.block r h.rlt)⟩, h.len, h.bs, h.br, h.sr, Nat.le_trans h.bw hb.size⟩
theorem SimOk.mk' {B : Nat} {w w' : World} {b : Nat} {a : Option Addr} {c : Nat} {a' : Option Addr} {c' : Nat} {N : Net} {s r : Nat} (hn : NetIn B w b a c a' c' N) (hr : N.right = true) (hs : w.heap.size ≤ s) (hr' : w.heap.size ≤ r) (hsr : s ≠ r)
    (hsim : SimIn w' s r b N.first) (hb : Below w.heap.size w w') (hB : B ≤ w.heap.size) : SimOk B w' b a c a' c' N s r N.first :=
  ⟨hn.stay (hb.mono hB), hr, hsim, by simp [Net.first], Nat.le_trans hB hs, Nat.le_trans hB hr', hsr, Nat.le_trans hB hb.size⟩

/-- An owned row of one-cell elements, its shape and cells. -/
theorem owns_form {w : World} {base E n : Nat} {v : Value} {xs : List Value} (h : w.ownsRow base E 1 v n xs) (hn : 0 < n) :
    ∃ g cap, v = .slice (some ⟨g, 0, none⟩) n cap ∧ base ≤ g ∧ g < w.heap.size ∧ ∀ j, j < n → w.cell? ⟨g, j, none⟩ = some (xs.getD j undef) := by
  have hlt := h.lt
  obtain ⟨a, c, rfl, h1, h2, h3⟩ := Cells.of_owns h
  rcases h.2 with ⟨h4, h5⟩ | ⟨g, cap, cur, hv, hg, _⟩
  · omega
  · simp only [Value.slice.injEq] at hv
    obtain ⟨rfl, _, rfl⟩ := hv
    have hl := hlt g rfl
    refine ⟨g, c, rfl, hg, hl.2, ?_⟩
    rcases h3 with h3 | ⟨b, off, ha, hb, hc⟩
    · omega
    · simp only [Option.some.injEq, Addr.mk.injEq, and_true] at ha
      obtain ⟨rfl, rfl⟩ := ha
      intro j hj
      have := hc j (by omega)
      simpa using this
end Go.Proofs.YtlaeflpddehipabDoor
