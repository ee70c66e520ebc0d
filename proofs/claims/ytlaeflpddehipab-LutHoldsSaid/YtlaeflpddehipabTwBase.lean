/- Nets as values; whether a net is few enough to be held. -/
import Derived.Test.YtlaeflpddehipabNetUse
import Derived.Test.YtlaeflpddehipabRegion
set_option linter.unusedVariables false
namespace Go.Proofs.Ytlaeflpddehipab
open Go.RowKit

/-- A net as a value. -/
def netVal (a : Option Addr) (c : Nat) (a' : Option Addr) (c' : Nat) (N : Net) : Array Value := #[.int .i64 N.given, .slice a N.nodes.length c, .slice a' N.outs.length c']
def Net.small (N : Net) : Bool := decide (N.nodes.length ≤ 60) && decide (N.outs.length ≤ 30) && decide (N.given ≤ 200)

/-- The rows that a net's value leads to. -/
structure NetRows (B : Nat) (w : World) (a : Option Addr) (c : Nat) (a' : Option Addr) (c' : Nat) (N : Net) : Prop where
  rn : Cells B w a (N.nodes.length * 4) (nodeCell N.nodes)
  ro : Cells B w a' N.outs.length (fun i => .int .i64 (N.outs.getD i 0))
  ln : N.nodes.length ≤ maxLen
  lo : N.outs.length ≤ maxLen

/-- A net that is laid into a new block. -/
theorem NetRows.box {B : Nat} {w w' : World} {a : Option Addr} {c : Nat} {a' : Option Addr} {c' : Nat} {N : Net} {T : TypeId} (h : NetRows B w a c a' c' N) (hB : B ≤ w.heap.size) {b : Nat} (hb : w'.heap[b]? = some (.cells (netVal a c a' c' N) T (0, 0)))
    (hbw : Below w.heap.size w w') (C : Nat) (hC : b < C) (hBC : B ≤ C) : NetIn C w' b a c a' c' N where
  g := by rw [cell_block hb]; rfl
  nodes := by rw [cell_block hb]; rfl
  outs := by rw [cell_block hb]; rfl
  rn := (h.rn.stay (hbw.mono hB)).mono hBC
  ro := (h.ro.stay (hbw.mono hB)).mono hBC
  hb := hC
  ln := h.ln
  lo := h.lo
end Go.Proofs.Ytlaeflpddehipab
