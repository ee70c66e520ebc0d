/- Nets of gates in memory; which may be ('Right'). -/
import Derived.Test.YtlaeflpddehipabOpen
import Derived.RegionTactic
import Derived.Deep.QuietTactic
import Derived.BigQuiet
set_option linter.unusedVariables false
namespace Go.Proofs.Ytlaeflpddehipab
open Go.RowKit

/-- A node. -/
structure GN where
  op : Int
  a : Int
  b : Int
  next : Int
  deriving DecidableEq, Inhabited

def GN.cell (x : GN) (k : Nat) : Value :=
  match k with
  | 0 => .int .i64 x.op
  | 1 => .int .i64 x.a
  | 2 => .int .i64 x.b
  | _ => .int .i64 x.next
def GN.cells (x : GN) : Array Value := #[.int .i64 x.op, .int .i64 x.a, .int .i64 x.b, .int .i64 x.next]
def GN.zero : GN := ⟨0, 0, 0, 0⟩
/-- The cells of a row of nodes. -/
def nodeCell (l : List GN) (j : Nat) : Value := (l.getD (j / 4) GN.zero).cell (j % 4)

structure Net where
  given : Int
  nodes : List GN
  outs : List Int

/-- A net lies at block b: its three fields; the nodes and the outs are what they are. -/
structure NetIn (B : Nat) (w : World) (b : Nat) (a : Option Addr) (c : Nat) (a' : Option Addr) (c' : Nat) (N : Net) : Prop where
  g : w.cell? ⟨b, 0, none⟩ = some (.int .i64 N.given)
  nodes : w.cell? ⟨b, 1, none⟩ = some (.slice a N.nodes.length c)
  outs : w.cell? ⟨b, 2, none⟩ = some (.slice a' N.outs.length c')
  rn : Cells B w a (N.nodes.length * 4) (nodeCell N.nodes)
  ro : Cells B w a' N.outs.length (fun i => .int .i64 (N.outs.getD i 0))
  hb : b < B
  ln : N.nodes.length ≤ maxLen
  lo : N.outs.length ≤ maxLen

theorem NetIn.stay {B : Nat} {w w' : World} {b : Nat} {a : Option Addr} {c : Nat} {a' : Option Addr} {c' : Nat} {N : Net} (h : NetIn B w b a c a' c' N) (hb : Below B w w') : NetIn B w' b a c a' c' N where
  g := (hb.cell (p := ⟨b, 0, none⟩) h.hb).trans h.g
  nodes := (hb.cell (p := ⟨b, 1, none⟩) h.hb).trans h.nodes
  outs := (hb.cell (p := ⟨b, 2, none⟩) h.hb).trans h.outs
  rn := h.rn.stay hb
  ro := h.ro.stay hb
  hb := h.hb
  ln := h.ln
  lo := h.lo
theorem NetIn.mono {B B' : Nat} {w : World} {b : Nat} {a : Option Addr} {c : Nat} {a' : Option Addr} {c' : Nat} {N : Net} (h : NetIn B w b a c a' c' N) (hb : B ≤ B') : NetIn B' w b a c a' c' N :=
  ⟨h.g, h.nodes, h.outs, h.rn.mono hb, h.ro.mono hb, Nat.lt_of_lt_of_le h.hb hb, h.ln, h.lo⟩

/-- The cells of the i-th node. -/
theorem NetIn.node {B : Nat} {w : World} {b : Nat} {a : Option Addr} {c : Nat} {a' : Option Addr} {c' : Nat} {N : Net} (h : NetIn B w b a c a' c' N) (i : Nat) (hi : i < N.nodes.length) :
    ∃ b1 off, a = some ⟨b1, off, none⟩ ∧ b1 < B ∧ w.cell? ⟨b1, off + i * 4, none⟩ = some (.int .i64 (N.nodes.getD i GN.zero).op) ∧ w.cell? ⟨b1, off + i * 4 + 1, none⟩ = some (.int .i64 (N.nodes.getD i GN.zero).a) ∧
      w.cell? ⟨b1, off + i * 4 + 2, none⟩ = some (.int .i64 (N.nodes.getD i GN.zero).b) ∧ w.cell? ⟨b1, off + i * 4 + 3, none⟩ = some (.int .i64 (N.nodes.getD i GN.zero).next) := by
  obtain ⟨b1, off, ha, hB, hc⟩ := h.rn.at (by omega)
  refine ⟨b1, off, ha, hB, ?_, ?_, ?_, ?_⟩
  · have := hc (i * 4) (by omega)
    rw [this]; simp [nodeCell, GN.cell]
  · have := hc (i * 4 + 1) (by omega)
    rw [Nat.add_assoc, this]
    have e1 : (i * 4 + 1) / 4 = i := by omega
    have e2 : (i * 4 + 1) % 4 = 1 := by omega
    simp [nodeCell, e1, e2, GN.cell]
  · have := hc (i * 4 + 2) (by omega)
    rw [Nat.add_assoc, this]
    have e1 : (i * 4 + 2) / 4 = i := by omega
    have e2 : (i * 4 + 2) % 4 = 2 := by omega
    simp [nodeCell, e1, e2, GN.cell]
  · have := hc (i * 4 + 3) (by omega)
    rw [Nat.add_assoc, this]
    have e1 : (i * 4 + 3) / 4 = i := by omega
    have e2 : (i * 4 + 3) % 4 = 3 := by omega
    simp [nodeCell, e1, e2, GN.cell]

/-- Whether a node may be the i-th. -/
def aheadB (i : Nat) (k : Int) : Bool := decide (0 ≤ k ∧ k < (i : Int))
def nodeRight (g : Int) (m i : Nat) (x : GN) : Bool :=
  if x.op = 1 ∨ x.op = 2 then true
  else if x.op = 3 then decide (0 ≤ x.a ∧ x.a < g)
  else if x.op = 4 then decide ((x.a = 0 ∨ x.a = 1) ∧ 0 ≤ x.next ∧ x.next < (m : Int))
  else if x.op = 8 then aheadB i x.a
  else if x.op = 5 ∨ x.op = 6 ∨ x.op = 7 then aheadB i x.a && aheadB i x.b
  else false
def Net.rightTo (N : Net) (k : Nat) : Bool := (List.range k).all fun i => nodeRight N.given N.nodes.length i (N.nodes.getD i GN.zero)
def Net.outsTo (N : Net) (k : Nat) : Bool := (List.range k).all fun i => decide (0 ≤ N.outs.getD i 0 ∧ N.outs.getD i 0 < (N.nodes.length : Int))
def Net.sizes (N : Net) : Bool := decide (0 ≤ N.given ∧ N.given ≤ 20000 ∧ N.nodes.length ≤ 20000 ∧ N.outs.length ≤ 20000)
def Net.right (N : Net) : Bool := N.sizes && N.rightTo N.nodes.length && N.outsTo N.outs.length

/-- A bool comes back; what was there stays. -/
def Tells (b : Bool) (w : World) (e : Ending) (w' : World) : Prop := e = .returned (.bool b) ∧ Below w.heap.size w w'

theorem ahead_any (i : Nat) (k : Int) (B : Nat) (w : World) (hi : w.cell? ⟨B, 0, none⟩ = some (.int .i64 i)) :
    Calls Try.prog 35 #[.int .i64 k, .pointer (some ⟨B, 0, none⟩)] w fun e w' => e = .returned (.bool (aheadB i k)) ∧ w' = w := by
  by_cases h0 : 0 ≤ k
  · by_cases h1 : k < i
    · have e : Hid (aheadB i k = true) := by unfold Hid aheadB; simp [h0, h1]
      go_enter Try.func35, Try.ntmps35
      go_wp2
      go_ret
      exact ⟨ret_bool e.out.symm, rfl⟩
    · have e : Hid (aheadB i k = false) := by unfold Hid aheadB; simp; omega
      go_enter Try.func35, Try.ntmps35
      go_wp2
      go_ret
      exact ⟨ret_bool e.out.symm, rfl⟩
  · have e : Hid (aheadB i k = false) := by unfold Hid aheadB; simp; omega
    go_enter Try.func35, Try.ntmps35
    go_wp2
    go_ret
    exact ⟨ret_bool e.out.symm, rfl⟩

theorem ahead_is (i : Nat) (k : Int) (B : Nat) (r : Bool) (w : World) (h : Hid (aheadB i k = r)) (hi : w.cell? ⟨B, 0, none⟩ = some (.int .i64 i)) :
    Calls Try.prog 35 #[.int .i64 k, .pointer (some ⟨B, 0, none⟩)] w fun e w' => e = .returned (.bool r) ∧ w' = w := by
  have h' : aheadB i k = r := h
  rw [← h']; exact ahead_any i k B w hi
end Go.Proofs.Ytlaeflpddehipab
