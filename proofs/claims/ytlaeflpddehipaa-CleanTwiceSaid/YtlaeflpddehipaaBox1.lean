/- A net that lies in the block that was made first. -/
import Derived.Test.YtlaeflpddehipaaTwUse
set_option linter.unusedVariables false
namespace Go.Proofs.Ytlaeflpddehipaa
open Go.RowKit

/-- A net lies in the block that was made first. -/
structure Box1 (w : World) (x : Array Value) (w' : World) : Prop where
  x : w'.heap[w.heap.size]? = some (.cells x 48 (0, 0))
  b : Below w.heap.size w w'
theorem Box1.first (w : World) (x : Array Value) : Box1 w x (w.alloc (.cells x 48)) := ⟨alloc_at _ _, (Below.refl _ _).alloc (Nat.le_refl _) _⟩
theorem Box1.size {w w' : World} {x : Array Value} (h : Box1 w x w') : w.heap.size + 1 ≤ w'.heap.size := by
  rcases Nat.lt_or_ge w.heap.size w'.heap.size with h' | h'
  · exact h'
  · have := h.x; rw [Array.getElem?_eq_none h'] at this; cases this
theorem Box1.next {w w1 w2 : World} {x : Array Value} (h : Box1 w x w1) (hb : Below w1.heap.size w1 w2) : Box1 w x w2 :=
  ⟨(hb.block _ h.size).trans h.x, h.b.trans (hb.mono h.b.size)⟩
theorem Box1.net {B : Nat} {w w' : World} {a : Option Addr} {c : Nat} {a' : Option Addr} {c' : Nat} {N : Net} (h : Box1 w (netVal a c a' c' N) w') (hN : NetRows B w a c a' c' N) (hB : B ≤ w.heap.size) : NetIn (w.heap.size + 1) w' w.heap.size a c a' c' N :=
  hN.box hB h.x h.b _ (Nat.lt_succ_self _) (by omega)
theorem Box1.cell0 {w w' : World} {a : Option Addr} {c : Nat} {a' : Option Addr} {c' : Nat} {N : Net} (h : Box1 w (netVal a c a' c' N) w') : w'.cell? ⟨w.heap.size, 0, none⟩ = some (.int .i64 N.given) := (cell_block h.x 0).trans rfl
theorem Box1.cell1 {w w' : World} {a : Option Addr} {c : Nat} {a' : Option Addr} {c' : Nat} {N : Net} (h : Box1 w (netVal a c a' c' N) w') : w'.cell? ⟨w.heap.size, 1, none⟩ = some (.slice a N.nodes.length c) := (cell_block h.x 1).trans rfl
theorem Box1.cell2 {w w' : World} {a : Option Addr} {c : Nat} {a' : Option Addr} {c' : Nat} {N : Net} (h : Box1 w (netVal a c a' c' N) w') : w'.cell? ⟨w.heap.size, 2, none⟩ = some (.slice a' N.outs.length c') := (cell_block h.x 2).trans rfl
theorem gates_from {B b : Nat} {a : Option Addr} {c : Nat} {a' : Option Addr} {c' : Nat} {N : Net} {w9 W : World} (h : NetIn B w9 b a c a' c' N) (hB : B ≤ w9.heap.size) (hb : Below w9.heap.size w9 W) :
    Calls Try.prog 32 #[.pointer (some ⟨b, 0, none⟩)] W fun e w' => e = .returned (.int .i64 (N.gates : Nat)) ∧ Below w9.heap.size w9 w' := by
  refine (Gates_any B b a c a' c' N W (h.stay (hb.mono hB)) (Nat.le_trans hB hb.size)).mono ?_
  rintro e w' ⟨rfl, hb'⟩
  exact ⟨rfl, hb.trans (hb'.mono hb.size)⟩
theorem right_from {B b : Nat} {a : Option Addr} {c : Nat} {a' : Option Addr} {c' : Nat} {N : Net} {w9 W : World} (h : NetIn B w9 b a c a' c' N) (hr : N.right = true) (hB : B ≤ w9.heap.size) (hb : Below w9.heap.size w9 W) :
    Calls Try.prog 30 #[.pointer (some ⟨b, 0, none⟩)] W fun e w' => e = .returned (.bool true) ∧ Below w9.heap.size w9 w' := by
  refine (Right_any B b a c a' c' N W (h.stay (hb.mono hB)) (Nat.le_trans hB hb.size)).mono ?_
  rintro e w' ⟨rfl, hb'⟩
  rw [hr]
  exact ⟨rfl, hb.trans (hb'.mono hb.size)⟩
theorem small_at2 (a : Option Addr) (c : Nat) (a' : Option Addr) (c' : Nat) (N : Net) (r : Bool) (h : Hid (N.small = r)) (w : World) :
    Calls Try.prog 28 #[.agg #[.int .i64 N.given, .slice a N.nodes.length c, .slice a' N.outs.length c']] w (Tells r w) := small_is a c a' c' N r h w
end Go.Proofs.Ytlaeflpddehipaa
