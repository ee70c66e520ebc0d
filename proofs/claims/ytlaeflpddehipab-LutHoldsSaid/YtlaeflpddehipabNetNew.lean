/- gate.Gates and gate.New: how many gates a net has; a net at first. -/
import Derived.Test.YtlaeflpddehipabNetRight2
set_option linter.unusedVariables false
namespace Go.Proofs.Ytlaeflpddehipab
open Go.RowKit

/-! ### rows of bits that the program itself lays -/
def bools (l : List Bool) : Array Value := (l.map Value.bool).toArray
theorem bools_get (l : List Bool) (j : Nat) (h : j < l.length) : (bools l)[j]? = some (.bool (l.getD j false)) := by
  simp [bools, List.getD_eq_getElem?_getD, h]
theorem bools_set (l : List Bool) (j : Nat) (b : Bool) : (bools l).setIfInBounds j (.bool b) = bools (l.set j b) := by
  apply Array.ext'
  simp [bools, List.map_set]
/-- Block r holds these bits, and may be written. -/
def Row (w : World) (r : Nat) (l : List Bool) : Prop := w.heap[r]? = some (.cells (bools l) 4 (0, 0))
theorem Row.cell {w : World} {r : Nat} {l : List Bool} (h : Row w r l) (j : Nat) (hj : j < l.length) : w.cell? ⟨r, j, none⟩ = some (.bool (l.getD j false)) := by
  rw [cell_block h j, bools_get l j hj]
theorem Row.free {w : World} {r : Nat} {l : List Bool} (h : Row w r l) (j : Nat) : w.frozen? ⟨r, j, none⟩ = false := free_block h j
theorem Row.lt {w : World} {r : Nat} {l : List Bool} (h : Row w r l) : r < w.heap.size := by
  rcases Nat.lt_or_ge r w.heap.size with h' | h'
  · exact h'
  · unfold Row at h; simp [Array.getElem?_eq_none h'] at h
theorem Row.set {w : World} {r : Nat} {l : List Bool} (h : Row w r l) (j : Nat) (b : Bool) : Row (w.setCell ⟨r, j, none⟩ (.bool b)) r (l.set j b) := by
  unfold Row
  rw [heap_setCell_same w r j _ _ _ h, bools_set]
theorem Row.keep {w w' : World} {r : Nat} {l : List Bool} (h : Row w r l) (hb : w'.heap[r]? = w.heap[r]?) : Row w' r l := by
  unfold Row; rw [hb]; exact h

theorem Try.make_bools (n : Nat) (hn : n ≤ 1000000) (u : World) : (Instr.makeSlice 36 (.int .i64 (n : Int)) (.int .i64 (n : Int))).run Try.prog u = .ok (.slice (some ⟨u.heap.size, 0, none⟩) n n) (u.alloc (.cells (bools (List.replicate n false)) 4)) := by
  obtain ⟨i0, hi, hz0, hz1, hz2⟩ := info_parts Try.infoBool
  have h := run_make (P := Try.prog) u 36 4 i0 (.bool false) Try.underlying36 hi hz0 .i64 .i64 (n : Int) (n : Int) (by omega) (Int.le_refl _) (by rw [hz2]; omega) (by omega)
  have e : madeCells #[Value.bool false] n = bools (List.replicate n false) := by
    apply Array.ext'
    rw [toList_madeCells_one]
    simp [bools]
  rw [Int.toNat_natCast] at h
  rw [h, hz1]
  simp [Value.cells, e]

theorem alloc_at (w : World) (o : Obj) : (w.alloc o).heap[w.heap.size]? = some o := by
  show (w.heap.push o)[_]? = _
  simp

/-- A bit set, with a new block and a draw. -/
theorem Row.next {wr : World} {R k : Nat} {l : List Bool} {o : Obj} {v : Bool} (h : Row wr R l) : Row ((wr.setCell ⟨R, k, none⟩ (.bool v)).alloc o).drew R (l.set k v) :=
  (h.set k v).keep (Below.heap_alloc _ _ _ (h.set k v).lt)
theorem other_next {wr : World} {R S k : Nat} {o o' : Obj} {v : Value} (h : wr.heap[S]? = some o') (hne : S ≠ R) : ((wr.setCell ⟨R, k, none⟩ v).alloc o).drew.heap[S]? = some o' := by
  have hlt : S < wr.heap.size := by
    rcases Nat.lt_or_ge S wr.heap.size with h' | h'
    · exact h'
    · simp [Array.getElem?_eq_none h'] at h
  show ((wr.setCell ⟨R, k, none⟩ v).alloc o).heap[S]? = _
  rw [Below.heap_alloc _ _ _ (by simp [World.setCell]; exact hlt), heap_setCell_other _ _ _ _ hne]
  exact h
theorem below_next {w wr : World} {R k : Nat} {o : Obj} {v : Value} (h : Below w.heap.size w wr) (hR : w.heap.size ≤ R) : Below w.heap.size w ((wr.setCell ⟨R, k, none⟩ v).alloc o).drew :=
  ((h.setCell hR v).alloc (h.setCell hR v).size _).drew

/-! ### Gates -/
def GN.isGate (x : GN) : Bool := decide (5 ≤ x.op ∧ x.op ≤ 8)
def gatesTo (l : List GN) (k : Nat) : Nat := ((l.take k).filter GN.isGate).length
theorem gatesTo_succ (l : List GN) (k : Nat) (h : k < l.length) : gatesTo l (k + 1) = gatesTo l k + if (l.getD k GN.zero).isGate then 1 else 0 := by
  unfold gatesTo
  rw [List.take_succ_eq_append_getElem h, List.filter_append, List.length_append]
  have e : l.getD k GN.zero = l[k] := by simp [List.getD_eq_getElem?_getD, h]
  rw [e]
  simp [List.filter_cons]
  split <;> simp
theorem gatesTo_le (l : List GN) (k : Nat) : gatesTo l k ≤ k := by
  unfold gatesTo
  refine Nat.le_trans (List.length_filter_le _ _) ?_
  simp
  omega
def Net.gates (N : Net) : Nat := gatesTo N.nodes N.nodes.length


/-! ### New -/

def GN.first (x : GN) : Bool := x.op == 4 && x.a == 1
def Net.first (N : Net) : List Bool := N.nodes.map GN.first



theorem first_split (l : List Bool) (k : Nat) (n : Nat) (hn : n = l.length) (hk : k < n) : (l.take k ++ List.replicate (n - k) false).set k (l.getD k false) = l.take (k + 1) ++ List.replicate (n - (k + 1)) false := by
  subst hn
  apply List.ext_getElem?
  intro j
  rw [List.getElem?_set]
  simp only [List.length_append, List.length_take, List.length_replicate, List.getElem?_append, List.getElem?_take, List.getElem?_replicate]
  by_cases h1 : k = j
  · subst h1
    have e0 : min k l.length = k := by omega
    have e1 : k < min (k + 1) l.length := by omega
    simp [hk, List.getD_eq_getElem?_getD, e0, e1]
    try omega
  · rw [if_neg h1]
    by_cases h2 : j < k
    · have e1 : j < min k l.length := by omega
      have e2 : j < min (k + 1) l.length := by omega
      simp [e1, e2, h2, show j < k + 1 by omega]
    · have e1 : ¬ j < min k l.length := by omega
      have e2 : ¬ j < min (k + 1) l.length := by omega
      simp only [e1, e2, if_false]
      by_cases h3 : j < l.length
      · rw [if_pos (by omega), if_pos (by omega)]
      · rw [if_neg (by omega), if_neg (by omega)]

end Go.Proofs.Ytlaeflpddehipab
