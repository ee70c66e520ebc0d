/- What a cycle of a net computes: plain. -/
import Derived.Test.YtlaeflpddehipabNetNew
set_option linter.unusedVariables false
namespace Go.Proofs.Ytlaeflpddehipab
open Go.RowKit

def valOf (x : GN) (reg : Bool) (given pre : List Bool) : Bool :=
  if x.op = 2 then true
  else if x.op = 3 then given.getD x.a.toNat false
  else if x.op = 4 then reg
  else if x.op = 5 then pre.getD x.a.toNat false && pre.getD x.b.toNat false
  else if x.op = 6 then pre.getD x.a.toNat false || pre.getD x.b.toNat false
  else if x.op = 7 then pre.getD x.a.toNat false != pre.getD x.b.toNat false
  else if x.op = 8 then !(pre.getD x.a.toNat false)
  else false

def Net.valsTo (N : Net) (regs given : List Bool) : Nat → List Bool
  | 0 => []
  | k + 1 => N.valsTo regs given k ++ [valOf (N.nodes.getD k GN.zero) (regs.getD k false) given (N.valsTo regs given k)]
theorem Net.valsTo_len (N : Net) (regs given : List Bool) (k : Nat) : (N.valsTo regs given k).length = k := by
  induction k with
  | zero => rfl
  | succ k ih => simp [Net.valsTo, ih]
def Net.vals (N : Net) (regs given : List Bool) : List Bool := N.valsTo regs given N.nodes.length

/-- The registers behind the cycle: of the first k nodes those that are registers are what their nexts were. -/
def Net.regsTo (N : Net) (regs v : List Bool) (k : Nat) : List Bool :=
  (List.range regs.length).map fun i => if i < k ∧ (N.nodes.getD i GN.zero).op = 4 then v.getD (N.nodes.getD i GN.zero).next.toNat false else regs.getD i false
theorem Net.regsTo_len (N : Net) (regs v : List Bool) (k : Nat) : (N.regsTo regs v k).length = regs.length := by simp [Net.regsTo]
def Net.regs' (N : Net) (regs given : List Bool) : List Bool := N.regsTo regs (N.vals regs given) N.nodes.length
def Net.outVals (N : Net) (regs given : List Bool) : List Bool := N.outs.map fun k => (N.vals regs given).getD k.toNat false

theorem Net.regsTo_zero (N : Net) (regs v : List Bool) : N.regsTo regs v 0 = regs := by
  apply List.ext_getElem
  · simp [Net.regsTo]
  · intro i h1 h2
    simp [Net.regsTo, List.getD_eq_getElem?_getD, h2]
theorem Net.regsTo_reg (N : Net) (regs v : List Bool) (k : Nat) (hk : k < regs.length) (h : (N.nodes.getD k GN.zero).op = 4) :
    (N.regsTo regs v k).set k (v.getD (N.nodes.getD k GN.zero).next.toNat false) = N.regsTo regs v (k + 1) := by
  apply List.ext_getElem
  · simp [Net.regsTo]
  · intro i h1 h2
    rw [List.getElem_set]
    by_cases e : k = i
    · subst e
      simp only [if_true]
      simp only [Net.regsTo, List.getElem_map, List.getElem_range]
      rw [if_pos ⟨by omega, h⟩]
    · rw [if_neg e]
      simp only [Net.regsTo, List.getElem_map, List.getElem_range]
      by_cases hc : i < k ∧ (N.nodes.getD i GN.zero).op = 4
      · rw [if_pos hc, if_pos ⟨by omega, hc.2⟩]
      · rw [if_neg hc, if_neg (by intro h'; exact hc ⟨by omega, h'.2⟩)]
theorem Net.regsTo_skip (N : Net) (regs v : List Bool) (k : Nat) (h : ¬ (N.nodes.getD k GN.zero).op = 4) : N.regsTo regs v (k + 1) = N.regsTo regs v k := by
  unfold Net.regsTo
  apply List.map_congr_left
  intro i hi
  by_cases e : i = k
  · subst e
    rw [if_neg (fun h' => h h'.2), if_neg (fun h' => h h'.2)]
  · by_cases hc : i < k ∧ (N.nodes.getD i GN.zero).op = 4
    · rw [if_pos hc, if_pos ⟨by omega, hc.2⟩]
    · rw [if_neg hc, if_neg (by intro h'; exact hc ⟨by omega, h'.2⟩)]

theorem set_pad (pre : List Bool) (k n : Nat) (v : Bool) (hp : pre.length = k) (hk : k < n) : (pre ++ List.replicate (n - k) false).set k v = pre ++ [v] ++ List.replicate (n - (k + 1)) false := by
  rw [List.set_append_right _ _ (by omega), hp, Nat.sub_self]
  obtain ⟨m, hm⟩ : ∃ m, n - k = m + 1 := ⟨n - k - 1, by omega⟩
  rw [hm, show n - (k + 1) = m by omega, List.replicate_succ]
  simp
theorem pad_false (pre : List Bool) (k n : Nat) (hk : k < n) : pre ++ List.replicate (n - k) false = pre ++ [false] ++ List.replicate (n - (k + 1)) false := by
  obtain ⟨m, hm⟩ : ∃ m, n - k = m + 1 := ⟨n - k - 1, by omega⟩
  rw [hm, show n - (k + 1) = m by omega, List.replicate_succ]
  simp
theorem pad_get (pre : List Bool) (k n p : Nat) (hp : pre.length = k) (h : p < k) : (pre ++ List.replicate (n - k) false).getD p false = pre.getD p false := by
  simp [List.getD_eq_getElem?_getD, List.getElem?_append, hp, h]

/-- What a net that may be says of its k-th node. -/
theorem Net.right_at {N : Net} (h : N.right = true) {k : Nat} (hk : k < N.nodes.length) : nodeRight N.given N.nodes.length k (N.nodes.getD k GN.zero) = true := by
  unfold Net.right at h
  simp only [Bool.and_eq_true] at h
  have := h.1.2
  unfold Net.rightTo at this
  rw [List.all_eq_true] at this
  exact this k (by simpa using hk)
theorem Net.out_at {N : Net} (h : N.right = true) {k : Nat} (hk : k < N.outs.length) : 0 ≤ N.outs.getD k 0 ∧ N.outs.getD k 0 < (N.nodes.length : Int) := by
  unfold Net.right at h
  simp only [Bool.and_eq_true] at h
  have := h.2
  unfold Net.outsTo at this
  rw [List.all_eq_true] at this
  exact of_decide_eq_true (this k (by simpa using hk))
theorem Net.right_sizes {N : Net} (h : N.right = true) : 0 ≤ N.given ∧ N.given ≤ 20000 ∧ N.nodes.length ≤ 20000 ∧ N.outs.length ≤ 20000 := by
  unfold Net.right at h
  simp only [Bool.and_eq_true] at h
  exact of_decide_eq_true h.1.1

/-- The kinds of nodes that may be, with what is known of each. -/
theorem node_kinds {g : Int} {m k : Nat} {op a b nx : Int} (h : nodeRight g m k ⟨op, a, b, nx⟩ = true) :
    op = 1 ∨ op = 2 ∨ (op = 3 ∧ 0 ≤ a) ∨ (op = 4 ∧ 0 ≤ nx ∧ nx < (m : Int)) ∨ ((op = 5 ∨ op = 6 ∨ op = 7) ∧ 0 ≤ a ∧ a < (k : Int) ∧ 0 ≤ b ∧ b < (k : Int)) ∨ (op = 8 ∧ 0 ≤ a ∧ a < (k : Int)) := by
  unfold nodeRight aheadB at h
  simp only at h
  split at h
  · omega
  · split at h
    · have := of_decide_eq_true h; omega
    · split at h
      · have := of_decide_eq_true h; omega
      · split at h
        · have := of_decide_eq_true h; omega
        · split at h
          · simp only [Bool.and_eq_true] at h
            have h1 := of_decide_eq_true h.1
            have h2 := of_decide_eq_true h.2
            omega
          · cases h

/-- A bit set, with a new block and no draw. -/
theorem Row.next0 {wr : World} {R k : Nat} {l : List Bool} {o : Obj} {v : Bool} (h : Row wr R l) : Row ((wr.setCell ⟨R, k, none⟩ (.bool v)).alloc o) R (l.set k v) :=
  (h.set k v).keep (Below.heap_alloc _ _ _ (h.set k v).lt)
theorem below_next0 {w wr : World} {R k : Nat} {o : Obj} {v : Value} (h : Below w.heap.size w wr) (hR : w.heap.size ≤ R) : Below w.heap.size w ((wr.setCell ⟨R, k, none⟩ v).alloc o) :=
  ((h.setCell hR v).alloc (h.setCell hR v).size _)

/-! ### what one row's writing leaves -/
theorem grown_of_below {w wr : World} {r : Nat} (h : Below w.heap.size w wr) : w.grownBy wr (some r) := ⟨h.os, h.tape, h.output, h.size, fun k hk _ => h.block k hk⟩
theorem below_of_grown {B : Nat} {w wr : World} {r : Nat} (h : w.grownBy wr (some r)) (hB : B ≤ w.heap.size) (hr : B ≤ r) : Below B w wr :=
  ⟨h.os, h.tape, h.output, h.size, fun k hk => h.block k (by omega) (by simp; omega)⟩
theorem grown_alloc {w wr : World} {r : Nat} (h : w.grownBy wr (some r)) (o : Obj) : w.grownBy (wr.alloc o) (some r) :=
  ⟨h.os, h.tape, h.output, Nat.le_trans h.size (by simp), fun k hk hne => (Below.heap_alloc _ _ _ (Nat.lt_of_lt_of_le hk h.size)).trans (h.block k hk hne)⟩
theorem grown_set {w wr : World} {r : Nat} (h : w.grownBy wr (some r)) (k : Nat) (v : Value) : w.grownBy (wr.setCell ⟨r, k, none⟩ v) (some r) :=
  ⟨h.os, h.tape, h.output, Nat.le_trans h.size (by simp [World.setCell]), fun j hj hne => (heap_setCell_other _ _ _ _ (by intro e; apply hne; rw [e])).trans (h.block j hj hne)⟩
theorem grown_drew {w wr : World} {row : Option Nat} (h : w.grownBy wr row) : w.grownBy wr.drew row := ⟨h.os, h.tape, h.output, h.size, h.block⟩
theorem grown_then {w wr w' : World} {r : Nat} (h : w.grownBy wr (some r)) (hb : Below wr.heap.size wr w') : w.grownBy w' (some r) :=
  ⟨hb.os.trans h.os, hb.tape.trans h.tape, hb.output.trans h.output, Nat.le_trans h.size hb.size, fun k hk hne => (hb.block k (Nat.lt_of_lt_of_le hk h.size)).trans (h.block k hk hne)⟩
theorem other_row {wr : World} {R S k : Nat} {o : Obj} {v : Value} (hne : S ≠ R) (hlt : S < wr.heap.size) : ((wr.setCell ⟨R, k, none⟩ v).alloc o).drew.heap[S]? = wr.heap[S]? := by
  show ((wr.setCell ⟨R, k, none⟩ v).alloc o).heap[S]? = _
  rw [Below.heap_alloc _ _ _ (by simp [World.setCell]; exact hlt), heap_setCell_other _ _ _ _ hne]
theorem other_row0 {wr : World} {R S k : Nat} {o : Obj} {v : Value} (hne : S ≠ R) (hlt : S < wr.heap.size) : ((wr.setCell ⟨R, k, none⟩ v).alloc o).heap[S]? = wr.heap[S]? := other_row hne hlt
theorem ownsRow_base {w : World} {base base' E size n : Nat} {v : Value} {xs : List Value} (h : w.ownsRow base E size v n xs) (hb : base' ≤ base) : w.ownsRow base' E size v n xs := by
  obtain ⟨h1, h2⟩ := h
  refine ⟨h1, ?_⟩
  rcases h2 with h2 | ⟨g, cap, cur, hv, hg, r⟩
  · exact .inl h2
  · exact .inr ⟨g, cap, cur, hv, Nat.le_trans hb hg, r⟩
end Go.Proofs.Ytlaeflpddehipab
