/- gate.Gates and gate.New: how many gates a net has; a net at first. -/
import Derived.Test.YtlaeflpddehipabDoorNetRight2
set_option linter.unusedVariables false
namespace Go.Proofs.YtlaeflpddehipabDoor
open Go.RowKit

/-! ### rows of bits that the program itself lays -/
def bools (l : List Bool) : Array Value := (l.map Value.bool).toArray
theorem bools_get (l : List Bool) (j : Nat) (h : j < l.length) : (bools l)[j]? = some (.bool (l.getD j false)) := by
  simp [bools, List.getD_eq_getElem?_getD, h]
theorem bools_set (l : List Bool) (j : Nat) (b : Bool) : (bools l).setIfInBounds j (.bool b) = bools (l.set j b) := by
  apply Array.ext'
  simp [bools, List.map_set]
/-- Block r holds these bits, and may be written. -/
def Row (w : World) (r : Nat) (l : List Bool) : Prop := w.heap[r]? = some (.cells (bools l) 4 (0, 0))
theorem Row.cell {w : World} {r : Nat} {l : List Bool} (h : Row w r l) (j : Nat) (hj : j < l.length) : w.cell? ⟨r, j, none⟩ = some (.bool (l.getD j false)) := by
  rw [cell_block h j, bools_get l j hj]
theorem Row.free {w : World} {r : Nat} {l : List Bool} (h : Row w r l) (j : Nat) : w.frozen? ⟨r, j, none⟩ = false := free_block h j
theorem Row.lt {w : World} {r : Nat} {l : List Bool} (h : Row w r l) : r < w.heap.size := by
  rcases Nat.lt_or_ge r w.heap.size with h' | h'
  · exact h'
  · unfold Row at h; simp [Array.getElem?_eq_none h'] at h
theorem Row.set {w : World} {r : Nat} {l : List Bool} (h : Row w r l) (j : Nat) (b : Bool) : Row (w.setCell ⟨r, j, none⟩ (.bool b)) r (l.set j b) := by
  unfold Row
  rw [heap_setCell_same w r j _ _ _ h, bools_set]
theorem Row.keep {w w' : World} {r : Nat} {l : List Bool} (h : Row w r l) (hb : w'.heap[r]? = w.heap[r]?) : Row w' r l := by
  unfold Row; rw [hb]; exact h

theorem Tryd.make_bools (n : Nat) (hn : n ≤ 1000000) (u : World) : (Instr.makeSlice 62 (.int .i64 (n : Int)) (.int .i64 (n : Int))).run Tryd.prog u = .ok (.slice (some ⟨u.heap.size, 0, none⟩) n n) (u.alloc (.cells (bools (List.replicate n false)) 4)) := by
  obtain ⟨i0, hi, hz0, hz1, hz2⟩ := info_parts Tryd.infoBool
  have h := run_make (P := Tryd.prog) u 62 4 i0 (.bool false) Tryd.underlying62 hi hz0 .i64 .i64 (n : Int) (n : Int) (by omega) (Int.le_refl _) (by rw [hz2]; omega) (by omega)
  have e : madeCells #[Value.bool false] n = bools (List.replicate n false) := by
    apply Array.ext'
    rw [toList_madeCells_one]
    simp [bools]
  rw [Int.toNat_natCast] at h
  rw [h, hz1]
  simp [Value.cells, e]

theorem alloc_at (w : World) (o : Obj) : (w.alloc o).heap[w.heap.size]? = some o := by
  show (w.heap.push o)[_]? = _
  simp

/-- A bit set, with a new block and a draw. -/
theorem Row.next {wr : World} {R k : Nat} {l : List Bool} {o : Obj} {v : Bool} (h : Row wr R l) : Row ((wr.setCell ⟨R, k, none⟩ (.bool v)).alloc o).drew R (l.set k v) :=
  (h.set k v).keep (Below.heap_alloc _ _ _ (h.set k v).lt)
theorem other_next {wr : World} {R S k : Nat} {o o' : Obj} {v : Value} (h : wr.heap[S]? = some o') (hne : S ≠ R) : ((wr.setCell ⟨R, k, none⟩ v).alloc o).drew.heap[S]? = some o' := by
  have hlt : S < wr.heap.size := by
    rcases Nat.lt_or_ge S wr.heap.size with h' | h'
    · exact h'
    · simp [Array.getElem?_eq_none h'] at h
  show ((wr.setCell ⟨R, k, none⟩ v).alloc o).heap[S]? = _
  rw [Below.heap_alloc _ _ _ (by simp [World.setCell]; exact hlt), heap_setCell_other _ _ _ _ hne]
  exact h
theorem below_next {w wr : World} {R k : Nat} {o : Obj} {v : Value} (h : Below w.heap.size w wr) (hR : w.heap.size ≤ R) : Below w.heap.size w ((wr.setCell ⟨R, k, none⟩ v).alloc o).drew :=
  ((h.setCell hR v).alloc (h.setCell hR v).size _).drew

/-! ### Gates -/
def GN.isGate (x : GN) : Bool := decide (5 ≤ x.op ∧ x.op ≤ 8)
def gatesTo (l : List GN) (k : Nat) : Nat := ((l.take k).filter GN.isGate).length
theorem gatesTo_succ (l : List GN) (k : Nat) (h : k < l.length) : gatesTo l (k + 1) = gatesTo l k + if (l.getD k GN.zero).isGate then 1 else 0 := by
  unfold gatesTo
  rw [List.take_succ_eq_append_getElem h, List.filter_append, List.length_append]
  have e : l.getD k GN.zero = l[k] := by simp [List.getD_eq_getElem?_getD, h]
  rw [e]
  simp [List.filter_cons]
  split <;> simp
theorem gatesTo_le (l : List GN) (k : Nat) : gatesTo l k ≤ k := by
  unfold gatesTo
  refine Nat.le_trans (List.length_filter_le _ _) ?_
  simp
  omega
def Net.gates (N : Net) : Nat := gatesTo N.nodes N.nodes.length

set_option maxHeartbeats 1600000 in
theorem Gates_any (B : Nat) (b : Nat) (a : Option Addr) (c : Nat) (a' : Option Addr) (c' : Nat) (N : Net) (w : World) (h : NetIn B w b a c a' c' N) (hBw : B ≤ w.heap.size) :
    Calls Tryd.prog 19 #[.pointer (some ⟨b, 0, none⟩)] w fun e w' => e = .returned (.int .i64 (N.gates : Nat)) ∧ Below w.heap.size w w' := by
  have H := hid h
  have hn := h.nodes
  have hm := h.ln
  unfold maxLen at hm
  obtain ⟨n, hN⟩ : ∃ n, N.nodes.length = n := ⟨_, rfl⟩
  rw [hN] at hn hm
  have HN := hid hN
  have E : Hid (N.gates = gatesTo N.nodes n) := by unfold Hid Net.gates; rw [hN]
  clear h hN
  go_enter Tryd.func19, Tryd.ntmps19
  go_wp2
  go_loopw [3, 11] (fun s v wr => ∃ k : Nat, k ≤ n ∧ v = .int .i64 k ∧ s = .int .i64 (gatesTo N.nodes k : Nat) ∧ Below w.heap.size w wr) (fun _ v _ => n - (intOf v).toNat)
  case atStart => exact ⟨0, Nat.zero_le _, rfl, rfl, Below.refl _ _⟩
  case round =>
    obtain ⟨k, hk, rfl, rfl, hbel⟩ := hrel
    by_cases hlt : k < n
    · have h' := H.out.stay (hbel.mono hBw)
      obtain ⟨b1, off, rfl, hb1, c0, c1, c2, c3⟩ := h'.node k (by rw [HN.out]; exact hlt)
      have HS := hid (gatesTo_succ N.nodes k (by rw [HN.out]; exact hlt))
      have hle := gatesTo_le N.nodes k
      have hkI : (k : Int) < n := by omega
      have hk0 : (0 : Int) ≤ k := by omega
      obtain ⟨x, hx⟩ : ∃ x, N.nodes.getD k GN.zero = x := ⟨_, rfl⟩
      rw [hx] at c0 c1 c2 c3
      have HX := hid hx
      obtain ⟨op, xa, xb, xn⟩ := x
      simp only at c0 c1 c2 c3
      have hsz := hbel.size
      clear h' hx hn
      by_cases h5 : 5 ≤ op
      · by_cases h8 : op ≤ 8
        · have F : Hid (gatesTo N.nodes (k + 1) = gatesTo N.nodes k + 1) := by unfold Hid; rw [HS.out, HX.out]; simp [GN.isGate, h5, h8]
          go_wp2
          go_roundw
          case rel => exact ⟨k + 1, by omega, by go_num, val_int (by rw [F.out]; omega), hbel.alloc hsz _⟩
          case measure => simp [intOf]; omega
        · have F : Hid (gatesTo N.nodes (k + 1) = gatesTo N.nodes k) := by unfold Hid; rw [HS.out, HX.out]; simp [GN.isGate, h5, h8]
          have d8 : decide (op ≤ 8) = false := decide_eq_false h8
          go_wp2
          go_roundw
          case rel => exact ⟨k + 1, by omega, by go_num, val_int (by rw [F.out]), hbel.alloc hsz _⟩
          case measure => simp [intOf]; omega
      · have F : Hid (gatesTo N.nodes (k + 1) = gatesTo N.nodes k) := by unfold Hid; rw [HS.out, HX.out]; simp [GN.isGate, h5]
        have d5 : decide (5 ≤ op) = false := decide_eq_false h5
        go_wp2
        go_roundw
        case rel => exact ⟨k + 1, by omega, by go_num, val_int (by rw [F.out]), hbel.alloc hsz _⟩
        case measure => simp [intOf]; omega
    · obtain rfl : k = n := by omega
      go_wp2
      go_ret
      exact ⟨ret_int (by rw [E.out]), hbel⟩

/-! ### New -/
/-- A simulator at block s, of the net at block b; its registers at block r. -/
def SimIn (w : World) (s r b : Nat) (l : List Bool) : Prop :=
  w.heap[s]? = some (.cells #[.pointer (some ⟨b, 0, none⟩), .slice (some ⟨r, 0, none⟩) l.length l.length] 111 (0, 0)) ∧ Row w r l

def GN.first (x : GN) : Bool := x.op == 4 && x.a == 1
def Net.first (N : Net) : List Bool := N.nodes.map GN.first

/-- A new simulator comes back, in blocks of its own; what was there stays. -/
def NewSim (b : Nat) (l : List Bool) (w : World) (e : Ending) (w' : World) : Prop :=
  ∃ s r, e = .returned (.tuple #[.pointer (some ⟨s, 0, none⟩), .nilIface]) ∧ w.heap.size ≤ s ∧ w.heap.size ≤ r ∧ s ≠ r ∧ SimIn w' s r b l ∧ Below w.heap.size w w'

theorem New_wrong (B : Nat) (b : Nat) (a : Option Addr) (c : Nat) (a' : Option Addr) (c' : Nat) (N : Net) (w : World) (h : NetIn B w b a c a' c' N) (hBw : B ≤ w.heap.size) (hr : N.right = false) :
    Calls Tryd.prog 20 #[.pointer (some ⟨b, 0, none⟩)] w fun e w' => e = .returned (.tuple #[.pointer none, .iface 33 (.int .i64 1)]) ∧ Below w.heap.size w w' := by
  have HR := hid hr
  have H := hid h
  clear h hr
  go_enter Tryd.func20, Tryd.ntmps20
  go_wp2_with (go_at_call 17; refine (Right_any B b a c a' c' N _ H.out hBw).mono ?_; rintro e w1 ⟨rfl, hbel⟩; rw [HR.out])
  go_ret2
  exact ⟨rfl, hbel⟩

theorem first_split (l : List Bool) (k : Nat) (n : Nat) (hn : n = l.length) (hk : k < n) : (l.take k ++ List.replicate (n - k) false).set k (l.getD k false) = l.take (k + 1) ++ List.replicate (n - (k + 1)) false := by
  subst hn
  apply List.ext_getElem?
  intro j
  rw [List.getElem?_set]
  simp only [List.length_append, List.length_take, List.length_replicate, List.getElem?_append, List.getElem?_take, List.getElem?_replicate]
  by_cases h1 : k = j
  · subst h1
    have e0 : min k l.length = k := by omega
    have e1 : k < min (k + 1) l.length := by omega
    simp [hk, List.getD_eq_getElem?_getD, e0, e1]
    try omega
  · rw [if_neg h1]
    by_cases h2 : j < k
    · have e1 : j < min k l.length := by omega
      have e2 : j < min (k + 1) l.length := by omega
      simp [e1, e2, h2, show j < k + 1 by omega]
    · have e1 : ¬ j < min k l.length := by omega
      have e2 : ¬ j < min (k + 1) l.length := by omega
      simp only [e1, e2, if_false]
      by_cases h3 : j < l.length
      · rw [if_pos (by omega), if_pos (by omega)]
      · rw [if_neg (by omega), if_neg (by omega)]

set_option maxHeartbeats 1600000 in
theorem New_right (B : Nat) (b : Nat) (a : Option Addr) (c : Nat) (a' : Option Addr) (c' : Nat) (N : Net) (w : World) (h : NetIn B w b a c a' c' N) (hBw : B ≤ w.heap.size) (hr : N.right = true) :
    Calls Tryd.prog 20 #[.pointer (some ⟨b, 0, none⟩)] w (NewSim b N.first w) := by
  have HR := hid hr
  have H := hid h
  have hn := h.nodes
  have hm : N.nodes.length ≤ 20000 := by
    have : N.sizes = true := by
      unfold Net.right at hr
      simp only [Bool.and_eq_true] at hr
      exact hr.1.1
    unfold Net.sizes at this
    have := of_decide_eq_true this
    omega
  obtain ⟨n, hN⟩ : ∃ n, N.nodes.length = n := ⟨_, rfl⟩
  rw [hN] at hn hm
  have HN := hid hN
  have HL : Hid (N.first.length = n) := by unfold Hid Net.first; rw [List.length_map, hN]
  have hmk := Tryd.make_bools n (by omega)
  clear h hr hN
  go_enter Tryd.func20, Tryd.ntmps20
  go_wp2_with (go_at_call 17; refine (Right_any B b a c a' c' N _ H.out hBw).mono ?_; rintro e w1 ⟨rfl, hbel⟩; rw [HR.out]; have h1 := (H.out.stay (hbel.mono hBw)).nodes; rw [HN.out] at h1; have hb1 : b < w1.heap.size := Nat.lt_of_lt_of_le H.out.hb (Nat.le_trans hBw hbel.size))
  obtain ⟨R, hR⟩ : ∃ R, w1.heap.size = R := ⟨_, rfl⟩
  have hRw : w.heap.size ≤ R := by rw [← hR]; exact hbel.size
  have HRR := hid hR
  have hrow : Row ((w1.alloc (Obj.cells (bools (List.replicate n false)) 4)).alloc (Obj.cells #[Value.pointer (some { block := b, off := 0 }), Value.slice (some { block := w1.heap.size, off := 0 }) n n] 111)) R (List.replicate n false) := by
    unfold Row
    rw [Below.heap_alloc _ _ _ (by simp; omega), ← hR]
    show (w1.heap.push _)[_]? = _
    simp
  have hsim : ((w1.alloc (Obj.cells (bools (List.replicate n false)) 4)).alloc (Obj.cells #[Value.pointer (some { block := b, off := 0 }), Value.slice (some { block := w1.heap.size, off := 0 }) n n] 111)).heap[R + 1]? = some (.cells #[Value.pointer (some { block := b, off := 0 }), Value.slice (some { block := R, off := 0 }) n n] 111 (0, 0)) := by
    have h := alloc_at (w1.alloc (Obj.cells (bools (List.replicate n false)) 4)) (Obj.cells #[Value.pointer (some { block := b, off := 0 }), Value.slice (some { block := w1.heap.size, off := 0 }) n n] 111)
    rw [World.size_alloc] at h
    rw [← hR]
    exact h
  have hbel2 : Below w.heap.size w ((w1.alloc (Obj.cells (bools (List.replicate n false)) 4)).alloc (Obj.cells #[Value.pointer (some { block := b, off := 0 }), Value.slice (some { block := w1.heap.size, off := 0 }) n n] 111)) :=
    (hbel.alloc hbel.size _).alloc (by simp; omega) _
  rw [hR] at hrow hsim hbel2 ⊢
  generalize ((w1.alloc (Obj.cells (bools (List.replicate n false)) 4)).alloc (Obj.cells #[Value.pointer (some { block := b, off := 0 }), Value.slice (some { block := R, off := 0 }) n n] 111)) = w2 at *
  clear hmk h1 hb1 hn hR
  go_loopw [25] (fun v wr => ∃ k : Nat, k ≤ n ∧ v = .int .i64 k ∧ Row wr R (N.first.take k ++ List.replicate (n - k) false) ∧ wr.heap[R + 1]? = some (.cells #[Value.pointer (some { block := b, off := 0 }), Value.slice (some { block := R, off := 0 }) n n] 111 (0, 0)) ∧ Below w.heap.size w wr) (fun v _ => n - (intOf v).toNat)
  case atStart => exact ⟨0, Nat.zero_le _, rfl, by simpa using hrow, hsim, hbel2⟩
  case round =>
    obtain ⟨k, hk, rfl, hro, hsi, hbe⟩ := hrel
    clear hrow hsim hbel2
    by_cases hlt : k < n
    · have h' := H.out.stay (hbe.mono hBw)
      obtain ⟨b1, off, rfl, hb1, c0, c1, c2, c3⟩ := h'.node k (by rw [HN.out]; exact hlt)
      have hlen : (N.first.take k ++ List.replicate (n - k) false).length = n := by rw [List.length_append, List.length_take, HL.out, List.length_replicate]; omega
      have hRlt : R < wr.heap.size := hro.lt
      have hRlt' : R < wr.heap.size + 1 := by omega
      have hSlt : R + 1 < wr.heap.size := by
        rcases Nat.lt_or_ge (R + 1) wr.heap.size with h | h
        · exact h
        · simp [Array.getElem?_eq_none h] at hsi
      have hne : ¬ R = wr.heap.size := by omega
      have r1 := hro.cell k (by rw [hlen]; exact hlt)
      have r2 := hro.free k
      have s1 := cell_block hsi 1
      simp only [List.getElem?_toArray, List.getElem?_cons_succ, List.getElem?_cons_zero] at s1
      have hb1w : b1 < wr.heap.size := Nat.lt_of_lt_of_le hb1 (Nat.le_trans hBw hbe.size)
      have hkI : (k : Int) < n := by omega
      have hk0 : (0 : Int) ≤ k := by omega
      obtain ⟨x, hx⟩ : ∃ x, N.nodes.getD k GN.zero = x := ⟨_, rfl⟩
      have hfirst : N.first.getD k false = x.first := by
        rw [← hx]
        have hlt' : k < N.nodes.length := by rw [HN.out]; exact hlt
        simp [Net.first, List.getD_eq_getElem?_getD, hlt']
      rw [hx] at c0 c1 c2 c3
      have HF := hid hfirst
      obtain ⟨op, xa, xb, xn⟩ := x
      simp only at c0 c1 c2 c3
      have HRO := hid hro
      have HSI := hid hsi
      have HBE := hid hbe
      clear h' hx hfirst hro hsi hbe hlen
      generalize List.getD (List.take k N.first ++ List.replicate (n - k) false) k false = old at r1
      cases ho : op == 4
      · have E0 : ((N.first.take k ++ List.replicate (n - k) false).set k false = N.first.take (k + 1) ++ List.replicate (n - (k + 1)) false) := by
          have h := first_split N.first k n HL.out.symm hlt
          rw [HF.out] at h
          simpa [GN.first, ho] using h
        have E := hid E0
        clear E0
        go_wp2
        go_region
        go_wp2
        go_roundw
        case rel => exact ⟨k + 1, by omega, by go_num, by rw [← E.out]; exact HRO.out.next, other_next HSI.out (by omega), below_next HBE.out hRw⟩
        case measure => simp [intOf]; omega
      · have E0 : ((N.first.take k ++ List.replicate (n - k) false).set k (xa == 1) = N.first.take (k + 1) ++ List.replicate (n - (k + 1)) false) := by
          have h := first_split N.first k n HL.out.symm hlt
          rw [HF.out] at h
          simpa [GN.first, ho] using h
        have E := hid E0
        clear E0
        go_wp2
        go_region
        go_wp2
        go_roundw
        case rel => exact ⟨k + 1, by omega, by go_num, by rw [← E.out]; exact HRO.out.next, other_next HSI.out (by omega), below_next HBE.out hRw⟩
        case measure => simp [intOf]; omega
    · obtain rfl : k = n := by omega
      go_wp2
      go_ret2
      refine ⟨R + 1, R, rfl, by omega, hRw, by omega, ⟨by rw [HL.out]; exact hsi, ?_⟩, hbe⟩
      have e : N.first.take k ++ List.replicate (k - k) false = N.first := by rw [Nat.sub_self, List.take_of_length_le (by rw [HL.out]; exact Nat.le_refl _)]; simp
      rw [e] at hro
      exact hro
end Go.Proofs.YtlaeflpddehipabDoor
