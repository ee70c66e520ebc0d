/- image.Write: its bytes, and what it holds in memory on its way. -/
import Derived.Test.YtlaeflpddehipabDoorNumber
import Derived.Test.YtlaeflpddehipabDoorLnRight
set_option linter.unusedVariables false
namespace Go.Proofs.YtlaeflpddehipabDoor
open Go.RowKit

theorem numB_len (n : Nat) : 1 ≤ (numB n).length ∧ (numB n).length ≤ 5 := numTo_len 4 n

/-- The bytes so far, in a slice of the call's own; what was there stays. -/
structure Got (w : World) (l : List Nat) (v : Value) (W : World) : Prop where
  own : W.ownsRow w.heap.size 5 1 v l.length (l.map byteV)
  bel : Below w.heap.size w W
theorem Got.nil (w : World) {W : World} (hb : Below w.heap.size w W) : Got w [] (.slice none 0 0) W := ⟨World.ownsRow_nil _ _ _ _, hb⟩
theorem Got.stay {w W W' : World} {l : List Nat} {v : Value} (h : Got w l v W) (hb : Below W.heap.size W W') : Got w l v W' :=
  ⟨ownsRow_below h.own hb, h.bel.trans (hb.mono h.bel.size)⟩

theorem number_got {w W : World} {l : List Nat} {v : Value} (h : Got w l v W) (hl : l.length ≤ 100000000) (z : Int) (h0 : 0 ≤ z) (h1 : z < 34359738368) :
    Calls Tryd.prog 41 #[v, .int .i64 z] W fun e w' => ∃ v', e = .returned v' ∧ Got w (l ++ numB z.toNat) v' w' ∧ Hid (W.grownBy w' v.ownBlock) := by
  obtain ⟨n, rfl⟩ := Int.eq_ofNat_of_zero_le h0
  refine (number_any w.heap.size v l.length (l.map byteV) n (by omega) W h.own hl h.bel.size).mono ?_
  rintro e w' ⟨av, cv, rfl, ho, hg, _⟩
  refine ⟨_, rfl, ⟨?_, h.bel.grown hg h.bel.size (fun k hk => (h.own.lt k hk).1)⟩, hg⟩
  rw [Int.toNat_natCast, List.length_append, List.map_append]
  exact ho

/-- A box of another type is not touched. -/
theorem Got.box {w W w' : World} {l : List Nat} {v : Value} (h : Got w l v W) (hg : Hid (W.grownBy w' v.ownBlock)) {k T : Nat} {cs : Array Value} (hk : W.heap[k]? = some (.cells cs T (0, 0))) (hne : 5 ≠ T) : w'.heap[k]? = some (.cells cs T (0, 0)) := by
  have hlt : k < W.heap.size := by
    rcases Nat.lt_or_ge k W.heap.size with h' | h'
    · exact h'
    · rw [Array.getElem?_eq_none h'] at hk; cases hk
  refine (hg.out.block k hlt ?_).trans hk
  intro e
  rcases h.own.2 with ⟨rfl, _⟩ | ⟨g, cap, cur, rfl, _, hh, _⟩
  · simp [Value.ownBlock] at e
  · simp only [Value.ownBlock, Option.some.injEq] at e
    subst e
    rw [hh] at hk
    cases hk
    exact hne rfl

/-! ### the bytes of a net of tables -/
def bit (b : Bool) : Nat := if b then 1 else 0
def LR.bytes (r : LR) : List Nat := numB (bit r.init) ++ numB r.next.toNat
def insB (l : List Int) : List Nat := l.flatMap fun k => numB k.toNat
def LT.bytes (t : LT) : List Nat := numB t.ins.length ++ insB t.ins ++ numB t.table.toNat
def LN.head (L : LN) : List Nat := numB L.given.toNat ++ numB L.regs.length
def LN.part1 (L : LN) (k : Nat) : List Nat := L.head ++ (L.regs.take k).flatMap LR.bytes
def LN.part2 (L : LN) (k : Nat) : List Nat := L.part1 L.regs.length ++ numB L.luts.length ++ (L.luts.take k).flatMap LT.bytes
def LN.part3 (L : LN) (k : Nat) : List Nat := L.part2 L.luts.length ++ numB L.outs.length ++ insB (L.outs.take k)
def LN.bytes (L : LN) : List Nat := L.part3 L.outs.length

theorem flatMap_take_succ {α : Type} (l : List α) (d : α) (f : α → List Nat) {i : Nat} (h : i < l.length) : (l.take (i + 1)).flatMap f = (l.take i).flatMap f ++ f (l.getD i d) := by
  rw [List.take_succ_eq_append_getElem h, List.flatMap_append]
  simp [List.getD_eq_getElem?_getD, h]
theorem flatMap_len {α : Type} (l : List α) (f : α → List Nat) (c : Nat) (h : ∀ x ∈ l, (f x).length ≤ c) : (l.flatMap f).length ≤ l.length * c := by
  induction l with
  | nil => simp
  | cons x l ih =>
    rw [List.flatMap_cons, List.length_append, List.length_cons, Nat.succ_mul]
    have h1 := h x (by simp)
    have h2 := ih (fun y hy => h y (by simp [hy]))
    omega
theorem insB_len (l : List Int) : (insB l).length ≤ l.length * 5 := flatMap_len _ _ _ fun k _ => (numB_len _).2
theorem LR.bytes_len (r : LR) : r.bytes.length ≤ 10 := by
  unfold LR.bytes
  have := numB_len (bit r.init)
  have := numB_len r.next.toNat
  rw [List.length_append]
  omega
theorem LT.bytes_len (t : LT) (h : t.ins.length ≤ 4) : t.bytes.length ≤ 30 := by
  unfold LT.bytes
  have := numB_len t.ins.length
  have := numB_len t.table.toNat
  have := insB_len t.ins
  simp only [List.length_append]
  omega

/-- What a net that may be says of its numbers. -/
theorem LN.right_parts {L : LN} (h : L.right = true) : L.sizes = true ∧ (∀ i, i < L.luts.length → L.lutBad i = false) ∧ L.outsBad = false ∧ L.regsBad = false := by
  unfold LN.right at h
  simp only [Bool.and_eq_true, Bool.not_eq_true', List.all_eq_true, List.mem_range] at h
  exact ⟨h.1.1.1, h.1.1.2, h.1.2, h.2⟩
theorem LN.right_out {L : LN} (h : L.right = true) {j : Nat} (hj : j < L.outs.length) : 0 ≤ L.outs.getD j 0 ∧ L.outs.getD j 0 < L.signals := by
  have := (LN.right_parts h).2.2.1
  unfold LN.outsBad at this
  rw [List.any_eq_false] at this
  have := this j (by simpa using hj)
  unfold badB at this
  simp at this
  simpa using this
theorem LN.right_reg {L : LN} (h : L.right = true) {j : Nat} (hj : j < L.regs.length) : 0 ≤ (L.regs.getD j LR.zero).next ∧ (L.regs.getD j LR.zero).next < L.signals := by
  have := (LN.right_parts h).2.2.2
  unfold LN.regsBad at this
  rw [List.any_eq_false] at this
  have := this j (by simpa using hj)
  unfold badB at this
  simp at this
  simpa using this
theorem LN.right_tab {L : LN} (h : L.right = true) {i : Nat} (hi : i < L.luts.length) : (L.luts.getD i LT.zero).ins.length ≤ 4 ∧ 0 ≤ (L.luts.getD i LT.zero).table ∧ (L.luts.getD i LT.zero).table < 65536 ∧
    ∀ j, j < (L.luts.getD i LT.zero).ins.length → 0 ≤ (L.luts.getD i LT.zero).ins.getD j 0 ∧ (L.luts.getD i LT.zero).ins.getD j 0 < L.given + L.regs.length + i := by
  have hb := (LN.right_parts h).2.1 i hi
  unfold LN.lutBad at hb
  simp only [Bool.or_eq_false_iff, decide_eq_false_iff_not] at hb
  obtain ⟨⟨⟨h1, h2⟩, h3⟩, h4⟩ := hb
  have h5 : (L.luts.getD i LT.zero).ins.length ≤ 4 := by omega
  refine ⟨h5, by omega, ?_, ?_⟩
  · have h6 : (2 : Int) ^ (2 ^ (L.luts.getD i LT.zero).ins.length) ≤ 65536 := by
      have e : (L.luts.getD i LT.zero).ins.length = 0 ∨ (L.luts.getD i LT.zero).ins.length = 1 ∨ (L.luts.getD i LT.zero).ins.length = 2 ∨ (L.luts.getD i LT.zero).ins.length = 3 ∨ (L.luts.getD i LT.zero).ins.length = 4 := by omega
      rcases e with e | e | e | e | e <;> rw [e] <;> decide
    omega
  · intro j hj
    unfold LN.insBad at h4
    rw [List.any_eq_false] at h4
    have := h4 j (by simpa using hj)
    unfold badB at this
    simp at this
    simpa using this
theorem LN.small_numbers {L : LN} (h : L.right = true) : L.signals ≤ 60000 ∧ 0 ≤ L.given ∧ L.given ≤ 20000 ∧ L.regs.length ≤ 20000 ∧ L.luts.length ≤ 20000 ∧ L.outs.length ≤ 20000 := by
  have := LN.sizes_of (LN.right_parts h).1
  unfold LN.signals
  omega
theorem LN.part1_len {L : LN} (h : L.right = true) (k : Nat) : (L.part1 k).length ≤ 200010 := by
  have := LN.small_numbers h
  unfold LN.part1 LN.head
  have h1 := flatMap_len (L.regs.take k) LR.bytes 10 (fun x _ => LR.bytes_len x)
  have h2 : (L.regs.take k).length ≤ L.regs.length := by rw [List.length_take]; omega
  have := numB_len L.given.toNat
  have := numB_len L.regs.length
  simp only [List.length_append]
  omega
theorem LN.part2_len {L : LN} (h : L.right = true) (k : Nat) : (L.part2 k).length ≤ 800015 := by
  have := LN.small_numbers h
  unfold LN.part2
  have h1 := flatMap_len (L.luts.take k) LT.bytes 30 (fun x hx => by
    obtain ⟨i, hi, rfl⟩ := List.mem_iff_getElem.1 (List.mem_of_mem_take hx)
    have := (LN.right_tab h hi).1
    simp only [List.getD_eq_getElem?_getD, List.getElem?_eq_getElem hi, Option.getD_some] at this
    exact LT.bytes_len _ this)
  have h2 : (L.luts.take k).length ≤ L.luts.length := by rw [List.length_take]; omega
  have := numB_len L.luts.length
  have := LN.part1_len h L.regs.length
  simp only [List.length_append]
  omega
theorem LN.part3_len {L : LN} (h : L.right = true) (k : Nat) : (L.part3 k).length ≤ 900020 := by
  have := LN.small_numbers h
  unfold LN.part3
  have h1 := insB_len (L.outs.take k)
  have h2 : (L.outs.take k).length ≤ L.outs.length := by rw [List.length_take]; omega
  have := numB_len L.outs.length
  have := LN.part2_len h L.luts.length
  simp only [List.length_append]
  omega
theorem LN.part1_succ (L : LN) {k : Nat} (hk : k < L.regs.length) : L.part1 (k + 1) = L.part1 k ++ numB (bit (L.regs.getD k LR.zero).init) ++ numB (L.regs.getD k LR.zero).next.toNat := by
  unfold LN.part1
  rw [flatMap_take_succ _ LR.zero _ hk]
  simp [LR.bytes]
theorem LN.part2_succ (L : LN) {k : Nat} (hk : k < L.luts.length) : L.part2 (k + 1) = L.part2 k ++ numB (L.luts.getD k LT.zero).ins.length ++ insB (L.luts.getD k LT.zero).ins ++ numB (L.luts.getD k LT.zero).table.toNat := by
  unfold LN.part2
  rw [flatMap_take_succ _ LT.zero _ hk]
  simp [LT.bytes]
theorem insB_succ (l : List Int) {k : Nat} (hk : k < l.length) : insB (l.take (k + 1)) = insB (l.take k) ++ numB (l.getD k 0).toNat := flatMap_take_succ _ 0 _ hk
theorem LN.part3_succ (L : LN) {k : Nat} (hk : k < L.outs.length) : L.part3 (k + 1) = L.part3 k ++ numB (L.outs.getD k 0).toNat := by
  unfold LN.part3
  rw [insB_succ _ hk]
  simp
theorem Got.eq {w W : World} {l l' : List Nat} {v : Value} (h : Got w l v W) (e : l = l') : Got w l' v W := e ▸ h
theorem box_new (w : World) (o : Obj) : (w.alloc o).heap[w.heap.size]? = some o := by
  show (w.heap.push o)[_]? = _
  simp
theorem Got.drew {w W : World} {l : List Nat} {v : Value} (h : Got w l v W) : Got w l v W.drew := ⟨h.own.drew, h.bel.drew⟩
theorem numTo_byte (f n : Nat) (h : n < 128 ^ (f + 1)) : ∀ x ∈ numTo f n, x < 256 := by
  induction f generalizing n with
  | zero => intro x hx; simp [numTo] at hx; omega
  | succ f ih =>
    intro x hx
    unfold numTo at hx
    split at hx
    · rcases List.mem_cons.1 hx with rfl | hx
      · have := Nat.mod_lt n (show 128 > 0 by omega); omega
      · refine ih (n / 128) ?_ x hx
        rw [Nat.pow_succ] at h
        exact Nat.div_lt_of_lt_mul (by rw [Nat.mul_comm]; exact h)
    · simp at hx; omega
def AllBytes (l : List Nat) : Prop := ∀ x ∈ l, x < 256
theorem numB_byte {n : Nat} (h : n < 34359738368) : AllBytes (numB n) := numTo_byte 4 n h
theorem AllBytes.append {l l' : List Nat} (h : AllBytes l) (h' : AllBytes l') : AllBytes (l ++ l') := by
  intro x hx
  rcases List.mem_append.1 hx with hx | hx
  · exact h x hx
  · exact h' x hx
theorem AllBytes.flatMap {α : Type} {l : List α} {f : α → List Nat} (h : ∀ x ∈ l, AllBytes (f x)) : AllBytes (l.flatMap f) := by
  intro x hx
  obtain ⟨a, ha, hx⟩ := List.mem_flatMap.1 hx
  exact h a ha x hx
theorem LN.bytes_byte {L : LN} (h : L.right = true) : AllBytes L.bytes := by
  have hs := LN.small_numbers h
  unfold LN.bytes LN.part3 LN.part2 LN.part1 LN.head
  have hr : AllBytes ((L.regs.take L.regs.length).flatMap LR.bytes) := by
    refine AllBytes.flatMap fun r hr => ?_
    obtain ⟨i, hi, rfl⟩ := List.mem_iff_getElem.1 (List.mem_of_mem_take hr)
    have := LN.right_reg h hi
    simp only [List.getD_eq_getElem?_getD, List.getElem?_eq_getElem hi, Option.getD_some] at this
    refine (numB_byte ?_).append (numB_byte (by omega))
    unfold bit; split <;> omega
  have hl : AllBytes ((L.luts.take L.luts.length).flatMap LT.bytes) := by
    refine AllBytes.flatMap fun t ht => ?_
    obtain ⟨i, hi, rfl⟩ := List.mem_iff_getElem.1 (List.mem_of_mem_take ht)
    have := LN.right_tab h hi
    simp only [List.getD_eq_getElem?_getD, List.getElem?_eq_getElem hi, Option.getD_some] at this
    refine ((numB_byte (by omega)).append (AllBytes.flatMap fun x hx => ?_)).append (numB_byte (by omega))
    obtain ⟨j, hj, rfl⟩ := List.mem_iff_getElem.1 hx
    have h2 := this.2.2.2 j hj
    simp only [List.getElem?_eq_getElem hj, Option.getD_some] at h2
    exact numB_byte (by omega)
  have ho : AllBytes (insB (L.outs.take L.outs.length)) := by
    refine AllBytes.flatMap fun x hx => ?_
    obtain ⟨j, hj, rfl⟩ := List.mem_iff_getElem.1 (List.mem_of_mem_take hx)
    have h2 := LN.right_out h hj
    simp only [List.getD_eq_getElem?_getD, List.getElem?_eq_getElem hj, Option.getD_some] at h2
    exact numB_byte (by omega)
  exact (((((((numB_byte (by omega)).append (numB_byte (by omega))).append hr).append (numB_byte (by omega))).append hl).append (numB_byte (by omega))).append ho)
theorem LN.bytes_pos (L : LN) : 1 ≤ L.bytes.length := by
  unfold LN.bytes LN.part3 LN.part2 LN.part1 LN.head
  have := numB_len L.given.toNat
  simp only [List.length_append]
  omega
end Go.Proofs.YtlaeflpddehipabDoor
