/- Bytes are few: plain. -/
import Derived.Test.YtlaeflpddehipabDoorWriteMem
set_option linter.unusedVariables false
namespace Go.Proofs.YtlaeflpddehipabDoor
open Go.RowKit

def LR.nums (r : LR) : List Nat := [bit r.init, r.next.toNat]
def LT.nums (t : LT) : List Nat := t.ins.length :: (t.ins.map Int.toNat ++ [t.table.toNat])
def LN.numbers (L : LN) : List Nat := [L.given.toNat, L.regs.length] ++ L.regs.flatMap LR.nums ++ [L.luts.length] ++ L.luts.flatMap LT.nums ++ [L.outs.length] ++ L.outs.map Int.toNat
theorem insB_eq (l : List Int) : insB l = (l.map Int.toNat).flatMap numB := by
  unfold insB
  rw [List.flatMap_map]
theorem LN.bytes_eq (L : LN) : L.bytes = L.numbers.flatMap numB := by
  unfold LN.bytes LN.part3 LN.part2 LN.part1 LN.head LN.numbers
  rw [List.take_length, List.take_length, List.take_length, insB_eq]
  have h1 : L.regs.flatMap LR.bytes = (L.regs.flatMap LR.nums).flatMap numB := by
    rw [List.flatMap_assoc]
    congr 1
    funext r
    simp [LR.bytes, LR.nums]
  have h2 : L.luts.flatMap LT.bytes = (L.luts.flatMap LT.nums).flatMap numB := by
    rw [List.flatMap_assoc]
    congr 1
    funext t
    simp [LT.bytes, LT.nums, insB_eq]
  rw [h1, h2]
  simp [List.flatMap_append]

theorem flatMap_between (l : List Nat) (f : Nat → List Nat) (c : Nat) (h : ∀ x ∈ l, 1 ≤ (f x).length ∧ (f x).length ≤ c) : l.length ≤ (l.flatMap f).length ∧ (l.flatMap f).length ≤ c * l.length := by
  induction l with
  | nil => simp
  | cons x l ih =>
    have h1 := h x (by simp)
    have h2 := ih (fun y hy => h y (by simp [hy]))
    rw [List.flatMap_cons, List.length_append, List.length_cons, Nat.mul_add]
    omega
theorem numTo_short (f n : Nat) (h : n < 128 ^ (f + 1)) (g : Nat) (hg : f ≤ g) : (numTo g n).length ≤ f + 1 := by
  induction f generalizing n g with
  | zero => rw [numTo_low g n (by simpa using h)]; simp
  | succ f ih =>
    obtain ⟨g', rfl⟩ : ∃ g', g = g' + 1 := ⟨g - 1, by omega⟩
    by_cases h1 : 128 ≤ n
    · rw [numTo_big g' n h1, List.length_cons]
      have := ih (n / 128) (by
        rw [Nat.pow_succ] at h
        exact Nat.div_lt_of_lt_mul (by rw [Nat.mul_comm]; exact h)) g' (by omega)
      omega
    · rw [numTo_low (g' + 1) n (by omega)]; simp

theorem LN.numbers_small {L : LN} (h : L.right = true) : ∀ x ∈ L.numbers, x < 65536 := by
  have hs := LN.small_numbers h
  intro x hx
  unfold LN.numbers at hx
  simp only [List.mem_append, List.mem_cons, List.not_mem_nil, or_false, List.mem_flatMap, List.mem_map] at hx
  rcases hx with ((((hx | ⟨r, hr, hx⟩) | hx) | ⟨t, ht, hx⟩) | hx) | ⟨k, hk, rfl⟩
  · rcases hx with rfl | rfl <;> omega
  · obtain ⟨i, hi, rfl⟩ := List.mem_iff_getElem.1 hr
    have := LN.right_reg h hi
    simp only [List.getD_eq_getElem?_getD, List.getElem?_eq_getElem hi, Option.getD_some] at this
    simp only [LR.nums, List.mem_cons, List.not_mem_nil, or_false] at hx
    rcases hx with rfl | rfl
    · unfold bit; split <;> omega
    · omega
  · omega
  · obtain ⟨i, hi, rfl⟩ := List.mem_iff_getElem.1 ht
    have := LN.right_tab h hi
    simp only [List.getD_eq_getElem?_getD, List.getElem?_eq_getElem hi, Option.getD_some] at this
    simp only [LT.nums, List.mem_cons, List.mem_append, List.mem_map, List.not_mem_nil, or_false] at hx
    rcases hx with rfl | ⟨k, hk, rfl⟩ | rfl
    · omega
    · obtain ⟨j, hj, rfl⟩ := List.mem_iff_getElem.1 hk
      have h2 := this.2.2.2 j hj
      simp only [List.getElem?_eq_getElem hj, Option.getD_some] at h2
      omega
    · omega
  · omega
  · obtain ⟨j, hj, rfl⟩ := List.mem_iff_getElem.1 hk
    have h2 := LN.right_out h hj
    simp only [List.getD_eq_getElem?_getD, List.getElem?_eq_getElem hj, Option.getD_some] at h2
    omega

def insSum (l : List LT) : Nat := (l.map fun t => t.ins.length).sum
def LN.nums (L : LN) : Nat := 4 + 2 * L.regs.length + 2 * L.luts.length + L.outs.length + insSum L.luts
theorem LN.numbers_len (L : LN) : L.numbers.length = L.nums := by
  unfold LN.numbers LN.nums insSum
  have h1 : (L.regs.flatMap LR.nums).length = 2 * L.regs.length := by
    induction L.regs with
    | nil => rfl
    | cons r l ih => rw [List.flatMap_cons, List.length_append, ih]; simp [LR.nums]; omega
  have h2 : (L.luts.flatMap LT.nums).length = 2 * L.luts.length + (L.luts.map fun t => t.ins.length).sum := by
    induction L.luts with
    | nil => rfl
    | cons t l ih => rw [List.flatMap_cons, List.length_append, ih]; simp [LT.nums]; omega
  simp only [List.length_append, h1, h2, List.length_cons, List.length_nil, List.length_map]
  omega
theorem LN.bytes_between {L : LN} (h : L.right = true) : L.nums ≤ L.bytes.length ∧ L.bytes.length ≤ 4 * L.nums := by
  rw [L.bytes_eq, ← L.numbers_len]
  refine flatMap_between _ _ 4 fun x hx => ⟨(numB_len x).1, ?_⟩
  have := LN.numbers_small h x hx
  exact numTo_short 3 x (by omega) 4 (by omega)

def LN.low0 (L : LN) : Int := L.given + L.regs.length + L.luts.length
def lowTo (l : List LT) (m : Int) : Int := l.foldl (fun m t => max m t.table) m
theorem lowTo_ge (l : List LT) (m : Int) : m ≤ lowTo l m ∧ ∀ t ∈ l, t.table ≤ lowTo l m := by
  induction l generalizing m with
  | nil => simp [lowTo]
  | cons t l ih =>
    have := ih (max m t.table)
    have e : lowTo (t :: l) m = lowTo l (max m t.table) := rfl
    rw [e]
    refine ⟨by omega, fun u hu => ?_⟩
    rcases List.mem_cons.1 hu with rfl | hu
    · omega
    · exact this.2 u hu
theorem lowTo_succ (l : List LT) (m : Int) {k : Nat} (h : k < l.length) : lowTo (l.take (k + 1)) m = max (lowTo (l.take k) m) (l.getD k LT.zero).table := by
  unfold lowTo
  rw [List.take_succ_eq_append_getElem h, List.foldl_append]
  simp [List.getD_eq_getElem?_getD, h]
theorem insSum_succ (l : List LT) {k : Nat} (h : k < l.length) : insSum (l.take (k + 1)) = insSum (l.take k) + (l.getD k LT.zero).ins.length := by
  unfold insSum
  rw [List.take_succ_eq_append_getElem h, List.map_append, List.sum_append]
  have e : l.getD k LT.zero = l[k] := by simp [List.getD_eq_getElem?_getD, h]
  rw [e, List.map_cons, List.map_nil, List.sum_cons, List.sum_nil, Nat.add_zero]
theorem insSum_le {L : LN} (h : L.right = true) (k : Nat) : insSum (L.luts.take k) ≤ 4 * k := by
  induction k with
  | zero => simp [insSum]
  | succ k ih =>
    by_cases hk : k < L.luts.length
    · rw [insSum_succ _ hk]
      have := (LN.right_tab h hk).1
      omega
    · rw [List.take_of_length_le (by omega)]
      rw [List.take_of_length_le (by omega)] at ih
      omega

theorem LN.bytes_low {L : LN} (h : L.right = true) (hl : lowTo L.luts L.low0 ≤ 127) (ho : L.outs.length ≤ 127) : L.bytes.length = L.nums := by
  rw [L.bytes_eq, ← L.numbers_len]
  have hs := LN.small_numbers h
  have hg := lowTo_ge L.luts L.low0
  have hsig : L.signals ≤ 127 := by
    have : L.signals = L.low0 := rfl
    omega
  unfold LN.signals at hsig
  have hsig' : L.given + L.regs.length + L.luts.length ≤ 127 := hsig
  have key : ∀ x ∈ L.numbers, x < 128 := by
    intro x hx
    unfold LN.numbers at hx
    simp only [List.mem_append, List.mem_cons, List.not_mem_nil, or_false, List.mem_flatMap, List.mem_map] at hx
    rcases hx with ((((hx | ⟨r, hr, hx⟩) | hx) | ⟨t, ht, hx⟩) | hx) | ⟨k, hk, rfl⟩
    · rcases hx with rfl | rfl <;> omega
    · obtain ⟨i, hi, rfl⟩ := List.mem_iff_getElem.1 hr
      have := LN.right_reg h hi
      simp only [List.getD_eq_getElem?_getD, List.getElem?_eq_getElem hi, Option.getD_some] at this
      unfold LN.signals at this
      simp only [LR.nums, List.mem_cons, List.not_mem_nil, or_false] at hx
      rcases hx with rfl | rfl
      · unfold bit; split <;> omega
      · omega
    · omega
    · have htb := hg.2 t ht
      obtain ⟨i, hi, rfl⟩ := List.mem_iff_getElem.1 ht
      have := LN.right_tab h hi
      simp only [List.getD_eq_getElem?_getD, List.getElem?_eq_getElem hi, Option.getD_some] at this
      simp only [LT.nums, List.mem_cons, List.mem_append, List.mem_map, List.not_mem_nil, or_false] at hx
      rcases hx with rfl | ⟨k, hk, rfl⟩ | rfl
      · omega
      · obtain ⟨j, hj, rfl⟩ := List.mem_iff_getElem.1 hk
        have h2 := this.2.2.2 j hj
        simp only [List.getElem?_eq_getElem hj, Option.getD_some] at h2
        omega
      · omega
    · omega
    · obtain ⟨j, hj, rfl⟩ := List.mem_iff_getElem.1 hk
      have h2 := LN.right_out h hj
      simp only [List.getD_eq_getElem?_getD, List.getElem?_eq_getElem hj, Option.getD_some] at h2
      unfold LN.signals at h2
      omega
  have := flatMap_between L.numbers numB 1 fun x hx => by
    have e : numB x = [x] := numTo_low 4 x (key x hx)
    rw [e]; simp
  omega
end Go.Proofs.YtlaeflpddehipabDoor
