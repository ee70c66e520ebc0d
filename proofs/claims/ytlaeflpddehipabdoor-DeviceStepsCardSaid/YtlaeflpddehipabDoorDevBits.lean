/- Devices, in plain words: how wide, what goes in, what comes out; package device's bits. -/
import Derived.Test.YtlaeflpddehipabDoorOpenAll
import Derived.Test.YtlaeflpddehipabDoorSrcAll
import Derived.Test.YtlaeflpddehipabDoorLsPlain
set_option linter.unusedVariables false
namespace Go.Proofs.YtlaeflpddehipabDoor
open Go.RowKit

/-! ### how wide -/
def wd (l : List Int) (i : Nat) : Nat := (vwidth (l.getD i 0)).toNat
def wTo (l : List Int) : Nat → Nat
  | 0 => 0
  | i + 1 => wTo l i + wd l i
def wAll (l : List Int) : Bool := (List.range l.length).all fun i => decide (wd l i ≠ 0)
def wBits (l : List Int) : Int := if wAll l = true then (wTo l l.length : Nat) else -1
theorem wd_le (l : List Int) (i : Nat) : wd l i ≤ 8 := by
  have := vwidth_le (l.getD i 0)
  unfold wd
  omega
theorem wd_int (l : List Int) (i : Nat) : vwidth (l.getD i 0) = (wd l i : Nat) := by
  have := vwidth_le (l.getD i 0)
  unfold wd
  omega
theorem wTo_le (l : List Int) : ∀ i, wTo l i ≤ 8 * i
  | 0 => Nat.le_refl _
  | i + 1 => by
    have h1 := wTo_le l i
    have h2 := wd_le l i
    unfold wTo
    omega
theorem wTo_mono (l : List Int) {i j : Nat} (h : i ≤ j) : wTo l i ≤ wTo l j := by
  obtain ⟨d, rfl⟩ : ∃ d, j = i + d := ⟨j - i, by omega⟩
  clear h
  induction d with
  | zero => exact Nat.le_refl _
  | succ d ih => exact Nat.le_trans ih (Nat.le_add_right _ _)
theorem wAll_yes {l : List Int} {n : Nat} (hn : l.length = n) (h : ∀ j, j < n → wd l j ≠ 0) : wAll l = true := by
  subst hn
  unfold wAll
  rw [List.all_eq_true]
  intro j hj
  exact decide_eq_true (h j (List.mem_range.1 hj))
theorem wAll_no {l : List Int} {n j : Nat} (hn : l.length = n) (hj : j < n) (h : wd l j = 0) : wAll l = false := by
  subst hn
  cases hw : wAll l
  · rfl
  · unfold wAll at hw
    rw [List.all_eq_true] at hw
    have := of_decide_eq_true (hw j (List.mem_range.2 hj))
    exact absurd h this

/-! ### what goes in, what comes out -/
def dIn (ins gv : List Int) : Nat → List Bool
  | 0 => []
  | i + 1 => dIn ins gv i ++ vbits (ins.getD i 0) (gv.getD i 0)
def dOut (outs : List Int) (bs : List Bool) : Nat → List Int
  | 0 => []
  | i + 1 => dOut outs bs i ++ [vof ((bs.drop (wTo outs i)).take (wd outs i))]
theorem dIn_len (ins gv : List Int) : ∀ i, (dIn ins gv i).length = wTo ins i
  | 0 => rfl
  | i + 1 => by
    unfold dIn wTo
    rw [List.length_append, dIn_len ins gv i, vbits_len]
    rfl
theorem dOut_len (outs : List Int) (bs : List Bool) : ∀ i, (dOut outs bs i).length = i
  | 0 => rfl
  | i + 1 => by
    unfold dOut
    rw [List.length_append, dOut_len outs bs i]
    rfl
/-- A part of bits in memory. -/
theorem Cells.part {B : Nat} {w : World} {a : Option Addr} {n m c : Nat} {l : List Bool} (h : Cells B w a n (fun j => .bool (l.getD j false))) (hm : m ≤ n) (hc : n ≤ c) :
    Cells B w (if c = m then a else a.map (·.add (m * 1))) (n - m) (fun j => .bool ((l.drop m).getD j false)) := by
  by_cases e : c = m
  · exact .inl (by omega)
  · rw [if_neg e]
    rcases h with h | ⟨b, off, rfl, hB, hh⟩
    · exact .inl (by omega)
    · refine .inr ⟨b, off + m, ?_, hB, fun j hj => ?_⟩
      · show some ((⟨b, off, none⟩ : Addr).add (m * 1)) = _
        unfold Addr.add
        split <;> simp_all
      · have := hh (m + j) (by omega)
        rw [Nat.add_assoc, this]
        simp [List.getD_eq_getElem?_getD]
theorem Cells.head {B : Nat} {w : World} {a : Option Addr} {n m : Nat} {l : List Bool} (h : Cells B w a n (fun j => .bool (l.getD j false))) (hm : m ≤ n) :
    Cells B w a m (fun j => .bool ((l.take m).getD j false)) := by
  rcases h with h | ⟨b, off, rfl, hB, hh⟩
  · exact .inl (by omega)
  · refine .inr ⟨b, off, rfl, hB, fun j hj => ?_⟩
    rw [hh j (by omega)]
    simp [List.getD_eq_getElem?_getD, hj]

set_option maxHeartbeats 800000 in
theorem dbits_any (B : Nat) (a : Option Addr) (n c : Nat) (l : List Int) (w : World) (hl : l.length = n) (hn : n ≤ 20) (hc : Cells B w a n (fun j => .int .i64 (l.getD j 0))) :
    Calls Tryd.prog 51 #[.slice a n c] w fun e w' => e = .returned (.int .i64 (wBits l)) ∧ w = w' := by
  have HL := hid hl
  have HC := hid hc
  clear hl hc
  go_enter Tryd.func51, Tryd.ntmps51
  go_wp2
  go_loop [3, 8] (fun s i => ∃ k : Nat, k ≤ n ∧ i = .int .i64 k ∧ s = .int .i64 (wTo l k : Nat) ∧ ∀ j, j < k → wd l j ≠ 0) (fun _ i => n - (intOf i).toNat)
  case atStart => exact ⟨0, Nat.zero_le _, rfl, rfl, fun j hj => absurd hj (Nat.not_lt_zero _)⟩
  case round =>
    obtain ⟨k, hk, rfl, rfl, hall⟩ := hrel
    have HA := hid hall
    clear hall
    by_cases hlt : k < n
    · obtain ⟨b, off, rfl, hB, hcell⟩ := HC.out.at (by omega)
      have hck := hcell k hlt
      have hwi := wd_int l k
      have hwl := wd_le l k
      have hto := wTo_le l k
      have HE : Hid (wTo l (k + 1) = wTo l k + wd l k) := rfl
      obtain ⟨x, hx⟩ : ∃ x, l.getD k 0 = x := ⟨_, rfl⟩
      rw [hx] at hck hwi
      have HWI := hid hwi
      obtain ⟨d, hd⟩ : ∃ d, wd l k = d := ⟨_, rfl⟩
      obtain ⟨t, ht⟩ : ∃ t, wTo l k = t := ⟨_, rfl⟩
      rw [hd] at hwl
      rw [ht] at hto
      have HD := hid hd
      have HT := hid ht
      rw [ht]
      clear hcell hwi hd ht hx
      by_cases hz : d = 0
      · subst hz
        have HZ := hid (wAll_no HL.out hlt HD.out)
        go_wp2_with (go_at_call 53; refine (width_any _ _).mono ?_; rintro e w' ⟨rfl, rfl⟩; rw [HWI.out, HD.out])
        go_ret
        exact ⟨ret_int (by unfold wBits; rw [HZ.out]; rfl), rfl⟩
      · have hz' : ¬ (d : Int) = 0 := by omega
        go_wp2_with (go_at_call 53; refine (width_any _ _).mono ?_; rintro e w' ⟨rfl, rfl⟩; rw [HWI.out, HD.out])
        go_round
        case rel =>
          refine ⟨k + 1, hlt, by go_num, val_int (by rw [HE.out, HT.out, HD.out]; omega), fun j hj => ?_⟩
          by_cases h : j < k
          · exact HA.out j h
          · obtain rfl : j = k := by omega
            rw [HD.out]
            exact hz
        case measure => simp [intOf]; omega
    · obtain rfl : k = n := by omega
      go_wp2
      go_ret
      exact ⟨ret_int (by unfold wBits; rw [if_pos (wAll_yes HL.out HA.out), HL.out]), rfl⟩
end Go.Proofs.YtlaeflpddehipabDoor
