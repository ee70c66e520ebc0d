/- Numbers and their bits: what and, or, xor of 64-bit numbers come to. slices.Equal at bools and ints: whether two slices hold the same. Width, Bits and Of of package value and of the document (by gen_dval.py out of XVal, XReckPlain, XTwo and XRefVal). From what an argument reads as to what lies in memory: slices, element by element. -/
import Derived.Test.YtlaeflpddehipabDoorBase
import Derived.Deep.QuietTactic
import Derived.BigQuiet
import Derived.IntWalk
import Derived.ProofKit
import Derived.OpenShut
import Derived.Deep.Slices
section
set_option linter.unusedVariables false
namespace Go.Proofs.YtlaeflpddehipabDoor
open Go.RowKit

theorem and_def (x y : Int) : bits .and .i64 x y = IntKind.i64.wrap (((BitVec.ofInt 64 x) &&& (BitVec.ofInt 64 y)).toNat : Int) := rfl
theorem or_def (x y : Int) : bits .or .i64 x y = IntKind.i64.wrap (((BitVec.ofInt 64 x) ||| (BitVec.ofInt 64 y)).toNat : Int) := rfl
theorem xor_def (x y : Int) : bits .xor .i64 x y = IntKind.i64.wrap (((BitVec.ofInt 64 x) ^^^ (BitVec.ofInt 64 y)).toNat : Int) := rfl

theorem wrap_of (x : Nat) (h : x < 18446744073709551616) : IntKind.i64.wrap (x : Int) = if x < 9223372036854775808 then (x : Int) else (x : Int) - 18446744073709551616 := by
  rw [IntKind.wrap_i64]
  split <;> omega

theorem wrap_nat (x : Nat) (h : x < 9223372036854775808) : IntKind.i64.wrap (x : Int) = x := by
  rw [wrap_of x (by omega), if_pos h]

theorem ofInt_toNat (n : Int) : (BitVec.ofInt 64 n).toNat = (n % 18446744073709551616).toNat := by
  rw [BitVec.toNat_ofInt]; rfl

/-- The last m bits of a number. -/
theorem and_mask (n : Int) (m : Nat) (hm : m ≤ 62) : bits .and .i64 n (2 ^ m - 1) = n % 2 ^ m := by
  have hp : (2 : Nat) ^ m ≤ 2 ^ 62 := Nat.pow_le_pow_right (by omega) hm
  have hpos : 0 < (2 : Nat) ^ m := Nat.pow_pos (by omega)
  have hb : (BitVec.ofInt 64 ((2 : Int) ^ m - 1)).toNat = 2 ^ m - 1 := by
    rw [ofInt_toNat]
    have e : ((2 : Int) ^ m) = ((2 ^ m : Nat) : Int) := by simp
    rw [e]
    omega
  rw [and_def, BitVec.toNat_and, hb, ofInt_toNat, Nat.and_two_pow_sub_one_eq_mod]
  have h1 : (n % 18446744073709551616).toNat % 2 ^ m < 2 ^ m := Nat.mod_lt _ hpos
  rw [wrap_nat _ (by omega)]
  have h2 : ((n % 18446744073709551616).toNat : Int) = n % 18446744073709551616 := by omega
  rw [Int.natCast_emod, h2]
  have e : ((2 ^ m : Nat) : Int) = (2 : Int) ^ m := by simp
  rw [e]
  apply Int.emod_emod_of_dvd
  refine ⟨2 ^ (64 - m), ?_⟩
  rw [← Int.pow_add, show m + (64 - m) = 64 from by omega]
  rfl

/-- Each bit the other one. -/
theorem xor_ones (n : Int) (h : -9223372036854775808 ≤ n ∧ n ≤ 9223372036854775807) : bits .xor .i64 (-1) n = -n - 1 := by
  have e1 : BitVec.ofInt 64 (-1) = BitVec.allOnes 64 := by decide
  rw [xor_def, e1, BitVec.allOnes_xor, BitVec.toNat_not, ofInt_toNat]
  rw [wrap_of _ (by omega)]
  split <;> omega

/-- A bit more. -/
theorem or_bit (x : Nat) (m : Nat) (hm : m ≤ 62) (hx : x < 2 ^ m) : bits .or .i64 (x : Int) (2 ^ m) = x + 2 ^ m := by
  have hp : (2 : Nat) ^ m ≤ 2 ^ 62 := Nat.pow_le_pow_right (by omega) hm
  have e : ((2 : Int) ^ m) = ((2 ^ m : Nat) : Int) := by simp
  have hb : (BitVec.ofInt 64 ((2 : Int) ^ m)).toNat = 2 ^ m := by
    rw [ofInt_toNat, e]; omega
  have ha : (BitVec.ofInt 64 (x : Int)).toNat = x := by
    rw [ofInt_toNat]; omega
  rw [or_def, BitVec.toNat_or, ha, hb]
  have h2 : x ||| 2 ^ m = x + 2 ^ m := by
    have h := Nat.two_pow_add_eq_or_of_lt hx 1
    rw [Nat.mul_one] at h
    rw [Nat.or_comm, ← h]; omega
  rw [h2, wrap_nat _ (by omega)]
  simp
end Go.Proofs.YtlaeflpddehipabDoor
end
section
set_option linter.unusedVariables false
namespace Go.Proofs.YtlaeflpddehipabDoor
open Go.RowKit

/-- A bool comes back; but for draws the world is as it was. -/
def Says (b : Bool) (w : World) (e : Ending) (w' : World) : Prop := e = .returned (.bool b) ∧ ∃ q, w' = w.drewN q

theorem Says.below {b : Bool} {w w' : World} {e : Ending} (h : Says b w e w') : e = .returned (.bool b) ∧ Below w.heap.size w w' := by
  obtain ⟨h1, q, rfl⟩ := h
  exact ⟨h1, below_drewN (Below.refl _ _) q⟩

theorem drewN_add (w : World) (a b : Nat) : (w.drewN a).drewN b = w.drewN (a + b) := by simp [World.drewN, Nat.add_assoc]

theorem Cells.drewN {B : Nat} {w : World} {a : Option Addr} {m : Nat} {f : Nat → Value} (h : Cells B w a m f) (q : Nat) : Cells B (w.drewN q) a m f := h

theorem prefix_step {α : Type} [DecidableEq α] (l m : List α) (d : α) (k : Nat) (hl : k < l.length) (hm : k < m.length) (h : l.take k = m.take k) (hk : l.getD k d = m.getD k d) : l.take (k + 1) = m.take (k + 1) := by
  rw [List.take_succ_eq_append_getElem hl, List.take_succ_eq_append_getElem hm, h]
  simp [List.getD_eq_getElem?_getD, hl, hm] at hk
  rw [hk]

theorem prefix_ne {α : Type} (l m : List α) (d : α) (k : Nat) (hk : ¬ l.getD k d = m.getD k d) : ¬ l = m := by
  intro h; subst h; exact hk rfl

set_option maxHeartbeats 800000 in
theorem equal_bool (B : Nat) (a a' : Option Addr) (n c n' c' : Nat) (l m : List Bool) (w : World) (hn : n = l.length) (hn' : n' = m.length) (hm : n ≤ maxLen) (hx : Cells B w a n (fun i => .bool (l.getD i false))) (hy : Cells B w a' n' (fun i => .bool (m.getD i false))) :
    Calls Tryd.prog 22 #[.slice a n c, .slice a' n' c'] w (Says (decide (l = m)) w) := by
  unfold maxLen at hm
  have HN := hid hn
  have HN' := hid hn'
  have HX := hid hx
  have HY := hid hy
  clear hn hn' hx hy
  by_cases hne : n = n'
  · subst hne
    go_enter Tryd.func22, Tryd.ntmps22
    go_wp2
    go_loopw [13] (fun i wr => ∃ k q : Nat, k ≤ n ∧ i = .int .i64 k ∧ wr = w.drewN q ∧ l.take k = m.take k) (fun i _ => n - (intOf i).toNat)
    case atStart => exact ⟨0, 0, Nat.zero_le _, rfl, rfl, rfl⟩
    case round =>
      obtain ⟨k, q, hk, rfl, hwr, hpre⟩ := hrel
      have HW := hid hwr
      have HPRE := hid hpre
      clear hpre hwr
      by_cases hlt : k < n
      · obtain ⟨b, off, rfl, hB, hcell⟩ := HX.out.at (by omega)
        obtain ⟨b', off', rfl, hB', hcell'⟩ := HY.out.at (by omega)
        have h1 : wr.cell? ⟨b, off + k, none⟩ = some (.bool (l.getD k false)) := by rw [HW.out]; exact hcell k hlt
        have h2 : wr.cell? ⟨b', off' + k, none⟩ = some (.bool (m.getD k false)) := by rw [HW.out]; exact hcell' k hlt
        obtain ⟨x, hxx⟩ : ∃ x, l.getD k false = x := ⟨_, rfl⟩
        obtain ⟨y, hyy⟩ : ∃ y, m.getD k false = y := ⟨_, rfl⟩
        rw [hxx] at h1
        rw [hyy] at h2
        have HXX := hid hxx
        have HYY := hid hyy
        have hkI : (k : Int) < n := by omega
        have hk0 : (0 : Int) ≤ k := by omega
        clear hcell hcell' hxx hyy HX HY
        by_cases hxy : x = y
        · have hxy' : (x == y) = true := by simp [hxy]
          have HS := hid (prefix_step l m false k (by rw [← HN.out]; exact hlt) (by rw [← HN'.out]; exact hlt) HPRE.out (by rw [HXX.out, HYY.out, hxy]))
          have HXY := hid hxy
          clear hxy
          go_wp2
          go_quiet (fail)
          go_wp2
          go_roundw
          case rel => exact ⟨k + 1, _, by omega, by go_num, by rw [HW.out]; exact drewN_add _ _ _, HS.out⟩
          case measure => simp [intOf]; omega
        · have hxy' : (x == y) = false := by simp [hxy]
          have HS := hid (prefix_ne l m false k (by rw [HXX.out, HYY.out]; exact hxy))
          clear hxy
          go_wp2
          go_quiet (fail)
          go_wp2
          go_ret
          exact ⟨ret_bool (decide_eq_false HS.out).symm, _, by rw [HW.out]; exact drewN_add _ _ _⟩
      · obtain rfl : k = n := by omega
        go_wp2
        go_ret
        refine ⟨ret_bool ?_, _, HW.out⟩
        have h := HPRE.out
        rw [List.take_of_length_le (by rw [← HN.out]; exact Nat.le_refl _), List.take_of_length_le (by rw [← HN'.out]; exact Nat.le_refl _)] at h
        exact (decide_eq_true h).symm
  · have hlm : ¬ l = m := by intro h; subst h; exact hne (HN.out.trans HN'.out.symm)
    have HLM := hid hlm
    have hne' : ((n : Int) != n') = true := by rw [bne_iff_ne]; omega
    clear hlm
    go_enter Tryd.func22, Tryd.ntmps22
    go_wp2
    go_ret
    exact ⟨ret_bool (decide_eq_false HLM.out).symm, 0, rfl⟩

set_option maxHeartbeats 800000 in
theorem equal_int (B : Nat) (a a' : Option Addr) (n c n' c' : Nat) (l m : List Int) (w : World) (hn : n = l.length) (hn' : n' = m.length) (hm : n ≤ maxLen) (hx : Cells B w a n (fun i => .int .i64 (l.getD i 0))) (hy : Cells B w a' n' (fun i => .int .i64 (m.getD i 0))) :
    Calls Tryd.prog 115 #[.slice a n c, .slice a' n' c'] w (Says (decide (l = m)) w) := by
  unfold maxLen at hm
  have HN := hid hn
  have HN' := hid hn'
  have HX := hid hx
  have HY := hid hy
  clear hn hn' hx hy
  by_cases hne : n = n'
  · subst hne
    go_enter Tryd.func115, Tryd.ntmps115
    go_wp2
    go_loopw [13] (fun i wr => ∃ k q : Nat, k ≤ n ∧ i = .int .i64 k ∧ wr = w.drewN q ∧ l.take k = m.take k) (fun i _ => n - (intOf i).toNat)
    case atStart => exact ⟨0, 0, Nat.zero_le _, rfl, rfl, rfl⟩
    case round =>
      obtain ⟨k, q, hk, rfl, hwr, hpre⟩ := hrel
      have HW := hid hwr
      have HPRE := hid hpre
      clear hpre hwr
      by_cases hlt : k < n
      · obtain ⟨b, off, rfl, hB, hcell⟩ := HX.out.at (by omega)
        obtain ⟨b', off', rfl, hB', hcell'⟩ := HY.out.at (by omega)
        have h1 : wr.cell? ⟨b, off + k, none⟩ = some (.int .i64 (l.getD k 0)) := by rw [HW.out]; exact hcell k hlt
        have h2 : wr.cell? ⟨b', off' + k, none⟩ = some (.int .i64 (m.getD k 0)) := by rw [HW.out]; exact hcell' k hlt
        obtain ⟨x, hxx⟩ : ∃ x, l.getD k 0 = x := ⟨_, rfl⟩
        obtain ⟨y, hyy⟩ : ∃ y, m.getD k 0 = y := ⟨_, rfl⟩
        rw [hxx] at h1
        rw [hyy] at h2
        have HXX := hid hxx
        have HYY := hid hyy
        have hkI : (k : Int) < n := by omega
        have hk0 : (0 : Int) ≤ k := by omega
        clear hcell hcell' hxx hyy HX HY
        by_cases hxy : x = y
        · have hxy' : (x == y) = true := by simp [hxy]
          have HS := hid (prefix_step l m 0 k (by rw [← HN.out]; exact hlt) (by rw [← HN'.out]; exact hlt) HPRE.out (by rw [HXX.out, HYY.out, hxy]))
          have HXY := hid hxy
          clear hxy
          go_wp2
          go_quiet (fail)
          go_wp2
          go_roundw
          case rel => exact ⟨k + 1, _, by omega, by go_num, by rw [HW.out]; exact drewN_add _ _ _, HS.out⟩
          case measure => simp [intOf]; omega
        · have hxy' : (x == y) = false := by simp [hxy]
          have HS := hid (prefix_ne l m 0 k (by rw [HXX.out, HYY.out]; exact hxy))
          clear hxy
          go_wp2
          go_quiet (fail)
          go_wp2
          go_ret
          exact ⟨ret_bool (decide_eq_false HS.out).symm, _, by rw [HW.out]; exact drewN_add _ _ _⟩
      · obtain rfl : k = n := by omega
        go_wp2
        go_ret
        refine ⟨ret_bool ?_, _, HW.out⟩
        have h := HPRE.out
        rw [List.take_of_length_le (by rw [← HN.out]; exact Nat.le_refl _), List.take_of_length_le (by rw [← HN'.out]; exact Nat.le_refl _)] at h
        exact (decide_eq_true h).symm
  · have hlm : ¬ l = m := by intro h; subst h; exact hne (HN.out.trans HN'.out.symm)
    have HLM := hid hlm
    have hne' : ((n : Int) != n') = true := by rw [bne_iff_ne]; omega
    clear hlm
    go_enter Tryd.func115, Tryd.ntmps115
    go_wp2
    go_ret
    exact ⟨ret_bool (decide_eq_false HLM.out).symm, 0, rfl⟩
end Go.Proofs.YtlaeflpddehipabDoor
end
section
set_option linter.unusedVariables false
namespace Go.Proofs.YtlaeflpddehipabDoor
open Go.RowKit

def vwidth (k : Int) : Int := if k = 1 then 1 else if k = 2 then 8 else 0

set_option maxHeartbeats 400000 in
theorem width_any (k : Int) (w : World) :
    Calls Tryd.prog 53 #[.int .i64 k] w fun e w' => e = .returned (.int .i64 (vwidth k)) ∧ w = w' := by
  go_enter Tryd.func53, Tryd.ntmps53
  go_wp2
  all_goals go_ret
  all_goals exact ⟨ret_int (by simp_all [vwidth]), rfl⟩

def vcut (k n : Int) : Int := n % 2 ^ (vwidth k).toNat

def vbit (n : Int) (i : Nat) : Bool := decide (n / 2 ^ i % 2 = 1)
def vbits (k n : Int) : List Bool := (List.range (vwidth k).toNat).map (vbit n)



theorem vwidth_le (k : Int) : 0 ≤ vwidth k ∧ vwidth k ≤ 8 := by unfold vwidth; split <;> (try split) <;> omega

set_option maxHeartbeats 400000 in
theorem bits_any (k n : Int) (w : World) :
    Calls Tryd.prog 52 #[.int .i64 k, .int .i64 n] w (Gives 4 1 w (vbits k n).length ((vbits k n).map .bool)) := by
  obtain ⟨i0, hi, hz0, hz1, hz2⟩ := info_parts Tryd.infoBool
  have hw := vwidth_le k
  obtain ⟨m, hm⟩ : ∃ m : Nat, vwidth k = m := ⟨(vwidth k).toNat, by omega⟩
  have hB : Hid (vbits k n = (List.range m).map (vbit n)) := by unfold vbits; rw [hm]; rfl
  rw [hm] at hw
  have HM := hid hm
  clear hm
  go_enter Tryd.func52, Tryd.ntmps52
  go_wp2_with (go_at_call 53; refine (width_any _ _).mono ?_; rintro e w' ⟨rfl, rfl⟩; rw [HM.out])
  go_loopw [5, 9] (fun v i wr => ∃ j : Nat, j ≤ m ∧ i = .int .i64 j ∧ wr.ownsRow w.heap.size 4 1 v j (((List.range j).map (vbit n)).map .bool) ∧ Below w.heap.size w wr) (fun _ i _ => m - (intOf i).toNat)
  case atStart => exact ⟨0, Nat.zero_le _, rfl, World.ownsRow_nil _ _ _ _, Below.refl _ _⟩
  case round =>
    obtain ⟨j, hj, rfl, hown, hbel⟩ := hrel
    by_cases hlt : j < m
    · have h2 : (0 : Int) ≤ (j : Int) := by omega
      have hand := hid (and_mask (n / 2 ^ j) 1 (by omega))
      have hsz := hbel.size
      have hb : (bits .and .i64 (n / 2 ^ j) 1 == 1) = vbit n j := by
        have : bits .and .i64 (n / 2 ^ j) 1 = n / 2 ^ j % 2 := hand.out
        rw [this]; rfl
      have hbit := hid hb
      clear hb
      go_wp2_with (at_builtin; refine wpList_push _ w wr rfl _ _ 62 rfl 4 i0 (.bool false) 1 1 Tryd.underlying62 hi hz0 hz1 hz2 rfl (by decide) w.heap.size _ _ _ rfl hown 1 1 _ rfl rfl rfl rfl ?c3 ?c4 hbel (Nat.le_refl _) hsz ?_)
      case c3 => unfold maxLen; omega
      case c4 => omega
      intro v' w1 hown' hbel' _ _
      clear hown hbel
      go_wp2
      go_roundw
      case rel =>
        refine ⟨j + 1, by omega, by go_num, ?_, hbel'⟩
        rw [List.range_succ, List.map_append, List.map_append]
        simpa [hbit.out] using hown'
      case measure => simp [intOf]; omega
    · obtain rfl : j = m := by omega
      go_wp2
      go_ret
      exact ⟨_, rfl, by rw [hB.out]; simpa using hown, hbel⟩

/-! ### the number of bits -/
/-- What the first k of some bits come to (from the 62nd on they are not reckoned). -/
def vofTo (l : List Bool) : Nat → Nat
  | 0 => 0
  | k + 1 => vofTo l k + if l.getD k false = true ∧ k < 62 then 2 ^ k else 0
def vof (l : List Bool) : Int := vofTo l l.length

theorem vofTo_lt (l : List Bool) (k : Nat) : vofTo l k < 2 ^ (min k 62) := by
  induction k with
  | zero => simp [vofTo]
  | succ k ih =>
    unfold vofTo
    split
    · rename_i h
      rw [show min (k + 1) 62 = k + 1 from by omega, Nat.pow_succ]
      rw [show min k 62 = k from by omega] at ih
      omega
    · exact Nat.lt_of_lt_of_le ih (Nat.pow_le_pow_right (by omega) (by omega))

theorem vofTo_step (l : List Bool) (k : Nat) (h : k < 62) (hb : l.getD k false = true) : bits .or .i64 ((vofTo l k : Nat) : Int) (2 ^ k) = ((vofTo l (k + 1) : Nat) : Int) := by
  have h1 := vofTo_lt l k
  rw [show min k 62 = k from by omega] at h1
  rw [or_bit _ _ (by omega) h1]
  simp only [vofTo, hb, h, and_self, if_true]
  simp

set_option maxHeartbeats 800000 in
theorem of_any (B : Nat) (a : Option Addr) (n c : Nat) (l : List Bool) (w : World) (hn : n = l.length) (hm : n ≤ maxLen) (hc : Cells B w a n (fun i => .bool (l.getD i false))) :
    Calls Tryd.prog 54 #[.slice a n c] w fun e w' => e = .returned (.int .i64 (vof l)) ∧ w = w' := by
  unfold maxLen at hm
  have HN := hid hn
  clear hn
  go_enter Tryd.func54, Tryd.ntmps54
  go_wp2
  go_loop [3, 8] (fun s i => ∃ k : Nat, k ≤ n ∧ i = .int .i64 k ∧ s = .int .i64 (vofTo l k : Nat)) (fun _ i => n - (intOf i).toNat)
  case atStart => exact ⟨0, Nat.zero_le _, rfl, rfl⟩
  case round =>
    obtain ⟨k, hk, rfl, rfl⟩ := hrel
    by_cases hlt : k < n
    · obtain ⟨b, off, rfl, hB, hcell⟩ := hc.at (by omega)
      have hck := hcell k hlt
      clear hcell
      by_cases hb : l.getD k false = true
      · by_cases h62 : k < 62
        · have hst := hid (vofTo_step l k h62 hb)
          rw [hb] at hck
          have hp : wrap64 (2 ^ k) = 2 ^ k := by
            have : (2 : Nat) ^ k ≤ 2 ^ 61 := Nat.pow_le_pow_right (by omega) (by omega)
            have e : ((2 : Int) ^ k) = ((2 ^ k : Nat) : Int) := by simp
            have hpos : 0 < (2 : Nat) ^ k := Nat.pow_pos (by omega)
            rw [e]; unfold wrap64; omega
          have h0 : (0 : Int) ≤ k := by omega
          have h62' : (k : Int) < 62 := by omega
          go_wp2
          go_round
          case rel => exact ⟨k + 1, by omega, by go_num, val_int hst.out⟩
          case measure => simp [intOf]; omega
        · rw [hb] at hck
          have h62' : ¬ (k : Int) < 62 := by omega
          go_wp2
          go_round
          case rel => exact ⟨k + 1, by omega, by go_num, by simp [vofTo, h62]⟩
          case measure => simp [intOf]; omega
      · rw [Bool.not_eq_true] at hb
        rw [hb] at hck
        go_wp2
        go_round
        case rel => exact ⟨k + 1, by omega, by go_num, val_int (by simp only [vofTo, hb]; simp)⟩
        case measure => simp [intOf]; omega
    · obtain rfl : k = n := by omega
      go_wp2
      go_ret
      exact ⟨ret_int (by rw [vof, HN.out]), rfl⟩

/-! ### two -/
theorem cut_ref (k n : Int) : (if n.tmod (2 ^ (vwidth k).toNat) < 0 then n.tmod (2 ^ (vwidth k).toNat) + 2 ^ (vwidth k).toNat else n.tmod (2 ^ (vwidth k).toNat)) = vcut k n := by
  unfold vcut
  have hp : (0 : Int) < 2 ^ (vwidth k).toNat := Int.pow_pos (by omega)
  generalize (2 : Int) ^ (vwidth k).toNat = m at *
  have h1 := Int.tmod_eq_emod (a := n) (b := m)
  have h2 := Int.emod_nonneg n (show m ≠ 0 by omega)
  have h3 := Int.emod_lt_of_pos n hp
  rw [h1]
  split
  · split at * <;> omega
  · split at * <;> omega
theorem half_step (n : Int) (i : Nat) : n / 2 ^ i / 2 = n / 2 ^ (i + 1) := by
  rw [Int.pow_succ, Int.ediv_ediv_of_nonneg (Int.le_of_lt (Int.pow_pos (by omega)))]
theorem vbit_cut1 (n : Int) (i : Nat) (h : i < 1) : vbit (n % 2 ^ 1) i = vbit n i := by
  have : i = 0 := by omega
  subst this
  unfold vbit
  congr 2
  show n % 2 ^ 1 / 2 ^ 0 % 2 = n / 2 ^ 0 % 2
  omega
theorem vbit_cut8 (n : Int) (i : Nat) (h : i < 8) : vbit (n % 2 ^ 8) i = vbit n i := by
  unfold vbit
  congr 2
  match i, h with
  | 0, _ => show n % 2 ^ 8 / 2 ^ 0 % 2 = n / 2 ^ 0 % 2; omega
  | 1, _ => show n % 2 ^ 8 / 2 ^ 1 % 2 = n / 2 ^ 1 % 2; omega
  | 2, _ => show n % 2 ^ 8 / 2 ^ 2 % 2 = n / 2 ^ 2 % 2; omega
  | 3, _ => show n % 2 ^ 8 / 2 ^ 3 % 2 = n / 2 ^ 3 % 2; omega
  | 4, _ => show n % 2 ^ 8 / 2 ^ 4 % 2 = n / 2 ^ 4 % 2; omega
  | 5, _ => show n % 2 ^ 8 / 2 ^ 5 % 2 = n / 2 ^ 5 % 2; omega
  | 6, _ => show n % 2 ^ 8 / 2 ^ 6 % 2 = n / 2 ^ 6 % 2; omega
  | 7, _ => show n % 2 ^ 8 / 2 ^ 7 % 2 = n / 2 ^ 7 % 2; omega
theorem vbit_cut (k n : Int) (i : Nat) (h : i < (vwidth k).toNat) : vbit (vcut k n) i = vbit n i := by
  unfold vcut
  unfold vwidth at h ⊢
  split at h
  · rename_i h1
    rw [if_pos h1]
    exact vbit_cut1 n i h
  · rename_i h1
    rw [if_neg h1]
    split at h
    · rename_i h2
      rw [if_pos h2]
      exact vbit_cut8 n i h
    · exact absurd h (by simp)

/-! ### two -/
theorem vcut_bd (k n : Int) : 0 ≤ vcut k n ∧ vcut k n ≤ 255 := by
  unfold vcut vwidth
  split
  · simp; omega
  · split
    · simp; omega
    · simp
set_option maxHeartbeats 400000 in
theorem rwidth_any (k : Int) (w : World) :
    Calls Tryd.prog 50 #[.int .i64 k] w fun e w' => e = .returned (.int .i64 (vwidth k)) ∧ w = w' := by
  go_enter Tryd.func50, Tryd.ntmps50
  go_wp2
  all_goals go_ret
  all_goals exact ⟨ret_int (by simp_all [vwidth]), rfl⟩

theorem two_pow_small (j : Nat) (h : j ≤ 8) : 1 ≤ (2 : Nat) ^ j ∧ (2 : Nat) ^ j ≤ 256 := by
  refine ⟨Nat.one_le_two_pow, ?_⟩
  exact Nat.le_trans (Nat.pow_le_pow_right (by omega) h) (by decide)

/-- The loop 'for range Width(kind) { m *= 2 }' and what is behind it, at a type's width. -/
def pw (j : Nat) : Int := ((2 ^ j : Nat) : Int)
theorem pw_bd (j : Nat) (h : j ≤ 8) : 1 ≤ pw j ∧ pw j ≤ 256 := by
  have := two_pow_small j h
  unfold pw
  omega
theorem pw_succ (j : Nat) : pw j * 2 = pw (j + 1) := by unfold pw; rw [Nat.pow_succ]; omega
theorem pw_eq (j : Nat) : pw j = (2 : Int) ^ j := by unfold pw; simp
theorem cut_pw (k n : Int) (m : Nat) (hm : (vwidth k).toNat = m) : (if n.tmod (pw m) < 0 then n.tmod (pw m) + pw m else n.tmod (pw m)) = vcut k n := by
  subst hm
  rw [pw_eq]
  exact cut_ref k n

set_option maxHeartbeats 800000 in
theorem rcut_any (k n : Int) (w : World) :
    Calls Tryd.prog 83 #[.int .i64 k, .int .i64 n] w fun e w' => e = .returned (.int .i64 (vcut k n)) ∧ w = w' := by
  have hw := vwidth_le k
  obtain ⟨m, hm⟩ : ∃ m : Nat, vwidth k = m := ⟨(vwidth k).toNat, by omega⟩
  have hC := hid (cut_pw k n m (by rw [hm]; rfl))
  rw [hm] at hw
  have HM := hid hm
  clear hm
  go_enter Tryd.func83, Tryd.ntmps83
  go_wp2_with (go_at_call 50; refine (rwidth_any _ _).mono ?_; rintro e w' ⟨rfl, rfl⟩; rw [HM.out])
  go_loop [5, 8] (fun s5 s8 => ∃ j : Nat, j ≤ m ∧ s8 = .int .i64 j ∧ s5 = .int .i64 (pw j)) (fun _ s8 => m - (intOf s8).toNat)
  case atStart => exact ⟨0, Nat.zero_le _, rfl, rfl⟩
  case round =>
    obtain ⟨j, hj, rfl, rfl⟩ := hrel
    have hb := pw_bd j (by omega)
    obtain ⟨hb0, hb1⟩ := hb
    by_cases hlt : j < m
    · have hs := hid (pw_succ j)
      go_wp2
      go_round
      case rel => exact ⟨j + 1, by omega, by go_num, val_int hs.out⟩
      case measure => simp [intOf]; omega
    · obtain rfl : j = m := by omega
      generalize pw j = p at *
      have hne : ¬ p = 0 := by omega
      have hp0 : (0 : Int) < p := by omega
      by_cases hneg : n.tmod p < 0
      · have e := hC.out
        rw [if_pos hneg] at e
        have E := hid e
        have hlo : -256 ≤ n.tmod p := by have := Int.lt_tmod_of_pos n hp0; omega
        clear e hC
        go_wp2
        go_ret
        exact ⟨ret_int E.out, rfl⟩
      · have e := hC.out
        rw [if_neg hneg] at e
        have E := hid e
        clear e hC
        go_wp2
        go_ret
        exact ⟨ret_int E.out, rfl⟩

theorem vbits_len (k n : Int) : (vbits k n).length = (vwidth k).toNat := by unfold vbits; simp
theorem bits_step (n : Int) (j : Nat) (h0 : 0 ≤ n) : ((n / 2 ^ j).tmod 2 == 1) = vbit n j := by
  have h1 : 0 ≤ n / 2 ^ j := Int.ediv_nonneg h0 (Int.le_of_lt (Int.pow_pos (by omega)))
  rw [Int.tmod_eq_emod_of_nonneg h1]
  rfl

set_option maxHeartbeats 800000 in
theorem rbits_any (k n : Int) (w : World) :
    Calls Tryd.prog 55 #[.int .i64 k, .int .i64 n] w (Gives 4 1 w (vbits k n).length ((vbits k n).map .bool)) := by
  obtain ⟨i0, hi, hz0, hz1, hz2⟩ := info_parts Tryd.infoBool
  have hw := vwidth_le k
  have hcb := vcut_bd k n
  obtain ⟨m, hm⟩ : ∃ m : Nat, vwidth k = m := ⟨(vwidth k).toNat, by omega⟩
  have hB : Hid (vbits k n = (List.range m).map (vbit (vcut k n))) := by
    unfold vbits
    rw [hm]
    refine List.map_congr_left fun i hi => (vbit_cut k n i ?_).symm
    rw [hm]
    simpa using hi
  obtain ⟨c, hc⟩ : ∃ c, vcut k n = c := ⟨_, rfl⟩
  rw [hc] at hcb hB
  rw [hm] at hw
  have HM := hid hm
  have HC := hid hc
  obtain ⟨hcb0, hcb1⟩ := hcb
  clear hm hc
  go_enter Tryd.func55, Tryd.ntmps55
  go_wp2_with (first
    | (go_at_call 83; refine (rcut_any _ _ _).mono ?_; rintro e w' ⟨rfl, rfl⟩; rw [HC.out])
    | (go_at_call 50; refine (rwidth_any _ _).mono ?_; rintro e w' ⟨rfl, rfl⟩; rw [HM.out]))
  go_loopw [5, 1, 11] (fun v s1 i wr => ∃ j : Nat, j ≤ m ∧ i = .int .i64 j ∧ s1 = .int .i64 (c / 2 ^ j) ∧ wr.ownsRow w.heap.size 4 1 v j (((List.range j).map (vbit c)).map .bool) ∧ Below w.heap.size w wr) (fun _ _ i _ => m - (intOf i).toNat)
  case atStart => exact ⟨0, Nat.zero_le _, rfl, by simp, World.ownsRow_nil _ _ _ _, Below.refl _ _⟩
  case round =>
    obtain ⟨j, hj, rfl, rfl, hown, hbel⟩ := hrel
    by_cases hlt : j < m
    · have h2 : (0 : Int) ≤ (j : Int) := by omega
      have hsz := hbel.size
      have hc0 : 0 ≤ c / 2 ^ j := Int.ediv_nonneg hcb0 (Int.le_of_lt (Int.pow_pos (by omega)))
      have hc1 : c / 2 ^ j ≤ 255 := Int.le_trans (Int.ediv_le_self _ hcb0) hcb1
      have HS := hid (half_step c j)
      have HB : Hid ((c / 2 ^ j % 2 == 1) = vbit c j) := rfl
      generalize c / 2 ^ j = cj at *
      go_wp2_with (at_builtin; refine wpList_push _ w wr rfl _ _ 62 rfl 4 i0 (.bool false) 1 1 Tryd.underlying62 hi hz0 hz1 hz2 rfl (by decide) w.heap.size _ _ _ rfl hown 1 1 _ rfl rfl rfl rfl ?c3 ?c4 hbel (Nat.le_refl _) hsz ?_)
      case c3 => unfold maxLen; omega
      case c4 => omega
      intro v' w1 hown' hbel' _ _
      clear hown hbel
      go_wp2
      go_roundw
      case rel =>
        refine ⟨j + 1, by omega, by go_num, val_int HS.out, ?_, hbel'⟩
        rw [List.range_succ, List.map_append, List.map_append]
        simpa [← HB.out] using hown'
      case measure => simp [intOf]; omega
    · obtain rfl : j = m := by omega
      go_wp2
      go_ret
      exact ⟨_, rfl, by rw [hB.out]; simpa using hown, hbel⟩

/-- 2 to the j, or (from the 62nd on) whatever. -/
theorem rof_step (l : List Bool) (k : Nat) (h : k < 62) : vofTo l (k + 1) = vofTo l k + if l.getD k false = true then 2 ^ k else 0 := by
  simp [vofTo, h]
theorem vofTo_past (l : List Bool) (k : Nat) (h : 62 ≤ k) : vofTo l k = vofTo l 62 := by
  obtain ⟨d, rfl⟩ : ∃ d, k = 62 + d := ⟨k - 62, by omega⟩
  induction d with
  | zero => rfl
  | succ d ih =>
    show vofTo l (62 + d) + (if l.getD (62 + d) false = true ∧ 62 + d < 62 then 2 ^ (62 + d) else 0) = _
    rw [if_neg (by omega), Nat.add_zero, ih (by omega)]
def p2 (k : Nat) : Nat := 2 ^ k
theorem p2_succ (k : Nat) : p2 k * 2 = p2 (k + 1) := by unfold p2; rw [Nat.pow_succ]
theorem p2_le (k : Nat) (h : k ≤ 62) : p2 k ≤ 4611686018427387904 := Nat.pow_le_pow_right (by omega) h

set_option maxHeartbeats 800000 in
theorem rof_any (B : Nat) (a : Option Addr) (n c : Nat) (l : List Bool) (w : World) (hn : n = l.length) (hm : n ≤ maxLen) (hc : Cells B w a n (fun i => .bool (l.getD i false))) :
    Calls Tryd.prog 57 #[.slice a n c] w fun e w' => e = .returned (.int .i64 (vof l)) ∧ w = w' := by
  unfold maxLen at hm
  have HN := hid hn
  clear hn
  obtain ⟨m, hmm⟩ : ∃ m, min n 62 = m := ⟨_, rfl⟩
  have hm1 : m ≤ n := by omega
  have hm2 : m ≤ 62 := by omega
  have hfin : Hid (m = n ∨ m = 62) := by unfold Hid; omega
  have HV : Hid (vof l = (vofTo l m : Nat)) := by
    unfold Hid vof
    rw [← HN.out]
    rcases hfin.out with h | h
    · rw [h]
    · rw [vofTo_past l n (by omega), h]
  clear hmm
  go_enter Tryd.func57, Tryd.ntmps57
  go_wp2
  go_loop [3, 4, 5] (fun s3 s4 s5 => ∃ k : Nat, k ≤ m ∧ s5 = .int .i64 k ∧ s3 = .int .i64 (vofTo l k : Nat) ∧ s4 = .int .i64 (p2 k : Nat)) (fun _ _ s5 => m - (intOf s5).toNat)
  case atStart => exact ⟨0, Nat.zero_le _, rfl, rfl, rfl⟩
  case round =>
    obtain ⟨k, hk, rfl, rfl, rfl⟩ := hrel
    by_cases hlt : k < m
    · have hkn : (k : Int) < (n : Int) := by omega
      have hk62 : (k : Int) < 62 := by omega
      have hk0 : (0 : Int) ≤ (k : Int) := by omega
      obtain ⟨b, off, rfl, hB, hcell⟩ := hc.at (by omega)
      have hck := hcell k (by omega)
      have hst := rof_step l k (by omega)
      have hp : p2 k ≤ 2305843009213693952 := Nat.pow_le_pow_right (by omega) (by omega : k ≤ 61)
      have hv : vofTo l k < p2 k := by
        have := vofTo_lt l k
        rw [show min k 62 = k by omega] at this
        exact this
      have HP := hid (p2_succ k)
      have e2 : (2 : Nat) ^ k = p2 k := rfl
      rw [e2] at hst
      have HST := hid hst
      generalize vofTo l k = vk at *
      generalize p2 k = pk at *
      clear hcell hst e2
      cases hb : l.getD k false
      · have hs2 := HST.out
        rw [hb] at hs2
        rw [hb] at hck
        have HS2 := hid hs2
        clear hb hs2
        go_wp2
        go_round
        case rel => exact ⟨k + 1, by omega, by go_num, val_int (by rw [HS2.out]; simp), val_int (by rw [← HP.out]; simp)⟩
        case measure => simp [intOf]; omega
      · have hs2 := HST.out
        rw [hb] at hs2
        rw [hb] at hck
        have HS2 := hid hs2
        clear hb hs2
        go_wp2
        go_round
        case rel => exact ⟨k + 1, by omega, by go_num, val_int (by rw [HS2.out]; simp), val_int (by rw [← HP.out]; simp)⟩
        case measure => simp [intOf]; omega
    · obtain rfl : k = m := by omega
      generalize p2 k = pk at *
      rcases hfin.out with h | h
      · subst h
        go_wp2
        go_ret
        exact ⟨ret_int HV.out.symm, rfl⟩
      · have HK := hid h
        have hk62 : ¬ (k : Int) < 62 := by omega
        by_cases hkn : (k : Int) < (n : Int)
        · clear h
          go_wp2
          go_ret
          exact ⟨ret_int HV.out.symm, rfl⟩
        · clear h
          go_wp2
          go_ret
          exact ⟨ret_int HV.out.symm, rfl⟩
end Go.Proofs.YtlaeflpddehipabDoor
end
section
set_option linter.unusedVariables false
namespace Go.Proofs.YtlaeflpddehipabDoor
open Go.RowKit Go.ChangeShapes Go.WideShapes Go.ChangeAt

section
variable {H : Type} {enc : TypeId × Value → H} {P : Program} {w : World} {held : Bool}

theorem lt_of_cell {w : World} {a : Addr} {v : Value} (h : w.cell? a = some v) : a.block < w.heap.size ∧ a.spot = none := by
  unfold World.cell? at h
  constructor
  · rcases Nat.lt_or_ge a.block w.heap.size with h' | h'
    · exact h'
    · simp [Array.getElem?_eq_none h'] at h
  · cases hs : a.spot with
    | none => rfl
    | some s => split at h <;> simp [hs] at h

theorem cells?_get {w : World} {base : Nat} {a : Addr} {n : Nat} {cs : List Value} (h : w.cells? base a n = some cs) : cs.length = n ∧ ∀ k, k < n → w.cell? (a.add k) = some (cs.getD k undef) := by
  obtain ⟨_, hlen, hc⟩ := World.cells?_some h
  refine ⟨hlen, fun k hk => ?_⟩
  rw [hc k hk]
  simp [List.getD_eq_getElem?_getD, hlen, hk]

theorem open_row {T E : TypeId} {sz fuel : Nat} {cs : List Value} {x : DataW H × List MemPlace} (hT : P.underlying T = some (.slice E)) (hc : P.cellsOf E = sz) (hsz : 0 < sz)
    (h : DataW.trod enc P w 0 (fun _ => true) held fuel T cs = some x) :
    ∃ (a : Option Addr) (n c : Nat) (V : Nat → List Value), cs = [.slice a n c] ∧ (a = none → n = 0 ∧ c = 0) ∧ n ≤ c ∧ c ≤ maxLen ∧
      (∀ i, i < n → (V i).length = sz ∧ ∃ m y, DataW.trod enc P w 0 (fun _ => true) held m E (V i) = some y) ∧
      Cells w.heap.size w a (n * sz) (fun j => (V (j / sz)).getD (j % sz) undef) := by
  rcases Deep.open_slice hT h with ⟨rfl, _⟩ | ⟨ad, len, cap, m, k, D, Pl, rfl, _, hl, hm, hmm, _, hx⟩
  · exact ⟨none, 0, 0, fun _ => [], rfl, fun _ => ⟨rfl, rfl⟩, Nat.le_refl _, Nat.zero_le _, fun i hi => by omega, .inl (by omega)⟩
  · simp only [if_true] at hmm
    subst hmm
    rw [hc] at hx
    obtain ⟨V, hV⟩ := Deep.choose_lt (α := List Value) (p := fun i cs' => w.cells? 0 (ad.add (i * sz)) sz = some cs' ∧ DataW.trod enc P w 0 (fun _ => true) held k E cs' = some (D i, Pl i)) hx
    refine ⟨some ad, len, m, V, rfl, (fun e => by cases e), hl, hm, fun i hi => ?_, ?_⟩
    · obtain ⟨h1, h2⟩ := hV i (by omega)
      exact ⟨(cells?_get h1).1, k, _, h2⟩
    · by_cases hn : len = 0
      · exact .inl (by rw [hn]; omega)
      · right
        have h0 := (cells?_get (hV 0 (by omega)).1).2 0 hsz
        have hsp : ad.spot = none := by
          have e : (ad.add (0 * sz)).add 0 = ad := by simp [Addr.add]
          rw [e] at h0
          exact (lt_of_cell h0).2
        have hbl : ad.block < w.heap.size := by
          have e : (ad.add (0 * sz)).add 0 = ad := by simp [Addr.add]
          rw [e] at h0
          exact (lt_of_cell h0).1
        have had : ad = ⟨ad.block, ad.off, none⟩ := by rw [← hsp]
        refine ⟨ad.block, ad.off, by rw [← had], hbl, fun j hj => ?_⟩
        have hq : j / sz < len := Nat.div_lt_of_lt_mul (by rw [Nat.mul_comm]; exact hj)
        have h1 := (cells?_get (hV (j / sz) (by omega)).1).2 (j % sz) (Nat.mod_lt _ hsz)
        have e : (ad.add (j / sz * sz)).add (j % sz) = ⟨ad.block, ad.off + j, none⟩ := by
          rw [Deep.add_add]
          have : j / sz * sz + j % sz = j := by rw [Nat.mul_comm]; exact Nat.div_add_mod j sz
          rw [this]
          unfold Addr.add
          split
          · rename_i h0'; rw [h0', Nat.add_zero]; exact had
          · rfl
        rw [e] at h1
        exact h1

/-- What is known of a slice of bools that reads. -/
theorem open_bools {T E : TypeId} {fuel : Nat} {cs : List Value} {x : DataW H × List MemPlace} (hT : P.underlying T = some (.slice E)) (hE : P.underlying E = some .bool) (hc : P.cellsOf E = 1)
    (h : DataW.trod enc P w 0 (fun _ => true) held fuel T cs = some x) :
    ∃ (a : Option Addr) (c : Nat) (l : List Bool), cs = [.slice a l.length c] ∧ (a = none → l.length = 0 ∧ c = 0) ∧ l.length ≤ c ∧ c ≤ maxLen ∧ Cells w.heap.size w a l.length (fun i => .bool (l.getD i false)) := by
  obtain ⟨a, n, c, V, rfl, ha, hn, hcm, hV, hcells⟩ := open_row hT hc (by omega) h
  have hb : ∀ i, i < n → ∃ b : Bool, V i = [.bool b] := by
    intro i hi
    obtain ⟨hlen, m, y, hy⟩ := hV i hi
    match m, hy with
    | m + 1, hy =>
      match hv : V i, hlen with
      | [v], _ =>
        rw [hv] at hy
        cases v <;> simp [DataW.trod, hE] at hy
        exact ⟨_, rfl⟩
  obtain ⟨f, hf⟩ := Deep.choose_lt (α := Bool) hb
  refine ⟨a, c, (List.range n).map f, by simp, by simpa using ha, by simpa using hn, hcm, ?_⟩
  have hlen : ((List.range n).map f).length = n := by simp
  rw [hlen]
  rw [Nat.mul_one] at hcells
  rcases hcells with h0 | ⟨b, off, e, hB, hcell⟩
  · exact .inl h0
  · refine .inr ⟨b, off, e, hB, fun j hj => (hcell j hj).trans ?_⟩
    simp [Nat.mod_one, hf j hj, List.getD_eq_getElem?_getD, hj]

/-- A number that fits its 64 bits. -/
def I64 (x : Int) : Prop := -9223372036854775808 ≤ x ∧ x ≤ 9223372036854775807

theorem i64_of_wf {x : Int} (h : (Lit.int .i64 x).wf = true) : I64 x := by
  have hmin : IntKind.i64.min = -9223372036854775808 := rfl
  have hmax : IntKind.i64.max = 9223372036854775807 := rfl
  simp only [Lit.wf, Bool.and_eq_true, decide_eq_true_eq] at h
  unfold I64
  omega

/-- One cell of an integer type. -/
theorem cell_int {E : TypeId} {m : Nat} {v : Value} {y : DataW H × List MemPlace} (hE : P.underlying E = some (.int .i64)) (h : DataW.trod enc P w 0 (fun _ => true) held m E [v] = some y) : ∃ z, v = .int .i64 z ∧ I64 z := by
  match m, h with
  | m + 1, hy =>
    cases v <;> simp [DataW.trod, hE] at hy
    obtain ⟨⟨rfl, hw⟩, _⟩ := hy
    exact ⟨_, rfl, i64_of_wf hw⟩

theorem cell_bool {E : TypeId} {m : Nat} {v : Value} {y : DataW H × List MemPlace} (hE : P.underlying E = some .bool) (h : DataW.trod enc P w 0 (fun _ => true) held m E [v] = some y) : ∃ b, v = .bool b := by
  match m, h with
  | m + 1, hy =>
    cases v <;> simp [DataW.trod, hE] at hy
    exact ⟨_, rfl⟩

/-- What is known of a slice of ints that reads. -/
theorem open_introw {T E : TypeId} {fuel : Nat} {cs : List Value} {x : DataW H × List MemPlace} (hT : P.underlying T = some (.slice E)) (hE : P.underlying E = some (.int .i64)) (hc : P.cellsOf E = 1)
    (h : DataW.trod enc P w 0 (fun _ => true) held fuel T cs = some x) :
    ∃ (a : Option Addr) (c : Nat) (l : List Int), cs = [.slice a l.length c] ∧ (a = none → l.length = 0 ∧ c = 0) ∧ l.length ≤ c ∧ c ≤ maxLen ∧ (∀ z ∈ l, I64 z) ∧ Cells w.heap.size w a l.length (fun i => .int .i64 (l.getD i 0)) := by
  obtain ⟨a, n, c, V, rfl, ha, hn, hcm, hV, hcells⟩ := open_row hT hc (by omega) h
  have hb : ∀ i, i < n → ∃ z : Int, V i = [.int .i64 z] ∧ I64 z := by
    intro i hi
    obtain ⟨hlen, m, y, hy⟩ := hV i hi
    match hv : V i, hlen with
    | [v], _ =>
      rw [hv] at hy
      obtain ⟨z, rfl, hz⟩ := cell_int hE hy
      exact ⟨z, rfl, hz⟩
  obtain ⟨f, hf⟩ := Deep.choose_lt (α := Int) hb
  refine ⟨a, c, (List.range n).map f, by simp, by simpa using ha, by simpa using hn, hcm, ?_, ?_⟩
  · intro z hz
    obtain ⟨i, hi, rfl⟩ := List.mem_map.1 hz
    exact (hf i (by simpa using hi)).2
  · have hlen : ((List.range n).map f).length = n := by simp
    rw [hlen]
    rw [Nat.mul_one] at hcells
    rcases hcells with h0 | ⟨b, off, e, hB, hcell⟩
    · exact .inl h0
    · refine .inr ⟨b, off, e, hB, fun j hj => (hcell j hj).trans ?_⟩
      simp [Nat.mod_one, (hf j hj).1, List.getD_eq_getElem?_getD, hj]
end
end Go.Proofs.YtlaeflpddehipabDoor
end
