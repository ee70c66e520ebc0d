/- The document's package on bits and bytes: Width, Cut, Bits, Of, Turn, walked; the law's sameBits. -/
import Derived.Test.YtlaeflpddehipaaReckPlain
import Derived.Test.YtlaeflpddehipaaEqual
import Derived.IntWalk
set_option linter.unusedVariables false
namespace Go.Proofs.Ytlaeflpddehipaa
open Go.RowKit

set_option maxHeartbeats 400000 in
theorem rwidth_any (k : Int) (w : World) :
    Calls Try.prog 42 #[.int .i64 k] w fun e w' => e = .returned (.int .i64 (vwidth k)) ∧ w = w' := by
  go_enter Try.func42, Try.ntmps42
  go_wp2
  all_goals go_ret
  all_goals exact ⟨ret_int (by simp_all [vwidth]), rfl⟩

theorem two_pow_small (j : Nat) (h : j ≤ 8) : 1 ≤ (2 : Nat) ^ j ∧ (2 : Nat) ^ j ≤ 256 := by
  refine ⟨Nat.one_le_two_pow, ?_⟩
  exact Nat.le_trans (Nat.pow_le_pow_right (by omega) h) (by decide)

/-- The loop 'for range Width(kind) { m *= 2 }' and what is behind it, at a type's width. -/
def pw (j : Nat) : Int := ((2 ^ j : Nat) : Int)
theorem pw_bd (j : Nat) (h : j ≤ 8) : 1 ≤ pw j ∧ pw j ≤ 256 := by
  have := two_pow_small j h
  unfold pw
  omega
theorem pw_succ (j : Nat) : pw j * 2 = pw (j + 1) := by unfold pw; rw [Nat.pow_succ]; omega
theorem pw_eq (j : Nat) : pw j = (2 : Int) ^ j := by unfold pw; simp
theorem cut_pw (k n : Int) (m : Nat) (hm : (vwidth k).toNat = m) : (if n.tmod (pw m) < 0 then n.tmod (pw m) + pw m else n.tmod (pw m)) = vcut k n := by
  subst hm
  rw [pw_eq]
  exact cut_ref k n

set_option maxHeartbeats 800000 in
theorem rcut_any (k n : Int) (w : World) :
    Calls Try.prog 43 #[.int .i64 k, .int .i64 n] w fun e w' => e = .returned (.int .i64 (vcut k n)) ∧ w = w' := by
  have hw := vwidth_le k
  obtain ⟨m, hm⟩ : ∃ m : Nat, vwidth k = m := ⟨(vwidth k).toNat, by omega⟩
  have hC := hid (cut_pw k n m (by rw [hm]; rfl))
  rw [hm] at hw
  have HM := hid hm
  clear hm
  go_enter Try.func43, Try.ntmps43
  go_wp2_with (go_at_call 42; refine (rwidth_any _ _).mono ?_; rintro e w' ⟨rfl, rfl⟩; rw [HM.out])
  go_loop [5, 8] (fun s5 s8 => ∃ j : Nat, j ≤ m ∧ s8 = .int .i64 j ∧ s5 = .int .i64 (pw j)) (fun _ s8 => m - (intOf s8).toNat)
  case atStart => exact ⟨0, Nat.zero_le _, rfl, rfl⟩
  case round =>
    obtain ⟨j, hj, rfl, rfl⟩ := hrel
    have hb := pw_bd j (by omega)
    obtain ⟨hb0, hb1⟩ := hb
    by_cases hlt : j < m
    · have hs := hid (pw_succ j)
      go_wp2
      go_round
      case rel => exact ⟨j + 1, by omega, by go_num, val_int hs.out⟩
      case measure => simp [intOf]; omega
    · obtain rfl : j = m := by omega
      generalize pw j = p at *
      have hne : ¬ p = 0 := by omega
      have hp0 : (0 : Int) < p := by omega
      by_cases hneg : n.tmod p < 0
      · have e := hC.out
        rw [if_pos hneg] at e
        have E := hid e
        have hlo : -256 ≤ n.tmod p := by have := Int.lt_tmod_of_pos n hp0; omega
        clear e hC
        go_wp2
        go_ret
        exact ⟨ret_int E.out, rfl⟩
      · have e := hC.out
        rw [if_neg hneg] at e
        have E := hid e
        clear e hC
        go_wp2
        go_ret
        exact ⟨ret_int E.out, rfl⟩

set_option maxHeartbeats 800000 in
theorem rturn_any (k n : Int) (w : World) :
    Calls Try.prog 49 #[.int .i64 k, .int .i64 n] w fun e w' => e = .returned (.int .i64 (vnot k n)) ∧ w = w' := by
  have hw := vwidth_le k
  obtain ⟨m, hm⟩ : ∃ m : Nat, vwidth k = m := ⟨(vwidth k).toNat, by omega⟩
  have hC : Hid (pw m - 1 - vcut k n = vnot k n) := by
    have h := turn_ref k n
    rw [hm] at h
    unfold Hid
    rw [pw_eq]
    exact h
  have hbc := vcut_bd k n
  rw [hm] at hw
  have HM := hid hm
  clear hm
  go_enter Try.func49, Try.ntmps49
  go_wp2_with (go_at_call 42; refine (rwidth_any _ _).mono ?_; rintro e w' ⟨rfl, rfl⟩; rw [HM.out])
  go_loop [5, 8] (fun s5 s8 => ∃ j : Nat, j ≤ m ∧ s8 = .int .i64 j ∧ s5 = .int .i64 (pw j)) (fun _ s8 => m - (intOf s8).toNat)
  case atStart => exact ⟨0, Nat.zero_le _, rfl, rfl⟩
  case round =>
    obtain ⟨j, hj, rfl, rfl⟩ := hrel
    have hb := pw_bd j (by omega)
    obtain ⟨hb0, hb1⟩ := hb
    by_cases hlt : j < m
    · have hs := hid (pw_succ j)
      go_wp2
      go_round
      case rel => exact ⟨j + 1, by omega, by go_num, val_int hs.out⟩
      case measure => simp [intOf]; omega
    · obtain rfl : j = m := by omega
      generalize pw j = p at *
      go_wp2_with (go_at_call 43; refine (rcut_any _ _ _).mono ?_; rintro e w' ⟨rfl, rfl⟩)
      go_ret
      exact ⟨ret_int hC.out, rfl⟩

theorem vbits_len (k n : Int) : (vbits k n).length = (vwidth k).toNat := by unfold vbits; simp
theorem bits_step (n : Int) (j : Nat) (h0 : 0 ≤ n) : ((n / 2 ^ j).tmod 2 == 1) = vbit n j := by
  have h1 : 0 ≤ n / 2 ^ j := Int.ediv_nonneg h0 (Int.le_of_lt (Int.pow_pos (by omega)))
  rw [Int.tmod_eq_emod_of_nonneg h1]
  rfl

set_option maxHeartbeats 800000 in
theorem rbits_any (k n : Int) (w : World) :
    Calls Try.prog 45 #[.int .i64 k, .int .i64 n] w (Gives 4 1 w (vbits k n).length ((vbits k n).map .bool)) := by
  obtain ⟨i0, hi, hz0, hz1, hz2⟩ := info_parts Try.infoBool
  have hw := vwidth_le k
  have hcb := vcut_bd k n
  obtain ⟨m, hm⟩ : ∃ m : Nat, vwidth k = m := ⟨(vwidth k).toNat, by omega⟩
  have hB : Hid (vbits k n = (List.range m).map (vbit (vcut k n))) := by
    unfold vbits
    rw [hm]
    refine List.map_congr_left fun i hi => (vbit_cut k n i ?_).symm
    rw [hm]
    simpa using hi
  obtain ⟨c, hc⟩ : ∃ c, vcut k n = c := ⟨_, rfl⟩
  rw [hc] at hcb hB
  rw [hm] at hw
  have HM := hid hm
  have HC := hid hc
  obtain ⟨hcb0, hcb1⟩ := hcb
  clear hm hc
  go_enter Try.func45, Try.ntmps45
  go_wp2_with (first
    | (go_at_call 43; refine (rcut_any _ _ _).mono ?_; rintro e w' ⟨rfl, rfl⟩; rw [HC.out])
    | (go_at_call 42; refine (rwidth_any _ _).mono ?_; rintro e w' ⟨rfl, rfl⟩; rw [HM.out]))
  go_loopw [5, 1, 11] (fun v s1 i wr => ∃ j : Nat, j ≤ m ∧ i = .int .i64 j ∧ s1 = .int .i64 (c / 2 ^ j) ∧ wr.ownsRow w.heap.size 4 1 v j (((List.range j).map (vbit c)).map .bool) ∧ Below w.heap.size w wr) (fun _ _ i _ => m - (intOf i).toNat)
  case atStart => exact ⟨0, Nat.zero_le _, rfl, by simp, World.ownsRow_nil _ _ _ _, Below.refl _ _⟩
  case round =>
    obtain ⟨j, hj, rfl, rfl, hown, hbel⟩ := hrel
    by_cases hlt : j < m
    · have h2 : (0 : Int) ≤ (j : Int) := by omega
      have hsz := hbel.size
      have hc0 : 0 ≤ c / 2 ^ j := Int.ediv_nonneg hcb0 (Int.le_of_lt (Int.pow_pos (by omega)))
      have hc1 : c / 2 ^ j ≤ 255 := Int.le_trans (Int.ediv_le_self _ hcb0) hcb1
      have HS := hid (half_step c j)
      have HB : Hid ((c / 2 ^ j % 2 == 1) = vbit c j) := rfl
      generalize c / 2 ^ j = cj at *
      go_wp2_with (at_builtin; refine wpList_push _ w wr rfl _ _ 41 rfl 4 i0 (.bool false) 1 1 Try.underlying41 hi hz0 hz1 hz2 rfl (by decide) w.heap.size _ _ _ rfl hown 1 1 _ rfl rfl rfl rfl ?c3 ?c4 hbel (Nat.le_refl _) hsz ?_)
      case c3 => unfold maxLen; omega
      case c4 => omega
      intro v' w1 hown' hbel' _ _
      clear hown hbel
      go_wp2
      go_roundw
      case rel =>
        refine ⟨j + 1, by omega, by go_num, val_int HS.out, ?_, hbel'⟩
        rw [List.range_succ, List.map_append, List.map_append]
        simpa [← HB.out] using hown'
      case measure => simp [intOf]; omega
    · obtain rfl : j = m := by omega
      go_wp2
      go_ret
      exact ⟨_, rfl, by rw [hB.out]; simpa using hown, hbel⟩

/-- 2 to the j, or (from the 62nd on) whatever. -/
theorem rof_step (l : List Bool) (k : Nat) (h : k < 62) : vofTo l (k + 1) = vofTo l k + if l.getD k false = true then 2 ^ k else 0 := by
  simp [vofTo, h]
theorem vofTo_past (l : List Bool) (k : Nat) (h : 62 ≤ k) : vofTo l k = vofTo l 62 := by
  obtain ⟨d, rfl⟩ : ∃ d, k = 62 + d := ⟨k - 62, by omega⟩
  induction d with
  | zero => rfl
  | succ d ih =>
    show vofTo l (62 + d) + (if l.getD (62 + d) false = true ∧ 62 + d < 62 then 2 ^ (62 + d) else 0) = _
    rw [if_neg (by omega), Nat.add_zero, ih (by omega)]
def p2 (k : Nat) : Nat := 2 ^ k
theorem p2_succ (k : Nat) : p2 k * 2 = p2 (k + 1) := by unfold p2; rw [Nat.pow_succ]
theorem p2_le (k : Nat) (h : k ≤ 62) : p2 k ≤ 4611686018427387904 := Nat.pow_le_pow_right (by omega) h

set_option maxHeartbeats 800000 in
theorem rof_any (B : Nat) (a : Option Addr) (n c : Nat) (l : List Bool) (w : World) (hn : n = l.length) (hm : n ≤ maxLen) (hc : Cells B w a n (fun i => .bool (l.getD i false))) :
    Calls Try.prog 46 #[.slice a n c] w fun e w' => e = .returned (.int .i64 (vof l)) ∧ w = w' := by
  unfold maxLen at hm
  have HN := hid hn
  clear hn
  obtain ⟨m, hmm⟩ : ∃ m, min n 62 = m := ⟨_, rfl⟩
  have hm1 : m ≤ n := by omega
  have hm2 : m ≤ 62 := by omega
  have hfin : Hid (m = n ∨ m = 62) := by unfold Hid; omega
  have HV : Hid (vof l = (vofTo l m : Nat)) := by
    unfold Hid vof
    rw [← HN.out]
    rcases hfin.out with h | h
    · rw [h]
    · rw [vofTo_past l n (by omega), h]
  clear hmm
  go_enter Try.func46, Try.ntmps46
  go_wp2
  go_loop [3, 4, 5] (fun s3 s4 s5 => ∃ k : Nat, k ≤ m ∧ s5 = .int .i64 k ∧ s3 = .int .i64 (vofTo l k : Nat) ∧ s4 = .int .i64 (p2 k : Nat)) (fun _ _ s5 => m - (intOf s5).toNat)
  case atStart => exact ⟨0, Nat.zero_le _, rfl, rfl, rfl⟩
  case round =>
    obtain ⟨k, hk, rfl, rfl, rfl⟩ := hrel
    by_cases hlt : k < m
    · have hkn : (k : Int) < (n : Int) := by omega
      have hk62 : (k : Int) < 62 := by omega
      have hk0 : (0 : Int) ≤ (k : Int) := by omega
      obtain ⟨b, off, rfl, hB, hcell⟩ := hc.at (by omega)
      have hck := hcell k (by omega)
      have hst := rof_step l k (by omega)
      have hp : p2 k ≤ 2305843009213693952 := Nat.pow_le_pow_right (by omega) (by omega : k ≤ 61)
      have hv : vofTo l k < p2 k := by
        have := vofTo_lt l k
        rw [show min k 62 = k by omega] at this
        exact this
      have HP := hid (p2_succ k)
      have e2 : (2 : Nat) ^ k = p2 k := rfl
      rw [e2] at hst
      have HST := hid hst
      generalize vofTo l k = vk at *
      generalize p2 k = pk at *
      clear hcell hst e2
      cases hb : l.getD k false
      · have hs2 := HST.out
        rw [hb] at hs2
        rw [hb] at hck
        have HS2 := hid hs2
        clear hb hs2
        go_wp2
        go_round
        case rel => exact ⟨k + 1, by omega, by go_num, val_int (by rw [HS2.out]; simp), val_int (by rw [← HP.out]; simp)⟩
        case measure => simp [intOf]; omega
      · have hs2 := HST.out
        rw [hb] at hs2
        rw [hb] at hck
        have HS2 := hid hs2
        clear hb hs2
        go_wp2
        go_round
        case rel => exact ⟨k + 1, by omega, by go_num, val_int (by rw [HS2.out]; simp), val_int (by rw [← HP.out]; simp)⟩
        case measure => simp [intOf]; omega
    · obtain rfl : k = m := by omega
      generalize p2 k = pk at *
      rcases hfin.out with h | h
      · subst h
        go_wp2
        go_ret
        exact ⟨ret_int HV.out.symm, rfl⟩
      · have HK := hid h
        have hk62 : ¬ (k : Int) < 62 := by omega
        by_cases hkn : (k : Int) < (n : Int)
        · clear h
          go_wp2
          go_ret
          exact ⟨ret_int HV.out.symm, rfl⟩
        · clear h
          go_wp2
          go_ret
          exact ⟨ret_int HV.out.symm, rfl⟩

set_option maxHeartbeats 800000 in
theorem sameBits_any (B : Nat) (a a' : Option Addr) (n c n' c' : Nat) (l m : List Bool) (w : World) (hn : n = l.length) (hn' : n' = m.length) (hm : n ≤ maxLen) (hx : Cells B w a n (fun i => .bool (l.getD i false))) (hy : Cells B w a' n' (fun i => .bool (m.getD i false))) :
    Calls Try.prog 44 #[.slice a n c, .slice a' n' c'] w (Says (decide (l = m)) w) := by
  unfold maxLen at hm
  have HN := hid hn
  have HN' := hid hn'
  have HX := hid hx
  have HY := hid hy
  clear hn hn' hx hy
  by_cases hne : n = n'
  · subst hne
    go_enter Try.func44, Try.ntmps44
    go_wp2
    go_loopw [5] (fun i wr => ∃ k q : Nat, k ≤ n ∧ i = .int .i64 k ∧ wr = w.drewN q ∧ l.take k = m.take k) (fun i _ => n - (intOf i).toNat)
    case atStart => exact ⟨0, 0, Nat.zero_le _, rfl, rfl, rfl⟩
    case round =>
      obtain ⟨k, q, hk, rfl, hwr, hpre⟩ := hrel
      have HW := hid hwr
      have HPRE := hid hpre
      clear hpre hwr
      by_cases hlt : k < n
      · obtain ⟨b, off, rfl, hB, hcell⟩ := HX.out.at (by omega)
        obtain ⟨b', off', rfl, hB', hcell'⟩ := HY.out.at (by omega)
        have h1 : wr.cell? ⟨b, off + k, none⟩ = some (.bool (l.getD k false)) := by rw [HW.out]; exact hcell k hlt
        have h2 : wr.cell? ⟨b', off' + k, none⟩ = some (.bool (m.getD k false)) := by rw [HW.out]; exact hcell' k hlt
        obtain ⟨x, hxx⟩ : ∃ x, l.getD k false = x := ⟨_, rfl⟩
        obtain ⟨y, hyy⟩ : ∃ y, m.getD k false = y := ⟨_, rfl⟩
        rw [hxx] at h1
        rw [hyy] at h2
        have HXX := hid hxx
        have HYY := hid hyy
        have hkI : (k : Int) < n := by omega
        have hk0 : (0 : Int) ≤ k := by omega
        clear hcell hcell' hxx hyy HX HY
        by_cases hxy : x = y
        · have hxy' : (x == y) = true := by simp [hxy]
          have HS := hid (prefix_step l m false k (by rw [← HN.out]; exact hlt) (by rw [← HN'.out]; exact hlt) HPRE.out (by rw [HXX.out, HYY.out, hxy]))
          have HXY := hid hxy
          clear hxy
          go_wp2
          go_quiet (fail)
          go_wp2
          go_roundw
          case rel => exact ⟨k + 1, _, by omega, by go_num, by rw [HW.out]; exact drewN_add _ _ _, HS.out⟩
          case measure => simp [intOf]; omega
        · have hxy' : (x == y) = false := by simp [hxy]
          have HS := hid (prefix_ne l m false k (by rw [HXX.out, HYY.out]; exact hxy))
          clear hxy
          go_wp2
          go_quiet (fail)
          go_wp2
          go_ret
          exact ⟨ret_bool (decide_eq_false HS.out).symm, _, by rw [HW.out]; exact drewN_add _ _ _⟩
      · obtain rfl : k = n := by omega
        go_wp2
        go_ret
        refine ⟨ret_bool ?_, _, HW.out⟩
        have h := HPRE.out
        rw [List.take_of_length_le (by rw [← HN.out]; exact Nat.le_refl _), List.take_of_length_le (by rw [← HN'.out]; exact Nat.le_refl _)] at h
        exact (decide_eq_true h).symm
  · have hlm : ¬ l = m := by intro h; subst h; exact hne (HN.out.trans HN'.out.symm)
    have HLM := hid hlm
    have hne' : ((n : Int) != n') = true := by rw [bne_iff_ne]; omega
    clear hlm
    go_enter Try.func44, Try.ntmps44
    go_wp2
    go_ret
    exact ⟨ret_bool (decide_eq_false HLM.out).symm, 0, rfl⟩
end Go.Proofs.Ytlaeflpddehipaa
