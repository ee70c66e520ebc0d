/- Names: tree.Name and what it calls. -/
import Derived.Test.YtlaeflpddehipabGreatDoorLdMem
import Derived.Test.YtlaeflpddehipabGreatDoorLdLib
import Derived.Laws.RangeString
import Derived.Laws.RangeAny
import Derived.Deep.QuietTactic
import Derived.BigQuiet
set_option linter.unusedVariables false
set_option linter.unusedSimpArgs false
namespace Go.Proofs.YtlaeflpddehipabGreatDoor
open Go.RowKit
attribute [local go_sem ↓] Go.wp_at_zero Go.wp_at_succ

theorem letter_any (c : UInt8) (w : World) : Calls Tryz.prog 85 #[.int .u8 (c.toNat : Int)] w fun e w' => e = .returned (.bool (isLow c)) ∧ w' = w := by
  go_enter Tryz.func85, Tryz.ntmps85
  go_wp2
  all_goals go_ret
  all_goals exact ⟨ret_bool (by rw [Bool.eq_iff_iff]; simp [isLow]; omega), rfl⟩
theorem digit_any (c : UInt8) (w : World) : Calls Tryz.prog 88 #[.int .u8 (c.toNat : Int)] w fun e w' => e = .returned (.bool (isDig c)) ∧ w' = w := by
  go_enter Tryz.func88, Tryz.ntmps88
  go_wp2
  all_goals go_ret
  all_goals exact ⟨ret_bool (by rw [Bool.eq_iff_iff]; simp [isDig]; omega), rfl⟩
theorem nmch_any (c : UInt8) (w : World) : Calls Tryz.prog 87 #[.int .u8 (c.toNat : Int)] w fun e w' => e = .returned (.bool (isNm c)) ∧ w' = w := by
  cases hl : isLow c
  · have HL := hid hl
    go_enter Tryz.func87, Tryz.ntmps87
    go_wp2_with (first
      | (go_at_call 85; (with_reducible refine (letter_any c w).mono ?_); rintro e w1 ⟨rfl, hw⟩; subst w1; rw [HL.out])
      | (go_at_call 88; (with_reducible refine (digit_any c w).mono ?_); rintro e w1 ⟨rfl, hw⟩; subst w1))
    go_ret
    exact ⟨ret_bool (by simp [isNm, HL.out]), rfl⟩
  · have HL := hid hl
    go_enter Tryz.func87, Tryz.ntmps87
    go_wp2_with (go_at_call 85; (with_reducible refine (letter_any c w).mono ?_); rintro e w1 ⟨rfl, hw⟩; subst w1; rw [HL.out])
    go_ret
    exact ⟨ret_bool (by simp [isNm, HL.out]), rfl⟩
theorem enters_nmch : ∀ args w, (callFunc 87 args).run Tryz.prog w = .ok (.enter 87 args) w := enters_of Tryz.func87 (by kernel_rfl) rfl
/-- How many of the first bytes a name may hold. -/
def nmLen (s : Bs) : Nat := (s.takeWhile isNm).length
theorem nmLen_le (s : Bs) : nmLen s ≤ s.length := (List.takeWhile_sublist _).length_le
theorem nmLen_all : ∀ s : Bs, decide (nmLen s = s.length) = s.all isNm
  | [] => rfl
  | c :: t => by
    have ih := nmLen_all t
    cases h : isNm c
    · simp [nmLen, List.takeWhile_cons, h]
    · have e : nmLen (c :: t) = nmLen t + 1 := by simp [nmLen, List.takeWhile_cons, h]
      rw [e]
      simp [h, ← ih]
theorem nmLen_at : ∀ (s : Bs) (k : Nat), k ≤ nmLen s → k < s.length → isNm (s.getD k 0) = decide (k < nmLen s)
  | [], k, _, h => by simp at h
  | c :: t, 0, _, _ => by
    cases h : isNm c <;> simp [nmLen, List.takeWhile_cons, h]
  | c :: t, k + 1, h1, h2 => by
    cases h : isNm c
    · simp [nmLen, List.takeWhile_cons, h] at h1
    · have e : nmLen (c :: t) = nmLen t + 1 := by simp [nmLen, List.takeWhile_cons, h]
      rw [e] at h1 ⊢
      have := nmLen_at t k (by omega) (by simpa using h2)
      simpa using this
theorem st_byte (s : Bs) (k : Nat) (h : k < s.length) : (⟨s.toArray⟩ : ByteArray)[k]'(by simpa [ByteArray.size] using h) = s.getD k 0 := by
  have : s[k]? = some (s[k]'h) := List.getElem?_eq_getElem h
  simp [List.getD_eq_getElem?_getD, this]
  rfl
set_option maxHeartbeats 800000 in
theorem run_any (s : Bs) (hs : s.length ≤ 1000000) (w : World) :
    Calls Tryz.prog 86 #[st s, .func (.func 87) #[] #[]] w fun e w' => e = .returned (.int .i64 (nmLen s : Nat)) ∧ w' = w := by
  have hsz : (⟨s.toArray⟩ : ByteArray).size = s.length := by simp [ByteArray.size]
  have en := enters_nmch
  go_enter Tryz.func86, Tryz.ntmps86
  go_wp2
  go_loopw [5] (fun v wr => wr = w ∧ ∃ k : Nat, v = .int .i64 k ∧ k ≤ nmLen s) (fun v _ => s.length - (intOf v).toNat)
  case atStart => exact ⟨rfl, 0, rfl, Nat.zero_le _⟩
  case round =>
    obtain ⟨hwr, k, rfl, hk⟩ := hrel
    subst wr
    have hle := nmLen_le s
    by_cases h1 : k < s.length
    · have h2 := nmLen_at s k hk h1
      rw [← st_byte s k h1] at h2
      have hkI : (k : Int) < ((⟨s.toArray⟩ : ByteArray).size : Int) := by rw [hsz]; omega
      have hk0 : (0 : Int) ≤ (k : Int) := by omega
      by_cases hlt : k < nmLen s
      · rw [decide_eq_true hlt] at h2
        have H2 := hid h2
        clear h2
        go_wp2_with (go_at_call 87; (with_reducible refine (nmch_any _ w).mono ?_); rintro e w1 ⟨rfl, hw⟩; subst w1; rw [H2.out])
        go_roundw
        case rel => exact ⟨trivial, k + 1, by go_num, by omega⟩
        case measure => simp [intOf]; omega
      · rw [decide_eq_false hlt] at h2
        have H2 := hid h2
        have HK := hid (show nmLen s = k by omega)
        clear h2
        go_wp2_with (go_at_call 87; (with_reducible refine (nmch_any _ w).mono ?_); rintro e w1 ⟨rfl, hw⟩; subst w1; rw [H2.out])
        go_ret
        exact ⟨by rw [HK.out]; rfl, rfl⟩
    · have hkI : ¬ ((k : Int) < ((⟨s.toArray⟩ : ByteArray).size : Int)) := by rw [hsz]; omega
      have HK := hid (show nmLen s = k by omega)
      go_wp2_with fail
      go_ret
      exact ⟨by rw [HK.out]; rfl, rfl⟩
def keptB : List ByteArray := keptW.map fun l => ⟨l.toArray⟩
/-- The words that are no names lie where the program keeps them. -/
def Kept (w : World) : Prop := 1 < w.heap.size ∧ ∀ j, j < 20 → w.cell? ⟨1, 0 + j, none⟩ = some (.string (keptB.getD j ByteArray.empty))
theorem Kept.below {w w' : World} (h : Kept w) (hb : Below w.heap.size w w') : Kept w' := ⟨Nat.lt_of_lt_of_le h.1 hb.size, fun j hj => (hb.cell (p := ⟨1, 0 + j, none⟩) h.1).trans (h.2 j hj)⟩
theorem Kept.gr {w w' : World} {bp : Nat} (h : Kept w) (hg : Gr w bp w') (hb : bp ≠ 1) : Kept w' := ⟨Nat.lt_of_lt_of_le h.1 hg.size, fun j hj => by
  rw [← h.2 j hj]
  unfold World.cell?
  simp only
  rw [hg.block 1 h.1 (by simp; omega)]⟩
theorem keptB_len : keptB.length = 20 := by decide +kernel
theorem kept_is (s : Bs) : Lib.containsS (keptB.take 20) ⟨s.toArray⟩ = keptW.contains s := by
  rw [List.take_of_length_le (by rw [keptB_len]; exact Nat.le_refl _), Bool.eq_iff_iff, Lib.containsS_iff]
  simp only [keptB, List.mem_map, List.contains_iff_mem]
  constructor
  · rintro ⟨l, hl, e⟩
    have : l.toArray = s.toArray := congrArg ByteArray.data e
    have : l = s := by simpa using this
    exact this ▸ hl
  · exact fun h => ⟨s, h, rfl⟩
set_option maxHeartbeats 1600000 in
theorem treeName_any (s : Bs) (hs : s.length ≤ 1000000) (w : World) (hk : Kept w) : Calls Tryz.prog 70 #[st s] w fun e w' => e = .returned (.bool (goodName s)) ∧ w' = w := by
  have hsz : (⟨s.toArray⟩ : ByteArray).size = s.length := by simp [ByteArray.size]
  cases s with
  | nil =>
    go_enter Tryz.func70, Tryz.ntmps70
    go_wp2_with fail
    go_ret
    exact ⟨rfl, rfl⟩
  | cons c t =>
    by_cases h12 : t.length + 1 ≤ 12
    · have d12 : decide ((12 : Int) < (t.length : Int) + 1) = false := decide_eq_false (by omega)
      have hc := Tryz.slices_Contains_string 1 0 20 20 keptB ⟨(c :: t).toArray⟩ w (by rw [keptB_len]; exact Nat.le_refl _) (by omega) (fun j hj => hk.2 j (by rw [keptB_len] at hj; exact hj))
      rw [kept_is] at hc
      have HR := hid (run_any (c :: t) hs w)
      have HN := hid (nmLen_all (c :: t))
      have hg : goodName (c :: t) = (!keptW.contains (c :: t) && isLow c && (c :: t).all isNm) := by
        unfold goodName
        have : decide ((c :: t).length ≤ 12) = true := decide_eq_true h12
        rw [this]
        simp
      have HG := hid hg
      clear hg h12
      cases hkb : keptW.contains (c :: t)
      · rw [hkb] at hc
        have HC := hid hc
        have HKB := hid hkb
        clear hc hkb
        cases hl : isLow c
        · have HL := hid hl
          clear hl
          go_enter Tryz.func70, Tryz.ntmps70
          go_wp2_with (first
            | (go_at_call 84; (with_reducible refine HC.out.mono ?_); rintro e w1 ⟨rfl, hw⟩; subst w1)
            | (go_at_call 85; (refine (letter_any c w).mono ?_); rintro e w1 ⟨rfl, hw⟩; subst w1; rw [HL.out]))
          go_ret
          exact ⟨by rw [HG.out, HL.out, HKB.out]; rfl, rfl⟩
        · have HL := hid hl
          clear hl
          go_enter Tryz.func70, Tryz.ntmps70
          go_wp2_with (first
            | (go_at_call 84; (with_reducible refine HC.out.mono ?_); rintro e w1 ⟨rfl, hw⟩; subst w1)
            | (go_at_call 85; (refine (letter_any c w).mono ?_); rintro e w1 ⟨rfl, hw⟩; subst w1; rw [HL.out])
            | (go_at_call 86; (with_reducible refine HR.out.mono ?_); rintro e w1 ⟨rfl, hw⟩; subst w1))
          go_ret
          refine ⟨ret_bool ?_, rfl⟩
          rw [HG.out, HL.out, HKB.out, ← HN.out, Bool.eq_iff_iff]
          simp
          omega
      · rw [hkb] at hc
        have HC := hid hc
        have HKB := hid hkb
        clear hc hkb
        go_enter Tryz.func70, Tryz.ntmps70
        go_wp2_with (go_at_call 84; (with_reducible refine HC.out.mono ?_); rintro e w1 ⟨rfl, hw⟩; subst w1)
        go_ret
        exact ⟨by rw [HG.out, HKB.out]; rfl, rfl⟩
    · have d12 : (12 : Int) < (t.length : Int) + 1 := by omega
      have hg : goodName (c :: t) = false := by
        unfold goodName
        have : decide ((c :: t).length ≤ 12) = false := decide_eq_false h12
        rw [this]
        simp
      have HG := hid hg
      clear hg h12
      go_enter Tryz.func70, Tryz.ntmps70
      go_wp2_with fail
      go_ret
      exact ⟨by rw [HG.out]; rfl, rfl⟩
end Go.Proofs.YtlaeflpddehipabGreatDoor
