/- The document's package on bits and bytes: Result, walked. -/
import Derived.Test.YtlaeflpddehipaaRefVal
import Derived.Test.YtlaeflpddehipaaContains
import Derived.Test.YtlaeflpddehipaaOpen
set_option linter.unusedVariables false
namespace Go.Proofs.Ytlaeflpddehipaa
open Go.RowKit

theorem contains_is (s sub : ByteArray) (m : Int) (w : World) (hs : s.size < 4294967281) (hm : w.cell? ⟨0, 0, none⟩ = some (.int .i64 m)) (r : Bool) (h : Lib.contains s.data.toList sub.data.toList = r) :
    Calls Try.prog 70 #[.string s, .string sub] w fun e w' => e = .returned (.bool r) ∧ w = w' := by
  subst h
  exact (strings_Contains s sub m w hs hm).mono fun e w' h => ⟨h.1, h.2.symm⟩

theorem toList_nil {op : ByteArray} (h : op.data.toList = []) : op = ⟨#[]⟩ := by
  obtain ⟨⟨l⟩⟩ := op
  simp at h
  subst h
  rfl

set_option maxHeartbeats 800000 in
theorem has_any (s op : ByteArray) (b : Nat) (m : Int) (w : World) (hop : op.size ≤ 20) (hs : s.size ≤ 100) (hc : w.cell? ⟨b, 0, none⟩ = some (.string op)) (hm : w.cell? ⟨0, 0, none⟩ = some (.int .i64 m)) :
    Calls Try.prog 69 #[.string s, .pointer (some ⟨b, 0, none⟩)] w fun e w' => e = .returned (.bool (hasB s.data.toList op.data.toList)) ∧ w = w' := by
  by_cases h0 : op.data.toList = []
  · obtain rfl := toList_nil h0
    have hb : hasB s.data.toList (⟨#[]⟩ : ByteArray).data.toList = false := rfl
    rw [hb]
    clear h0 hb
    go_enter Try.func69, Try.ntmps69
    go_wp2_with fail
    go_ret
    exact ⟨rfl, rfl⟩
  · have hne : (op.toList == []) = false := by
      rw [beq_eq_false_iff_ne, ByteArray.toList_eq]
      exact h0
    have hbe : (op.data.toList == []) = false := by
      rw [beq_eq_false_iff_ne]
      exact h0
    have hB : hasB s.data.toList op.data.toList = (!Lib.contains op.data.toList [32] && Lib.contains s.data.toList ([32] ++ op.data.toList ++ [32])) := by
      unfold hasB
      rw [hbe]
      rfl
    rw [hB]
    clear hB hbe h0
    obtain ⟨r1, hr1⟩ : ∃ r, Lib.contains op.data.toList [32] = r := ⟨_, rfl⟩
    obtain ⟨r2, hr2⟩ : ∃ r, Lib.contains s.data.toList ([32] ++ op.data.toList ++ [32]) = r := ⟨_, rfl⟩
    rw [hr1, hr2]
    have e : (⟨#[32]⟩ ++ op ++ ⟨#[32]⟩ : ByteArray).data.toList = [32] ++ op.data.toList ++ [32] := by simp [ByteArray.data_append]
    rw [← e] at hr2
    have HR1 := hid hr1
    have HR2 := hid hr2
    clear hr1 hr2 e
    cases r1
    · go_enter Try.func69, Try.ntmps69
      go_wp2_with (first
        | (go_at_call 70; (with_reducible refine (contains_is _ _ m _ (by omega) hm false HR1.out).mono ?_); rintro e w' ⟨rfl, rfl⟩)
        | (go_at_call 70; (with_reducible refine (contains_is _ _ m _ (by omega) hm r2 HR2.out).mono ?_); rintro e w' ⟨rfl, rfl⟩))
      go_ret
      exact ⟨rfl, rfl⟩
    · go_enter Try.func69, Try.ntmps69
      go_wp2_with (first
        | (go_at_call 70; (with_reducible refine (contains_is _ _ m _ (by omega) hm true HR1.out).mono ?_); rintro e w' ⟨rfl, rfl⟩))
      go_ret
      exact ⟨rfl, rfl⟩

--GEN
set_option maxHeartbeats 1600000 in
theorem has_is (s op : ByteArray) (b : Nat) (m : Int) (w : World) (hop : op.size ≤ 20) (hs : s.size ≤ 100) (hc : w.cell? ⟨b, 0, none⟩ = some (.string op)) (hm : w.cell? ⟨0, 0, none⟩ = some (.int .i64 m)) (r : Bool) (h : hasB s.data.toList op.data.toList = r) :
    Calls Try.prog 69 #[.string s, .pointer (some ⟨b, 0, none⟩)] w fun e w' => e = .returned (.bool r) ∧ w = w' := by
  subst h
  exact has_any s op b m w hop hs hc hm

def wordsS : ByteArray := ⟨wordsL.toArray⟩
def sameS : ByteArray := ⟨sameL.toArray⟩
def bytesS : ByteArray := ⟨bytesL.toArray⟩
/-- What the three lists have of a mark. -/
structure HasIs (op : ByteArray) (r1 r2 r3 : Bool) : Prop where
  h1 : Hid (hasB (⟨#[32, 97, 110, 100, 32, 111, 114, 32, 120, 111, 114, 32]⟩ : ByteArray).data.toList op.data.toList = r1)
  h2 : Hid (hasB (⟨#[32, 61, 32, 60, 62, 32]⟩ : ByteArray).data.toList op.data.toList = r2)
  h3 : Hid (hasB (⟨#[32, 60, 32, 60, 61, 32, 62, 32, 62, 61, 32]⟩ : ByteArray).data.toList op.data.toList = r3)
theorem toList_ne {op : ByteArray} {l : List UInt8} (h : (op.toList == l) = false) : op.data.toList ≠ l := by
  rw [beq_eq_false_iff_ne, ByteArray.toList_eq] at h
  exact h
theorem has_none {op : ByteArray} (h1 : (op.toList == [97, 110, 100]) = false) (h2 : (op.toList == [111, 114]) = false) (h3 : (op.toList == [120, 111, 114]) = false) (h4 : (op.toList == [61]) = false) (h5 : (op.toList == [60, 62]) = false) (h6 : (op.toList == [60]) = false) (h7 : (op.toList == [60, 61]) = false) (h8 : (op.toList == [62]) = false) (h9 : (op.toList == [62, 61]) = false) : HasIs op false false false := by
  refine ⟨?_, ?_, ?_⟩
  · show hasB wordsL op.data.toList = false
    cases h : hasB wordsL op.data.toList with
    | false => rfl
    | true =>
      have := has_in words_ok h
      simp only [List.mem_cons, List.not_mem_nil, or_false] at this
      rcases this with h | h | h
      · exact absurd h (toList_ne h1)
      · exact absurd h (toList_ne h2)
      · exact absurd h (toList_ne h3)
  · show hasB sameL op.data.toList = false
    cases h : hasB sameL op.data.toList with
    | false => rfl
    | true =>
      have := has_in same_ok h
      simp only [List.mem_cons, List.not_mem_nil, or_false] at this
      rcases this with h | h
      · exact absurd h (toList_ne h4)
      · exact absurd h (toList_ne h5)
  · show hasB bytesL op.data.toList = false
    cases h : hasB bytesL op.data.toList with
    | false => rfl
    | true =>
      have := has_in bytes_ok h
      simp only [List.mem_cons, List.not_mem_nil, or_false] at this
      rcases this with h | h | h | h
      · exact absurd h (toList_ne h6)
      · exact absurd h (toList_ne h7)
      · exact absurd h (toList_ne h8)
      · exact absurd h (toList_ne h9)

/-- What the document's Result hands back. -/
def Res (r : Int) (w : World) (e : Ending) (w' : World) : Prop := e = .returned (.int .i64 r) ∧ Below w.heap.size w w'
theorem glob_alloc {w : World} {b : Nat} {v : Value} (hm : w.cell? ⟨b, 0, none⟩ = some v) (o : Obj) : (w.alloc o).cell? ⟨b, 0, none⟩ = some v :=
  (((Below.refl w.heap.size w).alloc (Nat.le_refl _) o).cell (p := ⟨b, 0, none⟩) (lt_of_cell hm).1).trans hm
theorem glob_below {w w' : World} {b : Nat} {v : Value} (hm : w.cell? ⟨b, 0, none⟩ = some v) (hb : Below w.heap.size w w') : w'.cell? ⟨b, 0, none⟩ = some v :=
  (hb.cell (p := ⟨b, 0, none⟩) (lt_of_cell hm).1).trans hm

set_option maxHeartbeats 1600000 in
theorem rres_zero (op : ByteArray) (a b : Int) (h : a ≠ b ∨ vwidth a = 0) (w : World) :
    Calls Try.prog 47 #[.string op, .int .i64 a, .int .i64 b] w (Res 0 w) := by
  by_cases hab : a = b
  · subst hab
    have hz : (vwidth a == 0) = true := by
      rcases h with h | h
      · exact absurd rfl h
      · simp [h]
    clear h
    go_enter Try.func47, Try.ntmps47
    go_wp2_with (go_at_call 42; refine (rwidth_any _ _).mono ?_; rintro e w' ⟨rfl, rfl⟩)
    go_ret
    exact ⟨rfl, (Below.refl _ _).alloc (Nat.le_refl _) _⟩
  · have hab' : (a == b) = false := beq_eq_false_iff_ne.2 hab
    clear h hab
    go_enter Try.func47, Try.ntmps47
    go_wp2_with (go_at_call 42; refine (rwidth_any _ _).mono ?_; rintro e w' ⟨rfl, rfl⟩)
    go_ret
    exact ⟨rfl, (Below.refl _ _).alloc (Nat.le_refl _) _⟩

set_option maxHeartbeats 1600000 in
theorem rres_and (a m : Int) (hz : ¬ vwidth a = 0) (w : World) (hm : w.cell? ⟨0, 0, none⟩ = some (.int .i64 m)) :
    Calls Try.prog 47 #[.string ⟨#[97, 110, 100]⟩, .int .i64 a, .int .i64 a] w (Res (resultOf 1 a a) w) := by
  have hop : (⟨#[97, 110, 100]⟩ : ByteArray).size ≤ 20 := by decide
  have HH : HasIs ⟨#[97, 110, 100]⟩ true false false := ⟨by unfold Hid; decide +kernel, by unfold Hid; decide +kernel, by unfold Hid; decide +kernel⟩
  have hz' : (vwidth a == 0) = false := by simp [hz]
  have hw : vwidth a = if a = 1 then 1 else if a = 2 then 8 else 0 := rfl
  have hcase : a = 1 ∨ a = 2 := by
    rw [hw] at hz
    by_cases h1 : a = 1
    · exact .inl h1
    · rw [if_neg h1] at hz
      by_cases h2 : a = 2
      · exact .inr h2
      · rw [if_neg h2] at hz; exact absurd rfl hz
  clear hw
  have hcell : (w.alloc (.cells #[.string ⟨#[97, 110, 100]⟩] 9)).cell? ⟨w.heap.size, 0, none⟩ = some (.string ⟨#[97, 110, 100]⟩) := cell_new w _ _ 0
  have HM := hid (glob_alloc hm (.cells #[.string ⟨#[97, 110, 100]⟩] 9))
  have HW := hid ((Below.refl w.heap.size w).alloc (Nat.le_refl _) (.cells #[.string ⟨#[97, 110, 100]⟩] 9))
  clear hz hm
  rcases hcase with rfl | rfl
  · have E : resultOf 1 1 1 = 1 := by decide
    rw [E]
    clear E
    go_enter Try.func47, Try.ntmps47
    go_wp2_with
      (first
        | (go_at_call 42; refine (rwidth_any _ _).mono ?_; rintro e w' ⟨rfl, rfl⟩)
        | (go_at_call 69; (with_reducible refine (has_is _ _ _ m _ hop (by decide) hcell HM.out _ HH.h1.out).mono ?_); rintro e w' ⟨rfl, rfl⟩)
        | (go_at_call 69; (with_reducible refine (has_is _ _ _ m _ hop (by decide) hcell HM.out _ HH.h2.out).mono ?_); rintro e w' ⟨rfl, rfl⟩)
        | (go_at_call 69; (with_reducible refine (has_is _ _ _ m _ hop (by decide) hcell HM.out _ HH.h3.out).mono ?_); rintro e w' ⟨rfl, rfl⟩))
    go_ret
    exact ⟨rfl, HW.out⟩
  · have E : resultOf 1 2 2 = 2 := by decide
    rw [E]
    clear E
    go_enter Try.func47, Try.ntmps47
    go_wp2_with
      (first
        | (go_at_call 42; refine (rwidth_any _ _).mono ?_; rintro e w' ⟨rfl, rfl⟩)
        | (go_at_call 69; (with_reducible refine (has_is _ _ _ m _ hop (by decide) hcell HM.out _ HH.h1.out).mono ?_); rintro e w' ⟨rfl, rfl⟩)
        | (go_at_call 69; (with_reducible refine (has_is _ _ _ m _ hop (by decide) hcell HM.out _ HH.h2.out).mono ?_); rintro e w' ⟨rfl, rfl⟩)
        | (go_at_call 69; (with_reducible refine (has_is _ _ _ m _ hop (by decide) hcell HM.out _ HH.h3.out).mono ?_); rintro e w' ⟨rfl, rfl⟩))
    go_ret
    exact ⟨rfl, HW.out⟩

set_option maxHeartbeats 1600000 in
theorem rres_or (a m : Int) (hz : ¬ vwidth a = 0) (w : World) (hm : w.cell? ⟨0, 0, none⟩ = some (.int .i64 m)) :
    Calls Try.prog 47 #[.string ⟨#[111, 114]⟩, .int .i64 a, .int .i64 a] w (Res (resultOf 2 a a) w) := by
  have hop : (⟨#[111, 114]⟩ : ByteArray).size ≤ 20 := by decide
  have HH : HasIs ⟨#[111, 114]⟩ true false false := ⟨by unfold Hid; decide +kernel, by unfold Hid; decide +kernel, by unfold Hid; decide +kernel⟩
  have hz' : (vwidth a == 0) = false := by simp [hz]
  have hw : vwidth a = if a = 1 then 1 else if a = 2 then 8 else 0 := rfl
  have hcase : a = 1 ∨ a = 2 := by
    rw [hw] at hz
    by_cases h1 : a = 1
    · exact .inl h1
    · rw [if_neg h1] at hz
      by_cases h2 : a = 2
      · exact .inr h2
      · rw [if_neg h2] at hz; exact absurd rfl hz
  clear hw
  have hcell : (w.alloc (.cells #[.string ⟨#[111, 114]⟩] 9)).cell? ⟨w.heap.size, 0, none⟩ = some (.string ⟨#[111, 114]⟩) := cell_new w _ _ 0
  have HM := hid (glob_alloc hm (.cells #[.string ⟨#[111, 114]⟩] 9))
  have HW := hid ((Below.refl w.heap.size w).alloc (Nat.le_refl _) (.cells #[.string ⟨#[111, 114]⟩] 9))
  clear hz hm
  rcases hcase with rfl | rfl
  · have E : resultOf 2 1 1 = 1 := by decide
    rw [E]
    clear E
    go_enter Try.func47, Try.ntmps47
    go_wp2_with
      (first
        | (go_at_call 42; refine (rwidth_any _ _).mono ?_; rintro e w' ⟨rfl, rfl⟩)
        | (go_at_call 69; (with_reducible refine (has_is _ _ _ m _ hop (by decide) hcell HM.out _ HH.h1.out).mono ?_); rintro e w' ⟨rfl, rfl⟩)
        | (go_at_call 69; (with_reducible refine (has_is _ _ _ m _ hop (by decide) hcell HM.out _ HH.h2.out).mono ?_); rintro e w' ⟨rfl, rfl⟩)
        | (go_at_call 69; (with_reducible refine (has_is _ _ _ m _ hop (by decide) hcell HM.out _ HH.h3.out).mono ?_); rintro e w' ⟨rfl, rfl⟩))
    go_ret
    exact ⟨rfl, HW.out⟩
  · have E : resultOf 2 2 2 = 2 := by decide
    rw [E]
    clear E
    go_enter Try.func47, Try.ntmps47
    go_wp2_with
      (first
        | (go_at_call 42; refine (rwidth_any _ _).mono ?_; rintro e w' ⟨rfl, rfl⟩)
        | (go_at_call 69; (with_reducible refine (has_is _ _ _ m _ hop (by decide) hcell HM.out _ HH.h1.out).mono ?_); rintro e w' ⟨rfl, rfl⟩)
        | (go_at_call 69; (with_reducible refine (has_is _ _ _ m _ hop (by decide) hcell HM.out _ HH.h2.out).mono ?_); rintro e w' ⟨rfl, rfl⟩)
        | (go_at_call 69; (with_reducible refine (has_is _ _ _ m _ hop (by decide) hcell HM.out _ HH.h3.out).mono ?_); rintro e w' ⟨rfl, rfl⟩))
    go_ret
    exact ⟨rfl, HW.out⟩

set_option maxHeartbeats 1600000 in
theorem rres_xor (a m : Int) (hz : ¬ vwidth a = 0) (w : World) (hm : w.cell? ⟨0, 0, none⟩ = some (.int .i64 m)) :
    Calls Try.prog 47 #[.string ⟨#[120, 111, 114]⟩, .int .i64 a, .int .i64 a] w (Res (resultOf 3 a a) w) := by
  have hop : (⟨#[120, 111, 114]⟩ : ByteArray).size ≤ 20 := by decide
  have HH : HasIs ⟨#[120, 111, 114]⟩ true false false := ⟨by unfold Hid; decide +kernel, by unfold Hid; decide +kernel, by unfold Hid; decide +kernel⟩
  have hz' : (vwidth a == 0) = false := by simp [hz]
  have hw : vwidth a = if a = 1 then 1 else if a = 2 then 8 else 0 := rfl
  have hcase : a = 1 ∨ a = 2 := by
    rw [hw] at hz
    by_cases h1 : a = 1
    · exact .inl h1
    · rw [if_neg h1] at hz
      by_cases h2 : a = 2
      · exact .inr h2
      · rw [if_neg h2] at hz; exact absurd rfl hz
  clear hw
  have hcell : (w.alloc (.cells #[.string ⟨#[120, 111, 114]⟩] 9)).cell? ⟨w.heap.size, 0, none⟩ = some (.string ⟨#[120, 111, 114]⟩) := cell_new w _ _ 0
  have HM := hid (glob_alloc hm (.cells #[.string ⟨#[120, 111, 114]⟩] 9))
  have HW := hid ((Below.refl w.heap.size w).alloc (Nat.le_refl _) (.cells #[.string ⟨#[120, 111, 114]⟩] 9))
  clear hz hm
  rcases hcase with rfl | rfl
  · have E : resultOf 3 1 1 = 1 := by decide
    rw [E]
    clear E
    go_enter Try.func47, Try.ntmps47
    go_wp2_with
      (first
        | (go_at_call 42; refine (rwidth_any _ _).mono ?_; rintro e w' ⟨rfl, rfl⟩)
        | (go_at_call 69; (with_reducible refine (has_is _ _ _ m _ hop (by decide) hcell HM.out _ HH.h1.out).mono ?_); rintro e w' ⟨rfl, rfl⟩)
        | (go_at_call 69; (with_reducible refine (has_is _ _ _ m _ hop (by decide) hcell HM.out _ HH.h2.out).mono ?_); rintro e w' ⟨rfl, rfl⟩)
        | (go_at_call 69; (with_reducible refine (has_is _ _ _ m _ hop (by decide) hcell HM.out _ HH.h3.out).mono ?_); rintro e w' ⟨rfl, rfl⟩))
    go_ret
    exact ⟨rfl, HW.out⟩
  · have E : resultOf 3 2 2 = 2 := by decide
    rw [E]
    clear E
    go_enter Try.func47, Try.ntmps47
    go_wp2_with
      (first
        | (go_at_call 42; refine (rwidth_any _ _).mono ?_; rintro e w' ⟨rfl, rfl⟩)
        | (go_at_call 69; (with_reducible refine (has_is _ _ _ m _ hop (by decide) hcell HM.out _ HH.h1.out).mono ?_); rintro e w' ⟨rfl, rfl⟩)
        | (go_at_call 69; (with_reducible refine (has_is _ _ _ m _ hop (by decide) hcell HM.out _ HH.h2.out).mono ?_); rintro e w' ⟨rfl, rfl⟩)
        | (go_at_call 69; (with_reducible refine (has_is _ _ _ m _ hop (by decide) hcell HM.out _ HH.h3.out).mono ?_); rintro e w' ⟨rfl, rfl⟩))
    go_ret
    exact ⟨rfl, HW.out⟩

set_option maxHeartbeats 1600000 in
theorem rres_eq (a m : Int) (hz : ¬ vwidth a = 0) (w : World) (hm : w.cell? ⟨0, 0, none⟩ = some (.int .i64 m)) :
    Calls Try.prog 47 #[.string ⟨#[61]⟩, .int .i64 a, .int .i64 a] w (Res (resultOf 4 a a) w) := by
  have hop : (⟨#[61]⟩ : ByteArray).size ≤ 20 := by decide
  have HH : HasIs ⟨#[61]⟩ false true false := ⟨by unfold Hid; decide +kernel, by unfold Hid; decide +kernel, by unfold Hid; decide +kernel⟩
  have hz' : (vwidth a == 0) = false := by simp [hz]
  have hw : vwidth a = if a = 1 then 1 else if a = 2 then 8 else 0 := rfl
  have hcase : a = 1 ∨ a = 2 := by
    rw [hw] at hz
    by_cases h1 : a = 1
    · exact .inl h1
    · rw [if_neg h1] at hz
      by_cases h2 : a = 2
      · exact .inr h2
      · rw [if_neg h2] at hz; exact absurd rfl hz
  clear hw
  have hcell : (w.alloc (.cells #[.string ⟨#[61]⟩] 9)).cell? ⟨w.heap.size, 0, none⟩ = some (.string ⟨#[61]⟩) := cell_new w _ _ 0
  have HM := hid (glob_alloc hm (.cells #[.string ⟨#[61]⟩] 9))
  have HW := hid ((Below.refl w.heap.size w).alloc (Nat.le_refl _) (.cells #[.string ⟨#[61]⟩] 9))
  clear hz hm
  rcases hcase with rfl | rfl
  · have E : resultOf 4 1 1 = 1 := by decide
    rw [E]
    clear E
    go_enter Try.func47, Try.ntmps47
    go_wp2_with
      (first
        | (go_at_call 42; refine (rwidth_any _ _).mono ?_; rintro e w' ⟨rfl, rfl⟩)
        | (go_at_call 69; (with_reducible refine (has_is _ _ _ m _ hop (by decide) hcell HM.out _ HH.h1.out).mono ?_); rintro e w' ⟨rfl, rfl⟩)
        | (go_at_call 69; (with_reducible refine (has_is _ _ _ m _ hop (by decide) hcell HM.out _ HH.h2.out).mono ?_); rintro e w' ⟨rfl, rfl⟩)
        | (go_at_call 69; (with_reducible refine (has_is _ _ _ m _ hop (by decide) hcell HM.out _ HH.h3.out).mono ?_); rintro e w' ⟨rfl, rfl⟩))
    go_ret
    exact ⟨rfl, HW.out⟩
  · have E : resultOf 4 2 2 = 1 := by decide
    rw [E]
    clear E
    go_enter Try.func47, Try.ntmps47
    go_wp2_with
      (first
        | (go_at_call 42; refine (rwidth_any _ _).mono ?_; rintro e w' ⟨rfl, rfl⟩)
        | (go_at_call 69; (with_reducible refine (has_is _ _ _ m _ hop (by decide) hcell HM.out _ HH.h1.out).mono ?_); rintro e w' ⟨rfl, rfl⟩)
        | (go_at_call 69; (with_reducible refine (has_is _ _ _ m _ hop (by decide) hcell HM.out _ HH.h2.out).mono ?_); rintro e w' ⟨rfl, rfl⟩)
        | (go_at_call 69; (with_reducible refine (has_is _ _ _ m _ hop (by decide) hcell HM.out _ HH.h3.out).mono ?_); rintro e w' ⟨rfl, rfl⟩))
    go_ret
    exact ⟨rfl, HW.out⟩

set_option maxHeartbeats 1600000 in
theorem rres_ne (a m : Int) (hz : ¬ vwidth a = 0) (w : World) (hm : w.cell? ⟨0, 0, none⟩ = some (.int .i64 m)) :
    Calls Try.prog 47 #[.string ⟨#[60, 62]⟩, .int .i64 a, .int .i64 a] w (Res (resultOf 5 a a) w) := by
  have hop : (⟨#[60, 62]⟩ : ByteArray).size ≤ 20 := by decide
  have HH : HasIs ⟨#[60, 62]⟩ false true false := ⟨by unfold Hid; decide +kernel, by unfold Hid; decide +kernel, by unfold Hid; decide +kernel⟩
  have hz' : (vwidth a == 0) = false := by simp [hz]
  have hw : vwidth a = if a = 1 then 1 else if a = 2 then 8 else 0 := rfl
  have hcase : a = 1 ∨ a = 2 := by
    rw [hw] at hz
    by_cases h1 : a = 1
    · exact .inl h1
    · rw [if_neg h1] at hz
      by_cases h2 : a = 2
      · exact .inr h2
      · rw [if_neg h2] at hz; exact absurd rfl hz
  clear hw
  have hcell : (w.alloc (.cells #[.string ⟨#[60, 62]⟩] 9)).cell? ⟨w.heap.size, 0, none⟩ = some (.string ⟨#[60, 62]⟩) := cell_new w _ _ 0
  have HM := hid (glob_alloc hm (.cells #[.string ⟨#[60, 62]⟩] 9))
  have HW := hid ((Below.refl w.heap.size w).alloc (Nat.le_refl _) (.cells #[.string ⟨#[60, 62]⟩] 9))
  clear hz hm
  rcases hcase with rfl | rfl
  · have E : resultOf 5 1 1 = 1 := by decide
    rw [E]
    clear E
    go_enter Try.func47, Try.ntmps47
    go_wp2_with
      (first
        | (go_at_call 42; refine (rwidth_any _ _).mono ?_; rintro e w' ⟨rfl, rfl⟩)
        | (go_at_call 69; (with_reducible refine (has_is _ _ _ m _ hop (by decide) hcell HM.out _ HH.h1.out).mono ?_); rintro e w' ⟨rfl, rfl⟩)
        | (go_at_call 69; (with_reducible refine (has_is _ _ _ m _ hop (by decide) hcell HM.out _ HH.h2.out).mono ?_); rintro e w' ⟨rfl, rfl⟩)
        | (go_at_call 69; (with_reducible refine (has_is _ _ _ m _ hop (by decide) hcell HM.out _ HH.h3.out).mono ?_); rintro e w' ⟨rfl, rfl⟩))
    go_ret
    exact ⟨rfl, HW.out⟩
  · have E : resultOf 5 2 2 = 1 := by decide
    rw [E]
    clear E
    go_enter Try.func47, Try.ntmps47
    go_wp2_with
      (first
        | (go_at_call 42; refine (rwidth_any _ _).mono ?_; rintro e w' ⟨rfl, rfl⟩)
        | (go_at_call 69; (with_reducible refine (has_is _ _ _ m _ hop (by decide) hcell HM.out _ HH.h1.out).mono ?_); rintro e w' ⟨rfl, rfl⟩)
        | (go_at_call 69; (with_reducible refine (has_is _ _ _ m _ hop (by decide) hcell HM.out _ HH.h2.out).mono ?_); rintro e w' ⟨rfl, rfl⟩)
        | (go_at_call 69; (with_reducible refine (has_is _ _ _ m _ hop (by decide) hcell HM.out _ HH.h3.out).mono ?_); rintro e w' ⟨rfl, rfl⟩))
    go_ret
    exact ⟨rfl, HW.out⟩

set_option maxHeartbeats 1600000 in
theorem rres_lt (a m : Int) (hz : ¬ vwidth a = 0) (w : World) (hm : w.cell? ⟨0, 0, none⟩ = some (.int .i64 m)) :
    Calls Try.prog 47 #[.string ⟨#[60]⟩, .int .i64 a, .int .i64 a] w (Res (resultOf 6 a a) w) := by
  have hop : (⟨#[60]⟩ : ByteArray).size ≤ 20 := by decide
  have HH : HasIs ⟨#[60]⟩ false false true := ⟨by unfold Hid; decide +kernel, by unfold Hid; decide +kernel, by unfold Hid; decide +kernel⟩
  have hz' : (vwidth a == 0) = false := by simp [hz]
  have hw : vwidth a = if a = 1 then 1 else if a = 2 then 8 else 0 := rfl
  have hcase : a = 1 ∨ a = 2 := by
    rw [hw] at hz
    by_cases h1 : a = 1
    · exact .inl h1
    · rw [if_neg h1] at hz
      by_cases h2 : a = 2
      · exact .inr h2
      · rw [if_neg h2] at hz; exact absurd rfl hz
  clear hw
  have hcell : (w.alloc (.cells #[.string ⟨#[60]⟩] 9)).cell? ⟨w.heap.size, 0, none⟩ = some (.string ⟨#[60]⟩) := cell_new w _ _ 0
  have HM := hid (glob_alloc hm (.cells #[.string ⟨#[60]⟩] 9))
  have HW := hid ((Below.refl w.heap.size w).alloc (Nat.le_refl _) (.cells #[.string ⟨#[60]⟩] 9))
  clear hz hm
  rcases hcase with rfl | rfl
  · have E : resultOf 6 1 1 = 0 := by decide
    rw [E]
    clear E
    go_enter Try.func47, Try.ntmps47
    go_wp2_with
      (first
        | (go_at_call 42; refine (rwidth_any _ _).mono ?_; rintro e w' ⟨rfl, rfl⟩)
        | (go_at_call 69; (with_reducible refine (has_is _ _ _ m _ hop (by decide) hcell HM.out _ HH.h1.out).mono ?_); rintro e w' ⟨rfl, rfl⟩)
        | (go_at_call 69; (with_reducible refine (has_is _ _ _ m _ hop (by decide) hcell HM.out _ HH.h2.out).mono ?_); rintro e w' ⟨rfl, rfl⟩)
        | (go_at_call 69; (with_reducible refine (has_is _ _ _ m _ hop (by decide) hcell HM.out _ HH.h3.out).mono ?_); rintro e w' ⟨rfl, rfl⟩))
    go_ret
    exact ⟨rfl, HW.out⟩
  · have E : resultOf 6 2 2 = 1 := by decide
    rw [E]
    clear E
    go_enter Try.func47, Try.ntmps47
    go_wp2_with
      (first
        | (go_at_call 42; refine (rwidth_any _ _).mono ?_; rintro e w' ⟨rfl, rfl⟩)
        | (go_at_call 69; (with_reducible refine (has_is _ _ _ m _ hop (by decide) hcell HM.out _ HH.h1.out).mono ?_); rintro e w' ⟨rfl, rfl⟩)
        | (go_at_call 69; (with_reducible refine (has_is _ _ _ m _ hop (by decide) hcell HM.out _ HH.h2.out).mono ?_); rintro e w' ⟨rfl, rfl⟩)
        | (go_at_call 69; (with_reducible refine (has_is _ _ _ m _ hop (by decide) hcell HM.out _ HH.h3.out).mono ?_); rintro e w' ⟨rfl, rfl⟩))
    go_ret
    exact ⟨rfl, HW.out⟩

set_option maxHeartbeats 1600000 in
theorem rres_le (a m : Int) (hz : ¬ vwidth a = 0) (w : World) (hm : w.cell? ⟨0, 0, none⟩ = some (.int .i64 m)) :
    Calls Try.prog 47 #[.string ⟨#[60, 61]⟩, .int .i64 a, .int .i64 a] w (Res (resultOf 7 a a) w) := by
  have hop : (⟨#[60, 61]⟩ : ByteArray).size ≤ 20 := by decide
  have HH : HasIs ⟨#[60, 61]⟩ false false true := ⟨by unfold Hid; decide +kernel, by unfold Hid; decide +kernel, by unfold Hid; decide +kernel⟩
  have hz' : (vwidth a == 0) = false := by simp [hz]
  have hw : vwidth a = if a = 1 then 1 else if a = 2 then 8 else 0 := rfl
  have hcase : a = 1 ∨ a = 2 := by
    rw [hw] at hz
    by_cases h1 : a = 1
    · exact .inl h1
    · rw [if_neg h1] at hz
      by_cases h2 : a = 2
      · exact .inr h2
      · rw [if_neg h2] at hz; exact absurd rfl hz
  clear hw
  have hcell : (w.alloc (.cells #[.string ⟨#[60, 61]⟩] 9)).cell? ⟨w.heap.size, 0, none⟩ = some (.string ⟨#[60, 61]⟩) := cell_new w _ _ 0
  have HM := hid (glob_alloc hm (.cells #[.string ⟨#[60, 61]⟩] 9))
  have HW := hid ((Below.refl w.heap.size w).alloc (Nat.le_refl _) (.cells #[.string ⟨#[60, 61]⟩] 9))
  clear hz hm
  rcases hcase with rfl | rfl
  · have E : resultOf 7 1 1 = 0 := by decide
    rw [E]
    clear E
    go_enter Try.func47, Try.ntmps47
    go_wp2_with
      (first
        | (go_at_call 42; refine (rwidth_any _ _).mono ?_; rintro e w' ⟨rfl, rfl⟩)
        | (go_at_call 69; (with_reducible refine (has_is _ _ _ m _ hop (by decide) hcell HM.out _ HH.h1.out).mono ?_); rintro e w' ⟨rfl, rfl⟩)
        | (go_at_call 69; (with_reducible refine (has_is _ _ _ m _ hop (by decide) hcell HM.out _ HH.h2.out).mono ?_); rintro e w' ⟨rfl, rfl⟩)
        | (go_at_call 69; (with_reducible refine (has_is _ _ _ m _ hop (by decide) hcell HM.out _ HH.h3.out).mono ?_); rintro e w' ⟨rfl, rfl⟩))
    go_ret
    exact ⟨rfl, HW.out⟩
  · have E : resultOf 7 2 2 = 1 := by decide
    rw [E]
    clear E
    go_enter Try.func47, Try.ntmps47
    go_wp2_with
      (first
        | (go_at_call 42; refine (rwidth_any _ _).mono ?_; rintro e w' ⟨rfl, rfl⟩)
        | (go_at_call 69; (with_reducible refine (has_is _ _ _ m _ hop (by decide) hcell HM.out _ HH.h1.out).mono ?_); rintro e w' ⟨rfl, rfl⟩)
        | (go_at_call 69; (with_reducible refine (has_is _ _ _ m _ hop (by decide) hcell HM.out _ HH.h2.out).mono ?_); rintro e w' ⟨rfl, rfl⟩)
        | (go_at_call 69; (with_reducible refine (has_is _ _ _ m _ hop (by decide) hcell HM.out _ HH.h3.out).mono ?_); rintro e w' ⟨rfl, rfl⟩))
    go_ret
    exact ⟨rfl, HW.out⟩

set_option maxHeartbeats 1600000 in
theorem rres_gt (a m : Int) (hz : ¬ vwidth a = 0) (w : World) (hm : w.cell? ⟨0, 0, none⟩ = some (.int .i64 m)) :
    Calls Try.prog 47 #[.string ⟨#[62]⟩, .int .i64 a, .int .i64 a] w (Res (resultOf 8 a a) w) := by
  have hop : (⟨#[62]⟩ : ByteArray).size ≤ 20 := by decide
  have HH : HasIs ⟨#[62]⟩ false false true := ⟨by unfold Hid; decide +kernel, by unfold Hid; decide +kernel, by unfold Hid; decide +kernel⟩
  have hz' : (vwidth a == 0) = false := by simp [hz]
  have hw : vwidth a = if a = 1 then 1 else if a = 2 then 8 else 0 := rfl
  have hcase : a = 1 ∨ a = 2 := by
    rw [hw] at hz
    by_cases h1 : a = 1
    · exact .inl h1
    · rw [if_neg h1] at hz
      by_cases h2 : a = 2
      · exact .inr h2
      · rw [if_neg h2] at hz; exact absurd rfl hz
  clear hw
  have hcell : (w.alloc (.cells #[.string ⟨#[62]⟩] 9)).cell? ⟨w.heap.size, 0, none⟩ = some (.string ⟨#[62]⟩) := cell_new w _ _ 0
  have HM := hid (glob_alloc hm (.cells #[.string ⟨#[62]⟩] 9))
  have HW := hid ((Below.refl w.heap.size w).alloc (Nat.le_refl _) (.cells #[.string ⟨#[62]⟩] 9))
  clear hz hm
  rcases hcase with rfl | rfl
  · have E : resultOf 8 1 1 = 0 := by decide
    rw [E]
    clear E
    go_enter Try.func47, Try.ntmps47
    go_wp2_with
      (first
        | (go_at_call 42; refine (rwidth_any _ _).mono ?_; rintro e w' ⟨rfl, rfl⟩)
        | (go_at_call 69; (with_reducible refine (has_is _ _ _ m _ hop (by decide) hcell HM.out _ HH.h1.out).mono ?_); rintro e w' ⟨rfl, rfl⟩)
        | (go_at_call 69; (with_reducible refine (has_is _ _ _ m _ hop (by decide) hcell HM.out _ HH.h2.out).mono ?_); rintro e w' ⟨rfl, rfl⟩)
        | (go_at_call 69; (with_reducible refine (has_is _ _ _ m _ hop (by decide) hcell HM.out _ HH.h3.out).mono ?_); rintro e w' ⟨rfl, rfl⟩))
    go_ret
    exact ⟨rfl, HW.out⟩
  · have E : resultOf 8 2 2 = 1 := by decide
    rw [E]
    clear E
    go_enter Try.func47, Try.ntmps47
    go_wp2_with
      (first
        | (go_at_call 42; refine (rwidth_any _ _).mono ?_; rintro e w' ⟨rfl, rfl⟩)
        | (go_at_call 69; (with_reducible refine (has_is _ _ _ m _ hop (by decide) hcell HM.out _ HH.h1.out).mono ?_); rintro e w' ⟨rfl, rfl⟩)
        | (go_at_call 69; (with_reducible refine (has_is _ _ _ m _ hop (by decide) hcell HM.out _ HH.h2.out).mono ?_); rintro e w' ⟨rfl, rfl⟩)
        | (go_at_call 69; (with_reducible refine (has_is _ _ _ m _ hop (by decide) hcell HM.out _ HH.h3.out).mono ?_); rintro e w' ⟨rfl, rfl⟩))
    go_ret
    exact ⟨rfl, HW.out⟩

set_option maxHeartbeats 1600000 in
theorem rres_ge (a m : Int) (hz : ¬ vwidth a = 0) (w : World) (hm : w.cell? ⟨0, 0, none⟩ = some (.int .i64 m)) :
    Calls Try.prog 47 #[.string ⟨#[62, 61]⟩, .int .i64 a, .int .i64 a] w (Res (resultOf 9 a a) w) := by
  have hop : (⟨#[62, 61]⟩ : ByteArray).size ≤ 20 := by decide
  have HH : HasIs ⟨#[62, 61]⟩ false false true := ⟨by unfold Hid; decide +kernel, by unfold Hid; decide +kernel, by unfold Hid; decide +kernel⟩
  have hz' : (vwidth a == 0) = false := by simp [hz]
  have hw : vwidth a = if a = 1 then 1 else if a = 2 then 8 else 0 := rfl
  have hcase : a = 1 ∨ a = 2 := by
    rw [hw] at hz
    by_cases h1 : a = 1
    · exact .inl h1
    · rw [if_neg h1] at hz
      by_cases h2 : a = 2
      · exact .inr h2
      · rw [if_neg h2] at hz; exact absurd rfl hz
  clear hw
  have hcell : (w.alloc (.cells #[.string ⟨#[62, 61]⟩] 9)).cell? ⟨w.heap.size, 0, none⟩ = some (.string ⟨#[62, 61]⟩) := cell_new w _ _ 0
  have HM := hid (glob_alloc hm (.cells #[.string ⟨#[62, 61]⟩] 9))
  have HW := hid ((Below.refl w.heap.size w).alloc (Nat.le_refl _) (.cells #[.string ⟨#[62, 61]⟩] 9))
  clear hz hm
  rcases hcase with rfl | rfl
  · have E : resultOf 9 1 1 = 0 := by decide
    rw [E]
    clear E
    go_enter Try.func47, Try.ntmps47
    go_wp2_with
      (first
        | (go_at_call 42; refine (rwidth_any _ _).mono ?_; rintro e w' ⟨rfl, rfl⟩)
        | (go_at_call 69; (with_reducible refine (has_is _ _ _ m _ hop (by decide) hcell HM.out _ HH.h1.out).mono ?_); rintro e w' ⟨rfl, rfl⟩)
        | (go_at_call 69; (with_reducible refine (has_is _ _ _ m _ hop (by decide) hcell HM.out _ HH.h2.out).mono ?_); rintro e w' ⟨rfl, rfl⟩)
        | (go_at_call 69; (with_reducible refine (has_is _ _ _ m _ hop (by decide) hcell HM.out _ HH.h3.out).mono ?_); rintro e w' ⟨rfl, rfl⟩))
    go_ret
    exact ⟨rfl, HW.out⟩
  · have E : resultOf 9 2 2 = 1 := by decide
    rw [E]
    clear E
    go_enter Try.func47, Try.ntmps47
    go_wp2_with
      (first
        | (go_at_call 42; refine (rwidth_any _ _).mono ?_; rintro e w' ⟨rfl, rfl⟩)
        | (go_at_call 69; (with_reducible refine (has_is _ _ _ m _ hop (by decide) hcell HM.out _ HH.h1.out).mono ?_); rintro e w' ⟨rfl, rfl⟩)
        | (go_at_call 69; (with_reducible refine (has_is _ _ _ m _ hop (by decide) hcell HM.out _ HH.h2.out).mono ?_); rintro e w' ⟨rfl, rfl⟩)
        | (go_at_call 69; (with_reducible refine (has_is _ _ _ m _ hop (by decide) hcell HM.out _ HH.h3.out).mono ?_); rintro e w' ⟨rfl, rfl⟩))
    go_ret
    exact ⟨rfl, HW.out⟩

set_option maxHeartbeats 1600000 in
theorem rres_plus (a m : Int) (hz : ¬ vwidth a = 0) (w : World) (hm : w.cell? ⟨0, 0, none⟩ = some (.int .i64 m)) :
    Calls Try.prog 47 #[.string ⟨#[43]⟩, .int .i64 a, .int .i64 a] w (Res (resultOf 10 a a) w) := by
  have hop : (⟨#[43]⟩ : ByteArray).size ≤ 20 := by decide
  have HH : HasIs ⟨#[43]⟩ false false false := ⟨by unfold Hid; decide +kernel, by unfold Hid; decide +kernel, by unfold Hid; decide +kernel⟩
  have hz' : (vwidth a == 0) = false := by simp [hz]
  have hw : vwidth a = if a = 1 then 1 else if a = 2 then 8 else 0 := rfl
  have hcase : a = 1 ∨ a = 2 := by
    rw [hw] at hz
    by_cases h1 : a = 1
    · exact .inl h1
    · rw [if_neg h1] at hz
      by_cases h2 : a = 2
      · exact .inr h2
      · rw [if_neg h2] at hz; exact absurd rfl hz
  clear hw
  have hcell : (w.alloc (.cells #[.string ⟨#[43]⟩] 9)).cell? ⟨w.heap.size, 0, none⟩ = some (.string ⟨#[43]⟩) := cell_new w _ _ 0
  have HM := hid (glob_alloc hm (.cells #[.string ⟨#[43]⟩] 9))
  have HW := hid ((Below.refl w.heap.size w).alloc (Nat.le_refl _) (.cells #[.string ⟨#[43]⟩] 9))
  clear hz hm
  rcases hcase with rfl | rfl
  · have E : resultOf 10 1 1 = 0 := by decide
    rw [E]
    clear E
    go_enter Try.func47, Try.ntmps47
    go_wp2_with
      (first
        | (go_at_call 42; refine (rwidth_any _ _).mono ?_; rintro e w' ⟨rfl, rfl⟩)
        | (go_at_call 69; (with_reducible refine (has_is _ _ _ m _ hop (by decide) hcell HM.out _ HH.h1.out).mono ?_); rintro e w' ⟨rfl, rfl⟩)
        | (go_at_call 69; (with_reducible refine (has_is _ _ _ m _ hop (by decide) hcell HM.out _ HH.h2.out).mono ?_); rintro e w' ⟨rfl, rfl⟩)
        | (go_at_call 69; (with_reducible refine (has_is _ _ _ m _ hop (by decide) hcell HM.out _ HH.h3.out).mono ?_); rintro e w' ⟨rfl, rfl⟩))
    go_ret
    exact ⟨rfl, HW.out⟩
  · have E : resultOf 10 2 2 = 2 := by decide
    rw [E]
    clear E
    go_enter Try.func47, Try.ntmps47
    go_wp2_with
      (first
        | (go_at_call 42; refine (rwidth_any _ _).mono ?_; rintro e w' ⟨rfl, rfl⟩)
        | (go_at_call 69; (with_reducible refine (has_is _ _ _ m _ hop (by decide) hcell HM.out _ HH.h1.out).mono ?_); rintro e w' ⟨rfl, rfl⟩)
        | (go_at_call 69; (with_reducible refine (has_is _ _ _ m _ hop (by decide) hcell HM.out _ HH.h2.out).mono ?_); rintro e w' ⟨rfl, rfl⟩)
        | (go_at_call 69; (with_reducible refine (has_is _ _ _ m _ hop (by decide) hcell HM.out _ HH.h3.out).mono ?_); rintro e w' ⟨rfl, rfl⟩))
    go_ret
    exact ⟨rfl, HW.out⟩

set_option maxHeartbeats 1600000 in
theorem rres_minus (a m : Int) (hz : ¬ vwidth a = 0) (w : World) (hm : w.cell? ⟨0, 0, none⟩ = some (.int .i64 m)) :
    Calls Try.prog 47 #[.string ⟨#[45]⟩, .int .i64 a, .int .i64 a] w (Res (resultOf 11 a a) w) := by
  have hop : (⟨#[45]⟩ : ByteArray).size ≤ 20 := by decide
  have HH : HasIs ⟨#[45]⟩ false false false := ⟨by unfold Hid; decide +kernel, by unfold Hid; decide +kernel, by unfold Hid; decide +kernel⟩
  have hz' : (vwidth a == 0) = false := by simp [hz]
  have hw : vwidth a = if a = 1 then 1 else if a = 2 then 8 else 0 := rfl
  have hcase : a = 1 ∨ a = 2 := by
    rw [hw] at hz
    by_cases h1 : a = 1
    · exact .inl h1
    · rw [if_neg h1] at hz
      by_cases h2 : a = 2
      · exact .inr h2
      · rw [if_neg h2] at hz; exact absurd rfl hz
  clear hw
  have hcell : (w.alloc (.cells #[.string ⟨#[45]⟩] 9)).cell? ⟨w.heap.size, 0, none⟩ = some (.string ⟨#[45]⟩) := cell_new w _ _ 0
  have HM := hid (glob_alloc hm (.cells #[.string ⟨#[45]⟩] 9))
  have HW := hid ((Below.refl w.heap.size w).alloc (Nat.le_refl _) (.cells #[.string ⟨#[45]⟩] 9))
  clear hz hm
  rcases hcase with rfl | rfl
  · have E : resultOf 11 1 1 = 0 := by decide
    rw [E]
    clear E
    go_enter Try.func47, Try.ntmps47
    go_wp2_with
      (first
        | (go_at_call 42; refine (rwidth_any _ _).mono ?_; rintro e w' ⟨rfl, rfl⟩)
        | (go_at_call 69; (with_reducible refine (has_is _ _ _ m _ hop (by decide) hcell HM.out _ HH.h1.out).mono ?_); rintro e w' ⟨rfl, rfl⟩)
        | (go_at_call 69; (with_reducible refine (has_is _ _ _ m _ hop (by decide) hcell HM.out _ HH.h2.out).mono ?_); rintro e w' ⟨rfl, rfl⟩)
        | (go_at_call 69; (with_reducible refine (has_is _ _ _ m _ hop (by decide) hcell HM.out _ HH.h3.out).mono ?_); rintro e w' ⟨rfl, rfl⟩))
    go_ret
    exact ⟨rfl, HW.out⟩
  · have E : resultOf 11 2 2 = 2 := by decide
    rw [E]
    clear E
    go_enter Try.func47, Try.ntmps47
    go_wp2_with
      (first
        | (go_at_call 42; refine (rwidth_any _ _).mono ?_; rintro e w' ⟨rfl, rfl⟩)
        | (go_at_call 69; (with_reducible refine (has_is _ _ _ m _ hop (by decide) hcell HM.out _ HH.h1.out).mono ?_); rintro e w' ⟨rfl, rfl⟩)
        | (go_at_call 69; (with_reducible refine (has_is _ _ _ m _ hop (by decide) hcell HM.out _ HH.h2.out).mono ?_); rintro e w' ⟨rfl, rfl⟩)
        | (go_at_call 69; (with_reducible refine (has_is _ _ _ m _ hop (by decide) hcell HM.out _ HH.h3.out).mono ?_); rintro e w' ⟨rfl, rfl⟩))
    go_ret
    exact ⟨rfl, HW.out⟩

set_option maxHeartbeats 1600000 in
theorem rres_other (op : ByteArray) (hop : op.size ≤ 20) (h10 : (op.toList == [43]) = false) (h11 : (op.toList == [45]) = false) (HH : HasIs op false false false) (a m : Int) (hz : ¬ vwidth a = 0) (w : World) (hm : w.cell? ⟨0, 0, none⟩ = some (.int .i64 m)) :
    Calls Try.prog 47 #[.string op, .int .i64 a, .int .i64 a] w (Res (resultOf 0 a a) w) := by
  have hz' : (vwidth a == 0) = false := by simp [hz]
  have hw : vwidth a = if a = 1 then 1 else if a = 2 then 8 else 0 := rfl
  have hcase : a = 1 ∨ a = 2 := by
    rw [hw] at hz
    by_cases h1 : a = 1
    · exact .inl h1
    · rw [if_neg h1] at hz
      by_cases h2 : a = 2
      · exact .inr h2
      · rw [if_neg h2] at hz; exact absurd rfl hz
  clear hw
  have hcell : (w.alloc (.cells #[.string op] 9)).cell? ⟨w.heap.size, 0, none⟩ = some (.string op) := cell_new w _ _ 0
  have HM := hid (glob_alloc hm (.cells #[.string op] 9))
  have HW := hid ((Below.refl w.heap.size w).alloc (Nat.le_refl _) (.cells #[.string op] 9))
  clear hz hm
  rcases hcase with rfl | rfl
  · have E : resultOf 0 1 1 = 0 := by decide
    rw [E]
    clear E
    go_enter Try.func47, Try.ntmps47
    go_wp2_with
      (first
        | (go_at_call 42; refine (rwidth_any _ _).mono ?_; rintro e w' ⟨rfl, rfl⟩)
        | (go_at_call 69; (with_reducible refine (has_is _ _ _ m _ hop (by decide) hcell HM.out _ HH.h1.out).mono ?_); rintro e w' ⟨rfl, rfl⟩)
        | (go_at_call 69; (with_reducible refine (has_is _ _ _ m _ hop (by decide) hcell HM.out _ HH.h2.out).mono ?_); rintro e w' ⟨rfl, rfl⟩)
        | (go_at_call 69; (with_reducible refine (has_is _ _ _ m _ hop (by decide) hcell HM.out _ HH.h3.out).mono ?_); rintro e w' ⟨rfl, rfl⟩))
    go_ret
    exact ⟨rfl, HW.out⟩
  · have E : resultOf 0 2 2 = 0 := by decide
    rw [E]
    clear E
    go_enter Try.func47, Try.ntmps47
    go_wp2_with
      (first
        | (go_at_call 42; refine (rwidth_any _ _).mono ?_; rintro e w' ⟨rfl, rfl⟩)
        | (go_at_call 69; (with_reducible refine (has_is _ _ _ m _ hop (by decide) hcell HM.out _ HH.h1.out).mono ?_); rintro e w' ⟨rfl, rfl⟩)
        | (go_at_call 69; (with_reducible refine (has_is _ _ _ m _ hop (by decide) hcell HM.out _ HH.h2.out).mono ?_); rintro e w' ⟨rfl, rfl⟩)
        | (go_at_call 69; (with_reducible refine (has_is _ _ _ m _ hop (by decide) hcell HM.out _ HH.h3.out).mono ?_); rintro e w' ⟨rfl, rfl⟩))
    go_ret
    exact ⟨rfl, HW.out⟩

theorem rresult_any (op : ByteArray) (hop : op.size ≤ 20) (a b m : Int) (w : World) (hm : w.cell? ⟨0, 0, none⟩ = some (.int .i64 m)) :
    Calls Try.prog 47 #[.string op, .int .i64 a, .int .i64 b] w (Res (vresult op a b) w) := by
  unfold vresult
  by_cases h : a ≠ b ∨ vwidth a = 0
  · have e : resultOf (opOf op) a b = 0 := by unfold resultOf; rw [if_pos h]
    rw [e]
    exact rres_zero op a b h w
  · have hab : a = b := Classical.byContradiction fun h' => h (.inl h')
    have hz : ¬ vwidth a = 0 := fun h' => h (.inr h')
    subst hab
    clear h
    rcases op_cases op with rfl | rfl | rfl | rfl | rfl | rfl | rfl | rfl | rfl | rfl | rfl | ⟨h0, h1, h2, h3, h4, h5, h6, h7, h8, h9, h10, h11⟩
    · rw [opOf_and]; exact rres_and a m hz w hm
    · rw [opOf_or]; exact rres_or a m hz w hm
    · rw [opOf_xor]; exact rres_xor a m hz w hm
    · rw [opOf_eq]; exact rres_eq a m hz w hm
    · rw [opOf_ne]; exact rres_ne a m hz w hm
    · rw [opOf_lt]; exact rres_lt a m hz w hm
    · rw [opOf_le]; exact rres_le a m hz w hm
    · rw [opOf_gt]; exact rres_gt a m hz w hm
    · rw [opOf_ge]; exact rres_ge a m hz w hm
    · rw [opOf_plus]; exact rres_plus a m hz w hm
    · rw [opOf_minus]; exact rres_minus a m hz w hm
    · rw [h0]; exact rres_other op hop h10 h11 (has_none h1 h2 h3 h4 h5 h6 h7 h8 h9) a m hz w hm
end Go.Proofs.Ytlaeflpddehipaa
