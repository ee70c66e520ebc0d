/- The code's reader of a line: blanks, take, fail, name. -/
import Derived.Test.YtlaeflpddehipabGreatDoorLdName
set_option linter.unusedVariables false
set_option linter.unusedSimpArgs false
namespace Go.Proofs.YtlaeflpddehipabGreatDoor
open Go.RowKit
attribute [local go_sem ↓] Go.wp_at_zero Go.wp_at_succ

theorem ex_take (s : Bs) (n : Nat) : (⟨s.toArray⟩ : ByteArray).extract 0 n = ⟨(s.take n).toArray⟩ := by
  apply ByteArray.ext
  apply Array.ext'
  rw [ByteArray.data_extract, Array.toList_extract, List.extract_eq_take_drop]
  simp
theorem ex_drop (s : Bs) (n m : Nat) (hm : s.length ≤ m) : (⟨s.toArray⟩ : ByteArray).extract n m = ⟨(s.drop n).toArray⟩ := by
  apply ByteArray.ext
  apply Array.ext'
  rw [ByteArray.data_extract, Array.toList_extract, List.extract_eq_take_drop]
  exact List.take_of_length_le (by simp; omega)
theorem st_size (s : Bs) : (⟨s.toArray⟩ : ByteArray).size = s.length := by simp [ByteArray.size]
/-- What is thrown. -/
def thrown (e : Int) : Ending := .panicked [{ v := .iface 62 (.agg #[.int .i64 e]), recovered := false }]
theorem fail_any (e : Int) (w : World) : Calls Tryz.prog 24 #[.int .i64 e] w fun en w' => en = thrown e ∧ w' = w := by
  go_enter Tryz.func24, Tryz.ntmps24
  go_wp2
  exact ⟨rfl, rfl, rfl⟩
theorem trim_any (s : Bs) (w : World) : Calls Tryz.prog 71 #[st s, .string ⟨#[32]⟩] w fun e w' => e = .returned (st (bk s)) ∧ w' = w :=
  Tryz.strings_TrimLeft_one ⟨s.toArray⟩ 32 (by decide) w
theorem blanks_any (s : Bs) (bp : Nat) (w : World) (h : LP w bp s) : Calls Tryz.prog 53 #[.pointer (some ⟨bp, 0, none⟩)] w fun e w' => e = .returned (.tuple #[]) ∧ LP w' bp (bk s) ∧ Gr w bp w' := by
  have c0 : w.cell? ⟨bp, 0, none⟩ = some (st s) := (cell_block h 0).trans rfl
  have hfr := free_block h
  have hlt := boxLt h
  have H := hid h
  clear h
  go_enter Tryz.func53, Tryz.ntmps53
  go_wp2_with (go_at_call 71; (with_reducible refine (trim_any s w).mono ?_); rintro e w1 ⟨rfl, hw⟩; subst w1)
  go_end0
  exact ⟨rfl, (boxSet H.out 0 _).trans (by simp), (Gr.of w bp).set 0 _⟩
theorem cut_any (s q : Bs) (w : World) : Calls Tryz.prog 67 #[st s, st q] w fun e w' => e = .returned (.tuple #[st (Lib.trimPrefix s q), .bool (Lib.hasPrefix s q)]) ∧ w' = w :=
  Tryz.strings_CutPrefix ⟨s.toArray⟩ ⟨q.toArray⟩ w
theorem take_any (s q : Bs) (bp : Nat) (w : World) (h : LP w bp s) : Calls Tryz.prog 51 #[.pointer (some ⟨bp, 0, none⟩), st q] w fun e w' => e = .returned (.bool (Lib.hasPrefix (bk s) q)) ∧ LP w' bp (Lib.trimPrefix (bk s) q) ∧ Gr w bp w' := by
  have H := hid h
  clear h
  go_enter Tryz.func51, Tryz.ntmps51
  go_upto_region 2 with (go_at_call 53; (with_reducible refine (blanks_any s bp w H.out).mono ?_); rintro e w1 ⟨rfl, h1, hg⟩; have H1 := hid h1; have HG := hid hg; clear h1 hg)
  have c0 : w1.cell? ⟨bp, 0, none⟩ = some (st (bk s)) := (cell_block H1.out 0).trans rfl
  have hfr := free_block H1.out
  have hlt := boxLt H1.out
  go_wp2_with (go_at_call 67; (with_reducible refine (cut_any (bk s) q w1).mono ?_); rintro e w2 ⟨rfl, hw⟩; subst w2)
  go_ret
  exact ⟨rfl, (boxSet H1.out 0 _).trans (by simp), HG.out.set 0 _⟩
/-- What no name holds. -/
def offNm (x : Nat) : Bool := !((decide (97 ≤ x) && decide (x ≤ 122)) || (decide (48 ≤ x) && decide (x ≤ 57)) || decide (x = 95))
theorem offNm_byte (c : UInt8) : offNm c.toNat = !isNm c := by
  unfold offNm isNm isLow isDig
  rw [Bool.eq_iff_iff]
  simp
  omega
set_option maxHeartbeats 800000 in
theorem offNm_any (x : Nat) (hx : x ≤ 1114111) (w : World) : Calls Tryz.prog 69 #[.int .i32 (x : Int)] w fun e w' => e = .returned (.bool (offNm x)) ∧ w' = w := by
  go_enter Tryz.func69, Tryz.ntmps69
  go_wp2
  all_goals go_ret
  all_goals exact ⟨ret_bool (by rw [Bool.eq_iff_iff]; simp [offNm]; omega), rfl⟩
theorem enters_offNm : ∀ args w, (callFunc 69 args).run Tryz.prog w = .ok (.enter 69 args) w := enters_of Tryz.func69 (by kernel_rfl) rfl
theorem idx_from (s : Bs) : ∀ (f k : Nat), k ≤ nmLen s → s.length ≤ f + k → Lib.idxFuncFrom offNm true ⟨s.toArray⟩ f k = if nmLen s = s.length then -1 else (nmLen s : Int)
  | 0, k, h1, h2 => by
    have := nmLen_le s
    rw [if_pos (by omega)]
    rfl
  | f + 1, k, h1, h2 => by
    have hle := nmLen_le s
    unfold Lib.idxFuncFrom
    by_cases hk : k < s.length
    · have hk' : k < (⟨s.toArray⟩ : ByteArray).size := by rw [st_size]; exact hk
      rw [if_pos hk']
      have hb := st_byte s k hk
      have hat := nmLen_at s k h1 hk
      by_cases h128 : ((⟨s.toArray⟩ : ByteArray)[k]'hk').toNat < 128
      · rw [Go.decode_ascii _ _ hk' h128]
        simp only
        rw [hb, offNm_byte, hat]
        by_cases hlt : k < nmLen s
        · rw [decide_eq_true hlt]
          simp only [Bool.not_true, Bool.false_eq_true, if_false]
          exact idx_from s f (k + 1) (by omega) (by omega)
        · rw [decide_eq_false hlt]
          have : nmLen s = k := by omega
          simp only [Bool.not_false, if_true]
          rw [if_neg (by omega), this]
      · obtain ⟨d1, d2⟩ := Go.decode_high _ _ hk' (by omega)
        have ho : offNm (Utf8.decode ⟨s.toArray⟩ k).1 = true := by
          unfold offNm
          simp
          omega
        have hn : isNm (s.getD k 0) = false := by
          rw [← hb]
          unfold isNm isLow isDig
          simp
          omega
        rw [hn] at hat
        have hkn : ¬ k < nmLen s := of_decide_eq_false hat.symm
        rw [if_pos ho, if_neg (by omega)]
        have : nmLen s = k := by omega
        rw [this]
    · rw [if_neg (by rw [st_size]; exact hk), if_pos (by omega)]
theorem idx_any (s : Bs) (w : World) : Calls Tryz.prog 68 #[st s, .func (.func 69) #[] #[]] w fun e w' => e = .returned (.int .i64 (if nmLen s = s.length then -1 else (nmLen s : Int))) ∧ Below w.heap.size w w' := by
  have h := Tryz.strings_IndexFunc_runes 69 #[] enters_offNm offNm ⟨s.toArray⟩ w (fun W x hx _ => (offNm_any x hx W).mono fun e w' ⟨h1, h2⟩ => ⟨h1, 0, h2⟩)
  have e : Lib.idxFunc offNm true ⟨s.toArray⟩ = if nmLen s = s.length then -1 else (nmLen s : Int) := by
    unfold Lib.idxFunc
    rw [st_size]
    exact idx_from s s.length 0 (Nat.zero_le _) (Nat.le_refl _)
  rw [e] at h
  exact h
theorem while_take (l : Bs) : l.takeWhile isNm = l.take (l.takeWhile isNm).length ∧ l.dropWhile isNm = l.drop (l.takeWhile isNm).length := by
  have h := List.takeWhile_append_dropWhile (p := isNm) (l := l)
  generalize l.takeWhile isNm = a at h ⊢
  generalize l.dropWhile isNm = b at h ⊢
  subst h
  simp
theorem nmOf_take (s : Bs) : nmOf s = (bk s).take (nmLen (bk s)) := (while_take (bk s)).1
theorem nmRest_drop (s : Bs) : nmRest s = (bk s).drop (nmLen (bk s)) := (while_take (bk s)).2
set_option maxHeartbeats 1600000 in
theorem name_ok (s : Bs) (hg : goodName (nmOf s) = true) (bp : Nat) (hbp : bp ≠ 1) (w : World) (h : LP w bp s) (hk : Kept w) (hs : s.length ≤ 1000000) :
    Calls Tryz.prog 52 #[.pointer (some ⟨bp, 0, none⟩)] w fun e w' => e = .returned (st (nmOf s)) ∧ LP w' bp (nmRest s) ∧ Gr w bp w' := by
  have H := hid h
  have HK := hid hk
  have HG0 := hid hg
  have hl := bk_len s
  have hle := nmLen_le (bk s)
  have eT := ex_take (bk s) (nmLen (bk s))
  have eD := ex_drop (bk s) (nmLen (bk s)) (bk s).length (Nat.le_refl _)
  rw [← nmOf_take] at eT
  rw [← nmRest_drop] at eD
  have hnl : (nmOf s).length ≤ s.length := by rw [nmOf_take, List.length_take]; omega
  have HNL := hid (Nat.le_trans hnl hs)
  obtain ⟨u, hu⟩ : ∃ u, bk s = u := ⟨_, rfl⟩
  have HU := hid hu
  rw [hu] at hl hle eT eD
  obtain ⟨N, hN⟩ : ∃ N, nmLen u = N := ⟨_, rfl⟩
  have HN := hid hN
  rw [hN] at hle eT eD
  clear h hk hg hu hN hnl
  by_cases hNu : N = u.length
  · subst hNu
    have ET := hid eT
    have eD2 : ByteArray.empty = ⟨(nmRest s).toArray⟩ := by rw [← eD]; simp
    have ED := hid eD2
    clear eT eD eD2 hle
    go_enter Tryz.func52, Tryz.ntmps52
    go_upto_region 2 with (go_at_call 53; (with_reducible refine (blanks_any s bp w H.out).mono ?_); rintro e w1 ⟨rfl, h1, hg⟩; rw [HU.out] at h1; have H1 := hid h1; have HG := hid hg; clear h1 hg)
    have c0 : w1.cell? ⟨bp, 0, none⟩ = some (st u) := (cell_block H1.out 0).trans rfl
    have hidx := idx_any u w1
    rw [HN.out, if_pos rfl] at hidx
    have HI := hid hidx
    clear hidx
    go_upto_region 6 with (go_at_call 68; (with_reducible refine HI.out.mono ?_); rintro e w2 ⟨rfl, hb⟩; have HB := hid hb; have c2 := (hb.cell (p := ⟨bp, 0, none⟩) (boxLt H1.out)).trans c0; clear hb)
    rw [ET.out]
    have H2 := hid ((HB.out.block bp (boxLt H1.out)).trans H1.out)
    have hfr := free_block H2.out
    have hlt := boxLt H2.out
    have HK2 := hid ((HK.out.gr HG.out hbp).below HB.out)
    go_wp2_with (go_at_call 70; (with_reducible refine (treeName_any (nmOf s) HNL.out w2 HK2.out).mono ?_); rintro e w3 ⟨rfl, hw⟩; subst w3; rw [HG0.out])
    go_ret
    rw [ED.out]
    exact ⟨rfl, (boxSet H2.out 0 _).trans (by simp), (HG.out.below HB.out).set 0 _⟩
  · have ET := hid eT
    have ED := hid eD
    have hI : (N : Int) ≤ (u.length : Int) := by omega
    have hI0 : ¬ (N : Int) < 0 := by omega
    go_enter Tryz.func52, Tryz.ntmps52
    go_upto_region 2 with (go_at_call 53; (with_reducible refine (blanks_any s bp w H.out).mono ?_); rintro e w1 ⟨rfl, h1, hg⟩; rw [HU.out] at h1; have H1 := hid h1; have HG := hid hg; clear h1 hg)
    have c0 : w1.cell? ⟨bp, 0, none⟩ = some (st u) := (cell_block H1.out 0).trans rfl
    have hidx := idx_any u w1
    rw [HN.out, if_neg hNu] at hidx
    have HI := hid hidx
    clear hidx
    clear eT eD hNu
    go_upto_region 6 with (go_at_call 68; (with_reducible refine HI.out.mono ?_); rintro e w2 ⟨rfl, hb⟩; have HB := hid hb; have c2 := (hb.cell (p := ⟨bp, 0, none⟩) (boxLt H1.out)).trans c0; clear hb)
    rw [ET.out]
    have H2 := hid ((HB.out.block bp (boxLt H1.out)).trans H1.out)
    have hfr := free_block H2.out
    have hlt := boxLt H2.out
    have HK2 := hid ((HK.out.gr HG.out hbp).below HB.out)
    go_wp2_with (go_at_call 70; (with_reducible refine (treeName_any (nmOf s) HNL.out w2 HK2.out).mono ?_); rintro e w3 ⟨rfl, hw⟩; subst w3; rw [HG0.out])
    go_ret
    rw [ED.out]
    exact ⟨rfl, (boxSet H2.out 0 _).trans (by simp), (HG.out.below HB.out).set 0 _⟩
set_option maxHeartbeats 1600000 in
theorem name_bad (s : Bs) (hg : goodName (nmOf s) = false) (bp : Nat) (hbp : bp ≠ 1) (w : World) (h : LP w bp s) (hk : Kept w) (hs : s.length ≤ 1000000) :
    Calls Tryz.prog 52 #[.pointer (some ⟨bp, 0, none⟩)] w fun e w' => e = thrown 3 ∧ Gr w bp w' := by
  have H := hid h
  have HK := hid hk
  have HG0 := hid hg
  have hl := bk_len s
  have hle := nmLen_le (bk s)
  have eT := ex_take (bk s) (nmLen (bk s))
  rw [← nmOf_take] at eT
  have hnl : (nmOf s).length ≤ s.length := by rw [nmOf_take, List.length_take]; omega
  have HNL := hid (Nat.le_trans hnl hs)
  obtain ⟨u, hu⟩ : ∃ u, bk s = u := ⟨_, rfl⟩
  have HU := hid hu
  rw [hu] at hl hle eT
  obtain ⟨N, hN⟩ : ∃ N, nmLen u = N := ⟨_, rfl⟩
  have HN := hid hN
  rw [hN] at hle eT
  clear h hk hg hu hN hnl
  by_cases hNu : N = u.length
  · subst hNu
    have ET := hid eT
    clear eT hle
    go_enter Tryz.func52, Tryz.ntmps52
    go_upto_region 2 with (go_at_call 53; (with_reducible refine (blanks_any s bp w H.out).mono ?_); rintro e w1 ⟨rfl, h1, hg⟩; rw [HU.out] at h1; have H1 := hid h1; have HG := hid hg; clear h1 hg)
    have c0 : w1.cell? ⟨bp, 0, none⟩ = some (st u) := (cell_block H1.out 0).trans rfl
    have hidx := idx_any u w1
    rw [HN.out, if_pos rfl] at hidx
    have HI := hid hidx
    clear hidx
    go_upto_region 6 with (go_at_call 68; (with_reducible refine HI.out.mono ?_); rintro e w2 ⟨rfl, hb⟩; have HB := hid hb; have c2 := (hb.cell (p := ⟨bp, 0, none⟩) (boxLt H1.out)).trans c0; clear hb)
    rw [ET.out]
    have HK2 := hid ((HK.out.gr HG.out hbp).below HB.out)
    go_wp2_with (first
      | (go_at_call 70; (with_reducible refine (treeName_any (nmOf s) HNL.out w2 HK2.out).mono ?_); rintro e w3 ⟨rfl, hw⟩; subst w3; rw [HG0.out])
      | (go_at_call 24; (with_reducible refine (fail_any 3 w2).mono ?_); rintro e w3 ⟨rfl, hw⟩; subst w3; unfold thrown))
    exact ⟨rfl, rfl, HG.out.below HB.out⟩
  · have ET := hid eT
    have hI : (N : Int) ≤ (u.length : Int) := by omega
    have hI0 : ¬ (N : Int) < 0 := by omega
    go_enter Tryz.func52, Tryz.ntmps52
    go_upto_region 2 with (go_at_call 53; (with_reducible refine (blanks_any s bp w H.out).mono ?_); rintro e w1 ⟨rfl, h1, hg⟩; rw [HU.out] at h1; have H1 := hid h1; have HG := hid hg; clear h1 hg)
    have c0 : w1.cell? ⟨bp, 0, none⟩ = some (st u) := (cell_block H1.out 0).trans rfl
    have hidx := idx_any u w1
    rw [HN.out, if_neg hNu] at hidx
    have HI := hid hidx
    clear hidx
    clear eT hNu
    go_upto_region 6 with (go_at_call 68; (with_reducible refine HI.out.mono ?_); rintro e w2 ⟨rfl, hb⟩; have HB := hid hb; have c2 := (hb.cell (p := ⟨bp, 0, none⟩) (boxLt H1.out)).trans c0; clear hb)
    rw [ET.out]
    have HK2 := hid ((HK.out.gr HG.out hbp).below HB.out)
    go_wp2_with (first
      | (go_at_call 70; (with_reducible refine (treeName_any (nmOf s) HNL.out w2 HK2.out).mono ?_); rintro e w3 ⟨rfl, hw⟩; subst w3; rw [HG0.out])
      | (go_at_call 24; (with_reducible refine (fail_any 3 w2).mono ?_); rintro e w3 ⟨rfl, hw⟩; subst w3; unfold thrown))
    exact ⟨rfl, rfl, HG.out.below HB.out⟩
end Go.Proofs.YtlaeflpddehipabGreatDoor
