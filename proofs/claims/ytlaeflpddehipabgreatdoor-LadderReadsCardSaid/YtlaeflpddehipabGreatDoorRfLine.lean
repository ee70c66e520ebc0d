/- The document's reader of a line: next, take, fails, name. -/
import Derived.Test.YtlaeflpddehipabGreatDoorLdCells
import Derived.Test.YtlaeflpddehipabGreatDoorLdSeq
set_option linter.unusedVariables false
set_option linter.unusedSimpArgs false
namespace Go.Proofs.YtlaeflpddehipabGreatDoor
open Go.RowKit
attribute [local go_sem ↓] Go.wp_at_zero Go.wp_at_succ

/-- A reader of a line of the document's. -/
abbrev LR (w : World) (bl : Nat) (s : Bs) (bad : Int) : Prop := w.heap[bl]? = some (.cells #[st s, .int .i64 bad] 55 (0, 0))
theorem bk_cons (c : UInt8) (t : Bs) : bk (c :: t) = if c = 32 then bk t else c :: t := by
  unfold bk Lib.trimLeftB
  by_cases h : c = 32
  · subst h; rw [if_pos rfl]; simp
  · rw [if_neg h]; simp [h]
theorem bk_head (s : Bs) (h : s = [] ∨ ∃ c t, s = c :: t ∧ c ≠ 32) : bk s = s := by
  rcases h with rfl | ⟨c, t, rfl, h⟩
  · rfl
  · rw [bk_cons, if_neg h]
def leftR (bl : Nat) (w : World) : Nat := match w.cell? ⟨bl, 0, none⟩ with
  | some (.string b) => b.size
  | _ => 0
theorem leftR_is {w : World} {bl : Nat} {s : Bs} {bad : Int} (h : LR w bl s bad) : leftR bl w = s.length := by
  unfold leftR
  rw [(cell_block h 0).trans rfl]
  exact st_size s
theorem lowR_any (c : UInt8) (w : World) : Calls Tryz.prog 46 #[.int .u8 (c.toNat : Int)] w fun e w' => e = .returned (.bool (isLow c)) ∧ w' = w := by
  go_enter Tryz.func46, Tryz.ntmps46
  go_wp2
  all_goals go_ret
  all_goals exact ⟨ret_bool (by rw [Bool.eq_iff_iff]; simp [isLow]; try omega), rfl⟩
theorem digR_any (c : UInt8) (w : World) : Calls Tryz.prog 47 #[.int .u8 (c.toNat : Int)] w fun e w' => e = .returned (.bool (isDig c)) ∧ w' = w := by
  go_enter Tryz.func47, Tryz.ntmps47
  go_wp2
  all_goals go_ret
  all_goals exact ⟨ret_bool (by rw [Bool.eq_iff_iff]; simp [isDig]; try omega), rfl⟩
theorem next_any (s : Bs) (bad : Int) (bl : Nat) (w : World) (h : LR w bl s bad) : Calls Tryz.prog 19 #[.pointer (some ⟨bl, 0, none⟩)] w fun e w' => e = .returned (st ((bk s).take 1)) ∧ LR w' bl (bk s) bad ∧ Gr w bl w' := by
  have H := hid h
  clear h
  go_enter Tryz.func19, Tryz.ntmps19
  go_upto_region 1 with fail
  go_loopw [] (fun wr => ∃ s', LR wr bl s' bad ∧ Gr w bl wr ∧ bk s' = bk s) (fun wr => leftR bl wr)
  case atStart => exact ⟨s, H.out, Gr.of w bl, rfl⟩
  case round =>
    obtain ⟨s', hl, hg, hb⟩ := hrel
    have HL := hid hl
    have HG := hid hg
    have HB := hid hb
    have hfr := free_block hl
    have hlt := boxLt hl
    have c0 : wr.cell? ⟨bl, 0, none⟩ = some (st s') := (cell_block hl 0).trans rfl
    clear hl hg hb
    cases s' with
    | nil =>
      have hbk : bk s = [] := by rw [← HB.out]; rfl
      have HBK := hid hbk
      clear hbk
      go_wp2_with fail
      go_ret
      rw [HBK.out]
      exact ⟨rfl, HL.out, HG.out⟩
    | cons c t =>
      have e1 := ex_drop (c :: t) 1 (t.length + 1) (by simp)
      have E1 := hid (show (⟨(c :: t).toArray⟩ : ByteArray).extract 1 (t.length + 1) = ⟨t.toArray⟩ from e1)
      have E2 := hid (show (⟨(c :: t).toArray⟩ : ByteArray).extract 0 1 = ⟨[c].toArray⟩ from ex_take (c :: t) 1)
      clear e1
      go_wp2_with fail
      · rename_i hh
        have hc : c = 32 := UInt8.toNat_inj.1 (Int.ofNat.inj (beq_iff_eq.1 hh))
        subst hc
        rw [E1.out]
        have hn : LR (wr.setCell ⟨bl, 0, none⟩ (st t)) bl t bad := (boxSet HL.out 0 _).trans (by simp)
        refine ⟨⟨t, hn, HG.out.set 0 _, by rw [← HB.out, bk_cons, if_pos rfl]⟩, ?_⟩
        rw [leftR_is hn, leftR_is HL.out]
        exact Nat.lt_succ_self _
      · rename_i hh
        have hc : c ≠ 32 := fun e => by
          subst e
          have hh2 : (((32 : UInt8).toNat : Int) == 32) = false := hh
          exact absurd hh2 (by decide)
        have hbk : bk s = c :: t := by rw [← HB.out, bk_cons, if_neg hc]
        go_ret
        rw [E2.out, hbk]
        exact ⟨rfl, HL.out, HG.out⟩
theorem take1_eq (s : Bs) (c : UInt8) : decide (s.take 1 = [c]) = decide (s.head? = some c) := by
  cases s <;> simp
theorem takeR_yes (s t : Bs) (bad : Int) (c : UInt8) (hb : bk s = c :: t) (bl : Nat) (w : World) (h : LR w bl s bad) : Calls Tryz.prog 17 #[.pointer (some ⟨bl, 0, none⟩), .string ⟨#[c]⟩] w fun e w' => e = .returned (.bool true) ∧ LR w' bl t bad ∧ Gr w bl w' := by
  have H := hid h
  have HB := hid hb
  have E1 := hid (show (⟨(c :: t).toArray⟩ : ByteArray).extract 1 (t.length + 1) = ⟨t.toArray⟩ from ex_drop (c :: t) 1 (t.length + 1) (by simp))
  clear h hb
  go_enter Tryz.func17, Tryz.ntmps17
  go_upto_region 3 with (go_at_call 19; (with_reducible refine (next_any s bad bl w H.out).mono ?_); rintro e w1 ⟨rfl, h1, hg⟩; rw [HB.out] at h1; rw [HB.out]; have H1 := hid h1; have HG := hid hg; clear h1 hg)
  have c0 : w1.cell? ⟨bl, 0, none⟩ = some (st (c :: t)) := (cell_block H1.out 0).trans rfl
  have hfr := free_block H1.out
  have hlt := boxLt H1.out
  go_wp2_with fail
  go_ret
  rw [E1.out]
  exact ⟨rfl, (boxSet H1.out 0 _).trans (by simp), HG.out.set 0 _⟩
theorem takeR_no (s : Bs) (bad : Int) (c : UInt8) (hb : (bk s).head? ≠ some c) (bl : Nat) (w : World) (h : LR w bl s bad) : Calls Tryz.prog 17 #[.pointer (some ⟨bl, 0, none⟩), .string ⟨#[c]⟩] w fun e w' => e = .returned (.bool false) ∧ LR w' bl (bk s) bad ∧ Gr w bl w' := by
  have H := hid h
  have hn2 : ((bk s).take 1 == [c]) = false := by
    have : (bk s).take 1 ≠ [c] := fun e => hb (by cases hs : bk s with
      | nil => rw [hs] at e; cases e
      | cons x y => rw [hs] at e; simp at e; rw [e]; rfl)
    simpa using this
  have HB := hid hb
  clear h hb
  generalize hq : (bk s).take 1 = q at hn2
  have HQ := hid hq
  clear hq
  go_enter Tryz.func17, Tryz.ntmps17
  go_wp2_with (go_at_call 19; (with_reducible refine (next_any s bad bl w H.out).mono ?_); rintro e w1 ⟨rfl, h1, hg⟩; rw [HQ.out]; have H1 := hid h1; have HG := hid hg; clear h1 hg)
  go_ret
  exact ⟨rfl, H1.out, HG.out⟩
/-- The first thing that was wrong. -/
def firstBad (bad e : Int) : Int := if bad = 0 then e else bad
theorem failsR_any (s : Bs) (bad e : Int) (bl : Nat) (w : World) (h : LR w bl s bad) : Calls Tryz.prog 18 #[.pointer (some ⟨bl, 0, none⟩), .int .i64 e] w fun en w' => en = .returned (.tuple #[]) ∧ LR w' bl [] (firstBad bad e) ∧ Gr w bl w' := by
  have H := hid h
  have c0 : w.cell? ⟨bl, 0, none⟩ = some (st s) := (cell_block h 0).trans rfl
  have c1 : w.cell? ⟨bl, 1, none⟩ = some (.int .i64 bad) := (cell_block h 1).trans rfl
  have hfr := free_block h
  have hlt := boxLt h
  clear h
  by_cases hb : bad = 0
  · subst hb
    go_enter Tryz.func18, Tryz.ntmps18
    go_wp2_with fail
    go_end0
    exact ⟨rfl, (boxSet (boxSet H.out 1 _) 0 _).trans (by simp [firstBad]), ((Gr.of w bl).set 1 _).set 0 _⟩
  · have hbD : decide (bad = 0) = false := decide_eq_false hb
    go_enter Tryz.func18, Tryz.ntmps18
    go_wp2_with fail
    go_end0
    exact ⟨rfl, (boxSet H.out 0 _).trans (by simp [firstBad, hb]), (Gr.of w bl).set 0 _⟩
/-- Words behind one another, a blank behind each. -/
def bodyW : List Bs → Bs
  | [] => []
  | w :: ws => w ++ 32 :: bodyW ws
theorem contains_cons' (b : UInt8) (l sub : Bs) : Lib.contains (b :: l) sub = (sub.isPrefixOf (b :: l) || Lib.contains l sub) := by
  unfold Lib.contains
  rw [Lib.index]
  have hge := Lib.index_ge l sub
  cases hp : sub.isPrefixOf (b :: l)
  · simp only [Bool.false_eq_true, if_false, Bool.false_or]
    split
    · rename_i h
      have h' : Lib.index l sub = -1 := by simpa using h
      rw [h']
    · rename_i h
      have h' : Lib.index l sub ≠ -1 := by simpa using h
      rw [decide_eq_true (by omega), decide_eq_true (by omega)]
  · simp
theorem contains_skip (x r : Bs) : ∀ w : Bs, (∀ c ∈ w, c ≠ 32) → Lib.contains (w ++ r) (32 :: x) = Lib.contains r (32 :: x)
  | [], _ => rfl
  | c :: w, h => by
    have hc : c ≠ 32 := h c (by simp)
    rw [List.cons_append, contains_cons', contains_skip x r w fun y hy => h y (by simp [hy])]
    have : (32 :: x).isPrefixOf (c :: (w ++ r)) = false := by simp [List.isPrefixOf, Ne.symm hc]
    rw [this, Bool.false_or]
theorem prefix_word (y : Bs) : ∀ s w : Bs, (∀ c ∈ s, c ≠ 32) → (∀ c ∈ w, c ≠ 32) → (s ++ [32]).isPrefixOf (w ++ 32 :: y) = (s == w)
  | [], [], _, _ => by simp
  | [], b :: w, _, h => by
    have hb : b ≠ 32 := h b (by simp)
    simp [List.isPrefixOf, Ne.symm hb]
  | a :: s, [], h, _ => by
    have ha : a ≠ 32 := h a (by simp)
    simp [List.isPrefixOf, ha]
  | a :: s, b :: w, h1, h2 => by
    have ih := prefix_word y s w (fun c hc => h1 c (by simp [hc])) (fun c hc => h2 c (by simp [hc]))
    simp only [List.cons_append, List.isPrefixOf_cons_cons, ih]
    rfl
theorem contains_word (s : Bs) (hs : ∀ c ∈ s, c ≠ 32) : ∀ ws : List Bs, (∀ w ∈ ws, ∀ c ∈ w, c ≠ 32) → Lib.contains (32 :: bodyW ws) (32 :: (s ++ [32])) = ws.contains s
  | [], _ => by
    rw [contains_cons']
    cases s <;> simp [bodyW, Lib.contains, Lib.index, List.isPrefixOf]
  | w :: ws, h => by
    rw [bodyW, contains_cons', contains_skip _ _ _ (h w (by simp)), contains_word s hs ws fun x hx => h x (by simp [hx]), List.isPrefixOf_cons_cons, prefix_word _ _ _ hs (h w (by simp)), List.contains_cons]
    rfl
def wordB (s : Bs) : Bool := !s.isEmpty && isLow (s.headD 0) && s.all isNm
theorem kept_no32 : ∀ w ∈ keptW, ∀ c ∈ w, c ≠ 32 := by decide +kernel
theorem goodName_word (s : Bs) : goodName s = (wordB s && decide (s.length ≤ 12) && !keptW.contains s) := by
  unfold goodName wordB
  cases s.isEmpty <;> cases decide (s.length ≤ 12) <;> cases keptW.contains s <;> cases isLow (s.headD 0) <;> cases s.all isNm <;> rfl
theorem word_no32 (s : Bs) (h : wordB s = true) : ∀ c ∈ s, c ≠ 32 := by
  intro c hc e
  subst e
  unfold wordB at h
  simp only [Bool.and_eq_true, List.all_eq_true] at h
  have := h.2 _ hc
  revert this
  decide
theorem word_at (s : Bs) (k : Nat) (hk : k < s.length) (h0 : 0 < k → isLow (s.headD 0) = true) (h1 : k ≤ nmLen s) (hl : isLow (s.getD k 0) = false) (hd : k = 0 ∨ isDig (s.getD k 0) = false) : wordB s = false := by
  rcases Nat.eq_zero_or_pos k with rfl | hp
  · cases s with
    | nil => simp at hk
    | cons c t =>
      simp at hl
      simp [wordB, hl]
  · have hd' : isDig (s.getD k 0) = false := by
      rcases hd with h | h
      · omega
      · exact h
    have hn := nmLen_at s k h1 hk
    have : isNm (s.getD k 0) = false := by unfold isNm; rw [hl, hd']; rfl
    rw [this] at hn
    have hlt : ¬ k < nmLen s := of_decide_eq_false hn.symm
    have ha := nmLen_all s
    have : s.all isNm = false := by rw [← ha]; exact decide_eq_false (by omega)
    unfold wordB
    rw [this, Bool.and_false]
set_option maxHeartbeats 800000 in
theorem wordR_any (s : Bs) (hs : s.length ≤ 1000000) (w : World) : Calls Tryz.prog 64 #[st s] w fun e w' => e = .returned (.bool (wordB s)) ∧ w' = w := by
  have hsz := st_size s
  go_enter Tryz.func64, Tryz.ntmps64
  go_upto_region 2 with fail
  go_loopw [6] (fun v wr => wr = w ∧ ∃ k : Nat, v = .int .i64 k ∧ k ≤ nmLen s ∧ (0 < k → isLow (s.headD 0) = true)) (fun v _ => s.length - (intOf v).toNat)
  case atStart => exact ⟨rfl, 0, rfl, Nat.zero_le _, fun h => absurd h (Nat.lt_irrefl _)⟩
  case round =>
    obtain ⟨hwr, k, rfl, hk, h0⟩ := hrel
    subst wr
    have hle := nmLen_le s
    by_cases h1 : k < s.length
    · have hkI : (k : Int) < (s.length : Int) := by omega
      have hk0 : (0 : Int) ≤ (k : Int) := by omega
      have hb := st_byte s k h1
      have hnm := nmLen_at s k hk h1
      have H0 := hid h0
      have HK := hid hk
      have HNM := hid hnm
      cases hl : isLow (s.getD k 0) with
      | true =>
        rw [← hb] at hl
        have HL := hid hl
        have hnk : k < nmLen s := by
          have : isNm (s.getD k 0) = true := by unfold isNm; rw [← hb, hl]; rfl
          rw [this] at hnm
          exact of_decide_eq_true hnm.symm
        have HL0 := hid (show isLow (s.headD 0) = true by
          rcases Nat.eq_zero_or_pos k with rfl | hp
          · rw [hb] at hl
            cases s with
            | nil => simp at h1
            | cons c t => simpa using hl
          · exact h0 hp)
        clear h0 hnm hl hb
        go_wp2_with (go_at_call 46; (with_reducible refine (lowR_any _ w).mono ?_); rintro e w1 ⟨rfl, hw⟩; subst w1; rw [HL.out])
        go_roundw
        case rel => exact ⟨trivial, k + 1, by go_num, by omega, fun _ => HL0.out⟩
        case measure => simp [intOf]; omega
      | false =>
        by_cases hk00 : k = 0
        · subst hk00
          have HW := hid (word_at s 0 h1 h0 hk hl (.inl rfl))
          rw [← hb] at hl
          have HL := hid hl
          clear h0 hnm hl hb
          go_wp2_with (go_at_call 46; (with_reducible refine (lowR_any _ w).mono ?_); rintro e w1 ⟨rfl, hw⟩; subst w1; rw [HL.out])
          go_ret
          exact ⟨by rw [HW.out]; rfl, rfl⟩
        · have hkI0 : ¬ (k : Int) = 0 := by omega
          have hkD0 : decide ((k : Int) = 0) = false := decide_eq_false hkI0
          have hkE0 : ((k : Int) == 0) = false := by simpa using hkI0
          cases hd : isDig (s.getD k 0) with
          | true =>
            have hnk : k < nmLen s := by
              have : isNm (s.getD k 0) = true := by unfold isNm; rw [hd, Bool.or_true]
              rw [this] at hnm
              exact of_decide_eq_true hnm.symm
            have HL0 := hid (h0 (by omega))
            rw [← hb] at hl hd
            have HL := hid hl
            have HD := hid hd
            clear h0 hnm hl hb hd
            go_wp2_with (first
              | (go_at_call 46; (with_reducible refine (lowR_any _ w).mono ?_); rintro e w1 ⟨rfl, hw⟩; subst w1; rw [HL.out])
              | (go_at_call 47; (with_reducible refine (digR_any _ w).mono ?_); rintro e w1 ⟨rfl, hw⟩; subst w1; rw [HD.out]))
            go_roundw
            case rel => exact ⟨trivial, k + 1, by go_num, by omega, fun _ => HL0.out⟩
            case measure => simp [intOf]; omega
          | false =>
            have HW := hid (word_at s k h1 h0 hk hl (.inr hd))
            rw [← hb] at hl hd
            have HL := hid hl
            have HD := hid hd
            clear h0 hnm hl hb hd
            go_wp2_with (first
              | (go_at_call 46; (with_reducible refine (lowR_any _ w).mono ?_); rintro e w1 ⟨rfl, hw⟩; subst w1; rw [HL.out])
              | (go_at_call 47; (with_reducible refine (digR_any _ w).mono ?_); rintro e w1 ⟨rfl, hw⟩; subst w1; rw [HD.out]))
            go_ret
            exact ⟨by rw [HW.out]; rfl, rfl⟩
    · have hkI : ¬ ((k : Int) < (s.length : Int)) := by omega
      have HW := hid (show wordB s = !s.isEmpty by
        cases s with
        | nil => rfl
        | cons c t =>
          have ha := nmLen_all (c :: t)
          have hkl : k = (c :: t).length := by omega
          have : (c :: t).all isNm = true := by rw [← ha]; exact decide_eq_true (by omega)
          have h9 := h0 (by rw [hkl]; simp)
          unfold wordB
          rw [this, h9]
          rfl)
      go_wp2_with fail
      go_ret
      exact ⟨ret_bool (by rw [HW.out]), rfl⟩
/-- The length up to which the library searches in one go: it lies where the program keeps it. -/
def Mx (w : World) : Prop := 3 < w.heap.size ∧ ∃ m : Int, w.cell? ⟨3, 0, none⟩ = some (.int .i64 m)
theorem Mx.below {w w' : World} (h : Mx w) (hb : Below w.heap.size w w') : Mx w' := ⟨Nat.lt_of_lt_of_le h.1 hb.size, h.2.imp fun m hm => (hb.cell (p := ⟨3, 0, none⟩) h.1).trans hm⟩
theorem Mx.gr {w w' : World} {bp : Nat} (h : Mx w) (hg : Gr w bp w') (hb : bp ≠ 3) : Mx w' := ⟨Nat.lt_of_lt_of_le h.1 hg.size, h.2.imp fun m hm => by
  rw [← hm]
  unfold World.cell?
  simp only
  rw [hg.block 3 h.1 (by simp; omega)]⟩
theorem containsR_any (K sub : ByteArray) (hK : K.size < 4294967281) (b : Bool) (hb : Lib.contains K.data.toList sub.data.toList = b) (w : World) (h : Mx w) : Calls Tryz.prog 44 #[.string K, .string sub] w fun e w' => e = .returned (.bool b) ∧ w' = w := by
  obtain ⟨m, hm⟩ := h.2
  subst hb
  exact Any.strings_Contains { Tryz.laysM144 with } K sub m w hK hm
theorem kept_text (K sub : ByteArray) (s : Bs) (hK : K.data.toList = 32 :: bodyW keptW) (hsub : sub.data.toList = 32 :: (s ++ [32])) (h32 : ∀ c ∈ s, c ≠ 32) : Lib.contains K.data.toList sub.data.toList = keptW.contains s := by
  rw [hK, hsub]
  exact contains_word s h32 keptW kept_no32
set_option maxHeartbeats 800000 in
theorem nameR_any (s : Bs) (hs : s.length ≤ 1000000) (w : World) (hm : Mx w) : Calls Tryz.prog 48 #[st s] w fun e w' => e = .returned (.bool (goodName s)) ∧ w' = w := by
  have hsz := st_size s
  have HG := hid (goodName_word s)
  have HM := hid hm
  clear hm
  cases hw : wordB s with
  | false =>
    rw [hw] at HG
    have HW := hid hw
    clear hw
    go_enter Tryz.func48, Tryz.ntmps48
    go_wp2_with (go_at_call 64; (with_reducible refine (wordR_any s hs w).mono ?_); rintro e w1 ⟨rfl, h1⟩; subst w1; rw [HW.out])
    go_ret
    exact ⟨ret_bool (by rw [HG.out]; rfl), rfl⟩
  | true =>
    rw [hw] at HG
    have h32 := word_no32 s hw
    have HW := hid hw
    clear hw
    by_cases h12 : s.length ≤ 12
    · have h12I : (s.length : Int) ≤ 12 := by omega
      have h12D : decide ((s.length : Int) ≤ 12) = true := decide_eq_true h12I
      rw [decide_eq_true h12] at HG
      have H32 := hid h32
      clear h32 h12
      go_enter Tryz.func48, Tryz.ntmps48
      go_wp2_with (go_at_call 64; (with_reducible refine (wordR_any s hs w).mono ?_); rintro e w1 ⟨rfl, h1⟩; subst w1; rw [HW.out])
      refine (containsR_any _ _ (by decide) _ (kept_text _ _ s (by kernel_rfl) (by simp [ByteArray.data_append]) H32.out) w HM.out).mono ?_
      rintro e w1 ⟨rfl, h1⟩
      subst w1
      go_wp2_with fail
      go_ret
      exact ⟨ret_bool (by rw [HG.out, Bool.and_true, Bool.true_and, List.contains_eq_mem]), rfl⟩
    · have h12D : decide ((s.length : Int) ≤ 12) = false := decide_eq_false (by omega)
      have h12I : ¬ (s.length : Int) ≤ 12 := by omega
      rw [decide_eq_false h12] at HG
      clear h32 h12
      go_enter Tryz.func48, Tryz.ntmps48
      go_wp2_with (go_at_call 64; (with_reducible refine (wordR_any s hs w).mono ?_); rintro e w1 ⟨rfl, h1⟩; subst w1; rw [HW.out])
      go_ret
      exact ⟨ret_bool (by rw [HG.out]; rfl), rfl⟩
theorem nm_drop0 (u : Bs) (hn : nmLen u = 0) : u.takeWhile isNm = [] ∧ u.dropWhile isNm = u := by
  obtain ⟨h1, h2⟩ := while_take u
  unfold nmLen at hn
  rw [hn] at h1 h2
  exact ⟨by rw [h1]; rfl, by rw [h2]; rfl⟩
/-- What comes of a name. -/
def NPost (bl : Nat) (s : Bs) (bad : Int) (w : World) (e : Ending) (w' : World) : Prop := e = .returned (st (nmOf s)) ∧ Gr w bl w' ∧ if goodName (nmOf s) = true then LR w' bl (nmRest s) bad else LR w' bl [] (firstBad bad 3)
set_option maxHeartbeats 1600000 in
/-- A name that the document's reader takes: good, or it fails. -/
theorem nameLine_any (s : Bs) (bad : Int) (bl : Nat) (hbl : bl ≠ 3) (w : World) (h : LR w bl s bad) (hm : Mx w) (hs : s.length ≤ 1000000) :
    Calls Tryz.prog 21 #[.pointer (some ⟨bl, 0, none⟩)] w (NPost bl s bad w) := by
  have H := hid h
  have HM := hid hm
  have hl := bk_len s
  have hle := nmLen_le (bk s)
  have eT := ex_take (bk s) (nmLen (bk s))
  have eD := ex_drop (bk s) (nmLen (bk s)) (bk s).length (Nat.le_refl _)
  rw [← nmOf_take] at eT
  rw [← nmRest_drop] at eD
  have hnl : (nmOf s).length ≤ s.length := by rw [nmOf_take, List.length_take]; omega
  have HNL := hid (Nat.le_trans hnl hs)
  obtain ⟨u, hu⟩ : ∃ u, bk s = u := ⟨_, rfl⟩
  have HU := hid hu
  rw [hu] at hl hle eT eD
  have ET := hid eT
  have ED := hid eD
  clear h hm hu hnl eT eD
  go_enter Tryz.func21, Tryz.ntmps21
  go_upto_region 3 with (go_at_call 19; (with_reducible refine (next_any s bad bl w H.out).mono ?_); rintro e w1 ⟨rfl, h1, hg⟩; rw [HU.out] at h1; rw [HU.out]; have H1 := hid h1; have HG := hid hg; clear h1 hg)
  have c0 : w1.cell? ⟨bl, 0, none⟩ = some (st u) := (cell_block H1.out 0).trans rfl
  have hfr := free_block H1.out
  have hlt := boxLt H1.out
  go_loopw [3] (fun v wr => wr = w1 ∧ ∃ k : Nat, v = .int .i64 k ∧ k ≤ nmLen u) (fun v _ => u.length - (intOf v).toNat)
  case atStart => exact ⟨rfl, 0, rfl, Nat.zero_le _⟩
  case round =>
    obtain ⟨hwr, k, rfl, hk⟩ := hrel
    subst wr
    by_cases h1 : k < u.length
    · have hkI : (k : Int) < (u.length : Int) := by omega
      have hk0 : (0 : Int) ≤ (k : Int) := by omega
      have hb := st_byte u k h1
      have hnm := nmLen_at u k hk h1
      rw [← hb] at hnm
      have HK := hid hk
      cases hlw : isLow ((⟨u.toArray⟩ : ByteArray)[k]'(by rw [st_size]; exact h1)) with
      | true =>
        have HL := hid hlw
        have hnk : k < nmLen u := by
          unfold isNm at hnm
          rw [hlw] at hnm
          exact of_decide_eq_true hnm.symm
        clear hnm hlw hb
        go_wp2_with (go_at_call 46; (with_reducible refine (lowR_any _ w1).mono ?_); rintro e w2 ⟨rfl, hw⟩; subst w2; rw [HL.out])
        go_roundw
        case rel => exact ⟨trivial, k + 1, by go_num, by omega⟩
        case measure => simp [intOf]; omega
      | false =>
        cases hdg : isDig ((⟨u.toArray⟩ : ByteArray)[k]'(by rw [st_size]; exact h1)) with
        | true =>
          have HL := hid hlw
          have HD := hid hdg
          have hnk : k < nmLen u := by
            unfold isNm at hnm
            rw [hdg, Bool.or_true] at hnm
            exact of_decide_eq_true hnm.symm
          clear hnm hlw hdg hb
          go_wp2_with (first
            | (go_at_call 46; (with_reducible refine (lowR_any _ w1).mono ?_); rintro e w2 ⟨rfl, hw⟩; subst w2; rw [HL.out])
            | (go_at_call 47; (with_reducible refine (digR_any _ w1).mono ?_); rintro e w2 ⟨rfl, hw⟩; subst w2; rw [HD.out]))
          go_roundw
          case rel => exact ⟨trivial, k + 1, by go_num, by omega⟩
          case measure => simp [intOf]; omega
        | false =>
          have HL := hid hlw
          have HD := hid hdg
          have hnk : k = nmLen u := by
            unfold isNm at hnm
            rw [hlw, hdg] at hnm
            have := of_decide_eq_false hnm.symm
            omega
          have HET := hid (show (⟨u.toArray⟩ : ByteArray).extract 0 k = ⟨(nmOf s).toArray⟩ by rw [hnk]; exact ET.out)
          have HED := hid (show (⟨u.toArray⟩ : ByteArray).extract k u.length = ⟨(nmRest s).toArray⟩ by rw [hnk]; exact ED.out)
          have hkle : (k : Int) ≤ (u.length : Int) := by omega
          clear hnm hlw hdg hb hnk
          go_upto_region 7 with (first
            | (go_at_call 46; (with_reducible refine (lowR_any _ w1).mono ?_); rintro e w2 ⟨rfl, hw⟩; subst w2; rw [HL.out])
            | (go_at_call 47; (with_reducible refine (digR_any _ w1).mono ?_); rintro e w2 ⟨rfl, hw⟩; subst w2; rw [HD.out]))
          rw [HET.out, HED.out]
          have hn : LR (w1.setCell ⟨bl, 0, none⟩ (.string ⟨(nmRest s).toArray⟩)) bl (nmRest s) bad := (boxSet H1.out 0 _).trans (by simp)
          have hgr := HG.out.set 0 (.string ⟨(nmRest s).toArray⟩)
          generalize w1.setCell _ _ = w5 at hn hgr ⊢
          have HN := hid hn
          have HGR := hid hgr
          have HM5 := hid (HM.out.gr hgr hbl)
          clear hn hgr
          cases hgd : goodName (nmOf s) with
          | true =>
            have HGD := hid hgd
            clear hgd
            go_wp2_with (go_at_call 48; (with_reducible refine (nameR_any (nmOf s) HNL.out w5 HM5.out).mono ?_); rintro e w6 ⟨rfl, hw⟩; subst w6; rw [HGD.out])
            go_ret
            exact ⟨rfl, HGR.out, by rw [if_pos HGD.out]; exact HN.out⟩
          | false =>
            have HGD := hid hgd
            clear hgd
            go_wp2_with (first
              | (go_at_call 48; (with_reducible refine (nameR_any (nmOf s) HNL.out w5 HM5.out).mono ?_); rintro e w6 ⟨rfl, hw⟩; subst w6; rw [HGD.out])
              | (go_at_call 18; (with_reducible refine (failsR_any (nmRest s) bad 3 bl w5 HN.out).mono ?_); rintro e w7 ⟨rfl, h7, hg7⟩; have H7 := hid h7; have HG7 := hid hg7; clear h7 hg7))
            go_ret
            exact ⟨rfl, HGR.out.trans' HG7.out, by rw [if_neg (by rw [HGD.out]; simp)]; exact H7.out⟩
    · have hkI : ¬ ((k : Int) < (u.length : Int)) := by omega
      have hnk : k = nmLen u := by omega
      have HET := hid (show (⟨u.toArray⟩ : ByteArray).extract 0 k = ⟨(nmOf s).toArray⟩ by rw [hnk]; exact ET.out)
      have HED := hid (show (⟨u.toArray⟩ : ByteArray).extract k u.length = ⟨(nmRest s).toArray⟩ by rw [hnk]; exact ED.out)
      have hkle : (k : Int) ≤ (u.length : Int) := by omega
      have hk0 : (0 : Int) ≤ (k : Int) := by omega
      clear hnk hle hk h1
      go_upto_region 7 with fail
      rw [HET.out, HED.out]
      have hn : LR (w1.setCell ⟨bl, 0, none⟩ (.string ⟨(nmRest s).toArray⟩)) bl (nmRest s) bad := (boxSet H1.out 0 _).trans (by simp)
      have hgr := HG.out.set 0 (.string ⟨(nmRest s).toArray⟩)
      generalize w1.setCell _ _ = w5 at hn hgr ⊢
      have HN := hid hn
      have HGR := hid hgr
      have HM5 := hid (HM.out.gr hgr hbl)
      clear hn hgr
      cases hgd : goodName (nmOf s) with
      | true =>
        have HGD := hid hgd
        clear hgd
        go_wp2_with (go_at_call 48; (with_reducible refine (nameR_any (nmOf s) HNL.out w5 HM5.out).mono ?_); rintro e w6 ⟨rfl, hw⟩; subst w6; rw [HGD.out])
        go_ret
        exact ⟨rfl, HGR.out, by rw [if_pos HGD.out]; exact HN.out⟩
      | false =>
        have HGD := hid hgd
        clear hgd
        go_wp2_with (first
          | (go_at_call 48; (with_reducible refine (nameR_any (nmOf s) HNL.out w5 HM5.out).mono ?_); rintro e w6 ⟨rfl, hw⟩; subst w6; rw [HGD.out])
          | (go_at_call 18; (with_reducible refine (failsR_any (nmRest s) bad 3 bl w5 HN.out).mono ?_); rintro e w7 ⟨rfl, h7, hg7⟩; have H7 := hid h7; have HG7 := hid hg7; clear h7 hg7))
        go_ret
        exact ⟨rfl, HGR.out.trans' HG7.out, by rw [if_neg (by rw [HGD.out]; simp)]; exact H7.out⟩
end Go.Proofs.YtlaeflpddehipabGreatDoor
