/- The document's taker.num: plain, and walked. -/
import Derived.Test.YtlaeflpddehipabDoorReader
import Derived.Test.YtlaeflpddehipabDoorParsePlain
set_option linter.unusedVariables false
set_option linter.unusedSimpArgs false
namespace Go.Proofs.YtlaeflpddehipabDoor
open Go.RowKit
attribute [local go_sem ↓] Go.wp_at_zero Go.wp_at_succ

/-- A number, read byte by byte, fu at most; n so far, f what the next byte is worth. -/
def tkTo : Nat → Nat → Nat → List Nat → Option (Nat × List Nat)
  | 0, _, _, _ => none
  | _ + 1, _, _, [] => none
  | fu + 1, n, f, c :: q => if c < 128 then some (n + c % 128 * f, q) else tkTo fu (n + c % 128 * f) (f * 128) q
def tk (most : Nat) (st : Rd) : Nat × Rd :=
  match tkTo 6 0 1 st.1 with
  | some (n, q) => (n, q, st.2 || decide (most < n))
  | none => (0, st.1, true)
theorem tkTo_numTo (g : Nat) : ∀ (fu n f k : Nat) (q : List Nat), k < 128 ^ (g + 1) → g + 1 ≤ fu → tkTo fu n f (numTo g k ++ q) = some (n + k * f, q) := by
  induction g with
  | zero =>
    intro fu n f k q hk hf
    obtain ⟨fu', rfl⟩ : ∃ z, fu = z + 1 := ⟨fu - 1, by omega⟩
    have hk' : k < 128 := by simpa using hk
    show (if k < 128 then some (n + k % 128 * f, q) else _) = _
    rw [if_pos hk', Nat.mod_eq_of_lt hk']
  | succ g ih =>
    intro fu n f k q hk hf
    obtain ⟨fu', rfl⟩ : ∃ z, fu = z + 1 := ⟨fu - 1, by omega⟩
    unfold numTo
    by_cases h : 128 ≤ k
    · rw [if_pos h]
      show (if k % 128 + 128 < 128 then _ else tkTo fu' (n + (k % 128 + 128) % 128 * f) (f * 128) (numTo g (k / 128) ++ q)) = _
      rw [if_neg (by omega), ih fu' _ _ _ q (by rw [Nat.pow_succ] at hk; omega) (by omega)]
      have e1 : (k % 128 + 128) % 128 = k % 128 := by omega
      have e2 : k % 128 * f + k / 128 * (f * 128) = k * f := by
        have h1 := Nat.mod_add_div k 128
        have h2 : k / 128 * (f * 128) = 128 * (k / 128) * f := by rw [Nat.mul_comm f 128, ← Nat.mul_assoc, Nat.mul_comm (k / 128) 128]
        rw [h2, ← Nat.add_mul, h1]
      rw [e1, Nat.add_assoc, e2]
    · rw [if_neg h]
      have hk' : k < 128 := by omega
      show (if k < 128 then some (n + k % 128 * f, q) else _) = _
      rw [if_pos hk', Nat.mod_eq_of_lt hk']
theorem tk_numB (most n : Nat) (h : n < 268435456) (hm : n ≤ most) (q : List Nat) : tk most (numB n ++ q, false) = (n, q, false) := by
  unfold tk numB
  simp only
  rw [tkTo_numTo 4 6 0 1 n q (by have : (128 : Nat) ^ 5 = 34359738368 := by decide
                                 omega) (by omega)]
  simp
  omega
theorem tk_done {s : ByteArray} {bad : Bool} {i acc : Nat} {most : Nat} (hi : i < 6) (h : i < s.size) (hc : s[i].toNat < 128) (hr : tkTo 6 0 1 (bl s) = tkTo (6 - i) acc (128 ^ i) ((bl s).drop i)) :
    tk most (bl s, bad) = (acc + s[i].toNat % 128 * 128 ^ i, (bl s).drop (i + 1), bad || decide (most < acc + s[i].toNat % 128 * 128 ^ i)) := by
  obtain ⟨f, hf⟩ : ∃ f, 6 - i = f + 1 := ⟨5 - i, by omega⟩
  unfold tk
  simp only
  rw [hr, bl_drop s i h, hf]
  unfold tkTo
  rw [if_pos hc]
theorem tk_more {s : ByteArray} {i acc : Nat} (hi : i < 6) (h : i < s.size) (hc : ¬ s[i].toNat < 128) (hr : tkTo 6 0 1 (bl s) = tkTo (6 - i) acc (128 ^ i) ((bl s).drop i)) :
    tkTo 6 0 1 (bl s) = tkTo (6 - (i + 1)) (acc + s[i].toNat % 128 * 128 ^ i) (128 ^ (i + 1)) ((bl s).drop (i + 1)) := by
  obtain ⟨f, hf⟩ : ∃ f, 6 - i = f + 1 := ⟨5 - i, by omega⟩
  have hf' : 6 - (i + 1) = f := by omega
  rw [hr, bl_drop s i h, hf, hf', Nat.pow_succ]
  conv => lhs; unfold tkTo
  rw [if_neg hc]
theorem tk_end {s : ByteArray} {bad : Bool} {i acc most : Nat} (hi : i ≤ 6) (h : s.size ≤ i ∨ i = 6) (hr : tkTo 6 0 1 (bl s) = tkTo (6 - i) acc (128 ^ i) ((bl s).drop i)) : tk most (bl s, bad) = (0, bl s, true) := by
  unfold tk
  simp only
  have e : tkTo (6 - i) acc (128 ^ i) ((bl s).drop i) = none := by
    by_cases h6 : i = 6
    · subst h6; rfl
    · have hd : (bl s).drop i = [] := List.drop_eq_nil_of_le (by rw [bl_len]; omega)
      obtain ⟨f, hf⟩ : ∃ f, 6 - i = f + 1 := ⟨5 - i, by omega⟩
      rw [hd, hf]
      rfl
  rw [hr, e]
theorem tkTo_lt : ∀ (fu i n : Nat) (s : List Nat) (m : Nat) (q : List Nat), n < 128 ^ i → tkTo fu n (128 ^ i) s = some (m, q) → m < 128 ^ (i + fu) := by
  intro fu
  induction fu with
  | zero => intro i n s m q _ h; cases h
  | succ fu ih =>
    intro i n s m q hn h
    cases s with
    | nil => cases h
    | cons c s =>
      have hb : n + c % 128 * 128 ^ i < 128 ^ (i + 1) := by
        have h2 := Nat.mod_lt c (show 128 > 0 by omega)
        have h3 : c % 128 * 128 ^ i ≤ 127 * 128 ^ i := Nat.mul_le_mul_right _ (by omega)
        rw [Nat.pow_succ]
        omega
      unfold tkTo at h
      by_cases hc : c < 128
      · rw [if_pos hc] at h
        cases h
        exact Nat.lt_of_lt_of_le hb (Nat.pow_le_pow_right (by omega) (by omega))
      · rw [if_neg hc, ← Nat.pow_succ] at h
        have := ih (i + 1) _ _ _ _ hb h
        rw [show i + (fu + 1) = i + 1 + fu by omega]
        exact this
theorem tk_lt (most : Nat) (st : Rd) : (tk most st).1 < 4398046511104 := by
  unfold tk
  cases h : tkTo 6 0 1 st.1 with
  | none => show (0 : Nat) < _; decide
  | some p =>
    obtain ⟨n, q⟩ := p
    have := tkTo_lt 6 0 0 st.1 n q (by decide) h
    simpa using this
theorem tk_step (acc c p : Nat) (hc : c < 256) (hp : p ≤ 34359738368) (ha : acc < p) : wrap64 ((acc : Int) + wrap64 ((c : Int) % 128 * (p : Int))) = ((acc + c % 128 * p : Nat) : Int) ∧ wrap64 ((p : Int) * 128) = ((p * 128 : Nat) : Int) ∧ acc + c % 128 * p < p * 128 := by
  have h1 : c % 128 * p ≤ 127 * p := Nat.mul_le_mul_right _ (by have := Nat.mod_lt c (show 128 > 0 by omega); omega)
  have e1 : ((c : Int) % 128 * (p : Int)) = ((c % 128 * p : Nat) : Int) := by push_cast; rfl
  generalize c % 128 * p = m at h1 e1
  have w1 : wrap64 (m : Int) = (m : Int) := IntWalk.wrap64_in _ ⟨by omega, by omega⟩
  have w2 : wrap64 ((acc : Int) + (m : Int)) = (acc : Int) + (m : Int) := IntWalk.wrap64_in _ ⟨by omega, by omega⟩
  have w3 : wrap64 ((p : Int) * 128) = (p : Int) * 128 := IntWalk.wrap64_in _ ⟨by omega, by omega⟩
  rw [e1, w1, w2, w3]
  exact ⟨by omega, by omega, by omega⟩
theorem pow_five {i : Nat} (h : i < 6) : 128 ^ i ≤ 34359738368 := Nat.le_trans (Nat.pow_le_pow_right (n := 128) (by omega) (show i ≤ 5 by omega)) (by decide)
/-- What a taker's call leaves. -/
def TkPost (br : Nat) (r : Nat × Rd) (n : Nat) (w : World) (e : Ending) (w' : World) : Prop :=
  ∃ s', e = .returned (.int .i64 (r.1 : Nat)) ∧ bl s' = r.2.1 ∧ w'.heap[br]? = some (.cells #[.string s', .bool r.2.2] 101 (0, 0)) ∧ w.grownBy w' (some br) ∧ s'.size ≤ n
theorem set_one {w : World} {br j : Nat} {cs : Array Value} {T : Nat} (h : w.heap[br]? = some (.cells cs T (0, 0))) (u : Value) :
    (w.setCell ⟨br, j, none⟩ u).heap[br]? = some (.cells (cs.setIfInBounds j u) T (0, 0)) ∧ w.grownBy (w.setCell ⟨br, j, none⟩ u) (some br) := by
  refine ⟨heap_setCell_same w br j _ _ _ h, rfl, rfl, rfl, by simp [World.setCell], fun k hk hne => heap_setCell_other _ _ _ _ (fun e => hne (by rw [e]))⟩
set_option maxRecDepth 100000 in
set_option maxHeartbeats 1600000 in
theorem num_tk (br most : Nat) (s : ByteArray) (bad : Bool) (w : World) (h : w.heap[br]? = some (.cells #[.string s, .bool bad] 101 (0, 0))) (hlen : s.size ≤ 1000000) :
    Calls Tryd.prog 44 #[.pointer (some ⟨br, 0, none⟩), .int .i64 (most : Int)] w (TkPost br (tk most (bl s, bad)) s.size w) := by
  have c0 := cell_block h 0
  have c1 := cell_block h 1
  simp only [List.getElem?_toArray, List.getElem?_cons_succ, List.getElem?_cons_zero] at c0 c1
  have hf := free_block h
  have hz := (lt_of_cell c0).1
  have H := hid h
  clear h
  go_enter Tryd.func44, Tryd.ntmps44
  go_wp2_with fail
  go_loopw [5, 6, 7] (fun s5 s6 s7 wr => ∃ i acc : Nat, i ≤ 6 ∧ i ≤ s.size ∧ s7 = .int .i64 i ∧ s5 = .int .i64 acc ∧ s6 = .int .i64 ((128 ^ i : Nat) : Int) ∧ acc < 128 ^ i ∧ w = wr ∧ tkTo 6 0 1 (bl s) = tkTo (6 - i) acc (128 ^ i) ((bl s).drop i)) (fun _ _ s7 _ => 6 - (intOf s7).toNat)
  case atStart => exact ⟨0, 0, Nat.zero_le _, Nat.zero_le _, rfl, rfl, rfl, by decide, rfl, by simp⟩
  case round =>
    obtain ⟨i, acc, hi, hisz, rfl, rfl, rfl, hacc, rfl, hrd⟩ := hrel
    have HACC := hid hacc
    have HRD := hid hrd
    clear hrd
    by_cases his : i < s.size
    · have hisI : (i : Int) < (s.size : Int) := by omega
      by_cases h6 : i < 6
      · have h6I : (i : Int) < 6 := by omega
        have hc256 := s[i].toNat_lt
        have hp5 := pow_five h6
        have HPS : Hid (128 ^ (i + 1) = 128 ^ i * 128) := Nat.pow_succ 128 i
        have TD : Hid (s[i].toNat < 128 → tk most (bl s, bad) = (acc + s[i].toNat % 128 * 128 ^ i, (bl s).drop (i + 1), bad || decide (most < acc + s[i].toNat % 128 * 128 ^ i))) := fun hc => tk_done h6 his hc HRD.out
        have TM : Hid (¬ s[i].toNat < 128 → tkTo 6 0 1 (bl s) = tkTo (6 - (i + 1)) (acc + s[i].toNat % 128 * 128 ^ i) (128 ^ (i + 1)) ((bl s).drop (i + 1))) := fun hc => tk_more h6 his hc HRD.out
        have HNX : Hid (128 ^ (i + 1) = 128 ^ (i + 1)) := rfl
        clear HRD
        generalize hpw : 128 ^ i = p at *
        obtain ⟨w2, w3, hstep⟩ := tk_step acc s[i].toNat p hc256 hp5 hacc
        have HW2 := hid w2
        have HW3 := hid w3
        have HSTEP := hid hstep
        clear w2 w3 hstep hpw HACC hacc
        go_upto_region 8 with fail
        rw [HW2.out]
        (try rw [HW3.out])
        by_cases hc : s[i].toNat < 128
        · have hD := hid (TD.out hc)
          have hE := hid (bl_extract s (i + 1))
          have hsx : (s.extract (i + 1) s.size).size ≤ s.size := by rw [ByteArray.size_extract]; omega
          have HSX := hid hsx
          have hb' : acc + s[i].toNat % 128 * p < 4398046511104 := by have := HSTEP.out; omega
          clear hsx HW2 HW3 HPS TD TM HSTEP
          generalize acc + s[i].toNat % 128 * p = acc' at *
          generalize s[i].toNat = c at *
          generalize ((p : Int) * 128) = pf
          have hcI : (c : Int) < 128 := by omega
          obtain ⟨p1, g1⟩ := set_one H.out (j := 0) (.string (s.extract (i + 1) s.size))
          have hn1 : IntKind.i64.wrap ((i : Int) + 1) = ((i + 1 : Nat) : Int) := by rw [IntKind.wrap_i64]; omega
          by_cases hm : most < acc'
          · have hmI : (most : Int) < (acc' : Int) := by omega
            obtain ⟨p2, g2⟩ := set_one p1 (j := 1) (.bool true)
            have P2 := hid p2
            have G2 := hid (g1.trans g2)
            have BD : Hid ((bad || decide (most < acc')) = true) := by unfold Hid; simp [hm]
            clear p1 p2 g1 g2 hm
            go_wp2_with fail
            go_ret
            exact ⟨_, ret_int (by rw [hD.out]), by rw [hD.out]; exact hE.out, (by rw [hD.out]; simp only; rw [BD.out]; simpa using P2.out), G2.out, HSX.out⟩
          · have hmI : decide ((most : Int) < (acc' : Int)) = false := decide_eq_false (by omega)
            have P1 := hid p1
            have G1 := hid g1
            have BD : Hid ((bad || decide (most < acc')) = bad) := by unfold Hid; simp [hm]
            clear p1 g1
            go_wp2_with fail
            go_ret
            exact ⟨_, ret_int (by rw [hD.out]), by rw [hD.out]; exact hE.out, (by rw [hD.out]; simp only; rw [BD.out]; simpa using P1.out), G1.out, HSX.out⟩
        · have hM := hid (TM.out hc)
          have hcI : ¬ ((s[i].toNat : Int) < 128) := by omega
          clear HW2 HW3 TD TM
          generalize acc + s[i].toNat % 128 * p = acc' at *
          generalize s[i].toNat = c at *
          go_wp2_with fail
          go_roundw
          case rel => exact ⟨i + 1, acc', by omega, by omega, by go_num, rfl, val_int (by rw [HPS.out]; push_cast; rfl), by rw [HPS.out]; exact HSTEP.out, trivial, hM.out⟩
          case measure => simp [intOf]; omega
      · have d6 : decide ((i : Int) < 6) = false := decide_eq_false (by omega)
        have hD := hid (tk_end (bad := bad) (most := most) hi (.inr (by omega)) HRD.out)
        obtain ⟨p1, g1⟩ := set_one H.out (j := 1) (.bool true)
        have P1 := hid p1
        have G1 := hid g1
        clear p1 g1 hacc HACC HRD
        generalize ((128 ^ i : Nat) : Int) = pf
        go_wp2_with fail
        go_ret
        exact ⟨s, ret_int (by rw [hD.out]; rfl), by rw [hD.out], by rw [hD.out]; simpa using P1.out, G1.out, Nat.le_refl _⟩
    · have ds : decide ((i : Int) < (s.size : Int)) = false := decide_eq_false (by omega)
      have hD := hid (tk_end (bad := bad) (most := most) hi (.inl (by omega)) HRD.out)
      obtain ⟨p1, g1⟩ := set_one H.out (j := 1) (.bool true)
      have P1 := hid p1
      have G1 := hid g1
      clear p1 g1 hacc HACC HRD
      generalize ((128 ^ i : Nat) : Int) = pf
      go_wp2_with fail
      go_ret
      exact ⟨s, ret_int (by rw [hD.out]; rfl), by rw [hD.out], by rw [hD.out]; simpa using P1.out, G1.out, Nat.le_refl _⟩
end Go.Proofs.YtlaeflpddehipabDoor
