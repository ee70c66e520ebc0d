/- image.reader.number, walked. -/
import Derived.Test.YtlaeflpddehipabDoorParsePlain
import Derived.Test.YtlaeflpddehipabDoorOpenAll
import Derived.Lib.MinMax
import Derived.IntWalk
set_option linter.unusedVariables false
namespace Go.Proofs.YtlaeflpddehipabDoor
open Go.RowKit

/-- The bytes of a string, as numbers. -/
def bl (s : ByteArray) : List Nat := s.data.toList.map UInt8.toNat
theorem bl_len (s : ByteArray) : (bl s).length = s.size := by
  unfold bl
  rw [List.length_map]
  exact Array.length_toList
theorem bl_bytes (s : ByteArray) : AllBytes (bl s) := by
  intro x hx
  obtain ⟨b, _, rfl⟩ := List.mem_map.1 hx
  exact b.toNat_lt

theorem or_nat (x y : Nat) (hx : x < 4611686018427387904) (hy : y < 4611686018427387904) : bits .or .i64 (x : Int) (y : Int) = ((x ||| y : Nat) : Int) := by
  have ha : (BitVec.ofInt 64 (x : Int)).toNat = x := by rw [ofInt_toNat]; omega
  have hb : (BitVec.ofInt 64 (y : Int)).toNat = y := by rw [ofInt_toNat]; omega
  rw [or_def, BitVec.toNat_or, ha, hb]
  have h : x ||| y < 2 ^ 62 := Nat.or_lt_two_pow (by omega) (by omega)
  exact wrap_nat _ (by omega)
theorem and_byte : ∀ x : Fin 256, bits .and .u8 (x.val : Int) 127 = ((x.val % 128 : Nat) : Int) := by decide +kernel
theorem num_step (i acc c : Nat) (hi : i < 4) (ha : acc < 128 ^ i) (hc : c < 256) : bits .or .i64 (acc : Int) (wrap64 (wrap64 (bits .and .u8 (c : Int) 127) * 2 ^ (7 * i))) = ((acc + c % 128 * 128 ^ i : Nat) : Int) := by
  rw [and_byte ⟨c, hc⟩]
  have hm : c % 128 < 128 := Nat.mod_lt _ (by omega)
  have hp : (128 : Nat) ^ i = 2 ^ (7 * i) := by rw [Nat.pow_mul]
  have hpl : (2 : Nat) ^ (7 * i) ≤ 2 ^ 21 := Nat.pow_le_pow_right (by omega) (by omega)
  have w1 : wrap64 ((c % 128 : Nat) : Int) = ((c % 128 : Nat) : Int) := IntWalk.wrap64_in _ ⟨by omega, by omega⟩
  have hb : c % 128 * 2 ^ (7 * i) < 2 ^ 28 := by
    have : c % 128 * 2 ^ (7 * i) ≤ 127 * 2 ^ 21 := Nat.mul_le_mul (by omega) hpl
    omega
  have e : ((c % 128 : Nat) : Int) * 2 ^ (7 * i) = ((c % 128 * 2 ^ (7 * i) : Nat) : Int) := by simp
  have w2 : wrap64 ((c % 128 * 2 ^ (7 * i) : Nat) : Int) = ((c % 128 * 2 ^ (7 * i) : Nat) : Int) := IntWalk.wrap64_in _ ⟨by omega, by omega⟩
  rw [w1, e, w2]
  have hacc : acc < 2 ^ (7 * i) := by rw [← hp]; exact ha
  rw [or_nat acc _ (by omega) (by omega), hp]
  have h := Nat.two_pow_add_eq_or_of_lt hacc (c % 128)
  rw [Nat.or_comm, Nat.mul_comm (c % 128), ← h, Nat.add_comm]

theorem bl_drop (s : ByteArray) (i : Nat) (h : i < s.size) : (bl s).drop i = s[i].toNat :: (bl s).drop (i + 1) := by
  have hl : i < (bl s).length := by rw [bl_len]; exact h
  rw [List.drop_eq_getElem_cons hl]
  congr 1
  simp [bl]
  rfl
theorem rd_done {s : ByteArray} {bad : Bool} {i acc : Nat} (hi : i < 4) (h : i < s.size) (hc : s[i].toNat < 128) (hr : rdTo 4 0 0 (bl s) = rdTo (4 - i) i acc ((bl s).drop i)) :
    rd (bl s, bad) = (acc + s[i].toNat % 128 * 128 ^ i, (bl s).drop (i + 1), bad || (decide (0 < i) && decide (s[i].toNat = 0))) := by
  obtain ⟨f, hf⟩ : ∃ f, 4 - i = f + 1 := ⟨3 - i, by omega⟩
  unfold rd
  simp only
  rw [hr, bl_drop s i h, hf]
  unfold rdTo
  rw [if_pos hc, Nat.mod_eq_of_lt hc]
theorem rd_more {s : ByteArray} {i acc : Nat} (hi : i < 4) (h : i < s.size) (hc : ¬ s[i].toNat < 128) (hr : rdTo 4 0 0 (bl s) = rdTo (4 - i) i acc ((bl s).drop i)) :
    rdTo 4 0 0 (bl s) = rdTo (4 - (i + 1)) (i + 1) (acc + s[i].toNat % 128 * 128 ^ i) ((bl s).drop (i + 1)) := by
  obtain ⟨f, hf⟩ : ∃ f, 4 - i = f + 1 := ⟨3 - i, by omega⟩
  have hf' : 4 - (i + 1) = f := by omega
  rw [hr, bl_drop s i h, hf, hf']
  conv => lhs; unfold rdTo
  rw [if_neg hc]
theorem rd_end {s : ByteArray} {bad : Bool} {m acc : Nat} (hm : m = min s.size 4) (hr : rdTo 4 0 0 (bl s) = rdTo (4 - m) m acc ((bl s).drop m)) : rd (bl s, bad) = (0, [], true) := by
  unfold rd
  simp only
  have e : rdTo (4 - m) m acc ((bl s).drop m) = none := by
    by_cases h4 : m = 4
    · subst h4; rfl
    · have hd : (bl s).drop m = [] := List.drop_eq_nil_of_le (by rw [bl_len]; omega)
      obtain ⟨f, hf⟩ : ∃ f, 4 - m = f + 1 := ⟨3 - m, by omega⟩
      rw [hd, hf]
      rfl
  rw [hr, e]
theorem bl_extract (s : ByteArray) (i : Nat) : bl (s.extract i s.size) = (bl s).drop i := by
  unfold bl
  rw [← List.map_drop]
  congr 1
  rw [ByteArray.data_extract, Array.toList_extract, List.extract_eq_take_drop]
  exact List.take_of_length_le (by rw [List.length_drop, Array.length_toList]; exact Nat.le_refl _)

/-- What a reader's call leaves. -/
def RdPost (br : Nat) (r : Nat × Rd) (n : Nat) (w : World) (e : Ending) (w' : World) : Prop :=
  ∃ s', e = .returned (.int .i64 (r.1 : Nat)) ∧ bl s' = r.2.1 ∧ w'.heap[br]? = some (.cells #[.string s', .bool r.2.2] 105 (0, 0)) ∧ w.grownBy w' (some br) ∧ s'.size ≤ n
theorem set_two {w : World} {br : Nat} {x y : Value} {T : Nat} (h : w.heap[br]? = some (.cells #[x, y] T (0, 0))) (x' y' : Value) :
    ((w.setCell ⟨br, 1, none⟩ y').setCell ⟨br, 0, none⟩ x').heap[br]? = some (.cells #[x', y'] T (0, 0)) ∧ w.grownBy ((w.setCell ⟨br, 1, none⟩ y').setCell ⟨br, 0, none⟩ x') (some br) := by
  have h1 := heap_setCell_same w br 1 _ _ y' h
  have h2 := heap_setCell_same (w.setCell ⟨br, 1, none⟩ y') br 0 _ _ x' h1
  refine ⟨by rw [h2]; simp, rfl, rfl, rfl, by simp [World.setCell], fun k hk hne => ?_⟩
  have hk' : k ≠ br := fun e => hne (by rw [e])
  rw [heap_setCell_other _ _ _ _ hk', heap_setCell_other _ _ _ _ hk']

set_option maxRecDepth 100000 in
set_option maxHeartbeats 1600000 in
theorem number_rd (br : Nat) (s : ByteArray) (bad : Bool) (w : World) (h : w.heap[br]? = some (.cells #[.string s, .bool bad] 105 (0, 0))) (hlen : s.size ≤ 1000000) :
    Calls Tryd.prog 45 #[.pointer (some ⟨br, 0, none⟩)] w (RdPost br (rd (bl s, bad)) s.size w) := by
  have c0 := cell_block h 0
  have c1 := cell_block h 1
  simp only [List.getElem?_toArray, List.getElem?_cons_succ, List.getElem?_cons_zero] at c0 c1
  have hf := free_block h
  have hz := (lt_of_cell c0).1
  have H := hid h
  clear h
  go_enter Tryd.func45, Tryd.ntmps45
  have hm : ∃ m : Nat, m ≤ 4 ∧ m = min s.size 4 := ⟨_, by omega, rfl⟩
  obtain ⟨m, hm4, hmm⟩ := hm
  have hmin : min (s.size : Int) 4 = (m : Int) := by omega
  have HMM := hid hmm
  have hms : m ≤ s.size := by omega
  clear hmm
  go_wp2
  clear hmin
  go_loopw [3, 12] (fun s3 s12 wr => ∃ i acc : Nat, i ≤ m ∧ s12 = .int .i64 i ∧ s3 = .int .i64 acc ∧ acc < 128 ^ i ∧ wr = w ∧ rdTo 4 0 0 (bl s) = rdTo (4 - i) i acc ((bl s).drop i)) (fun _ s12 _ => m - (intOf s12).toNat)
  case atStart => exact ⟨0, 0, Nat.zero_le _, rfl, rfl, by decide, rfl, by simp⟩
  case round =>
    obtain ⟨i, acc, hi, rfl, rfl, hacc, rfl, hrd⟩ := hrel
    have HACC := hid hacc
    have HRD := hid hrd
    clear hacc hrd
    by_cases hlt : i < m
    · have hltI : (i : Int) < (m : Int) := by omega
      have hi0 : (0 : Int) ≤ (i : Int) := by omega
      have his : i < s.size := by omega
      have hisI : (i : Int) < (s.size : Int) := by omega
      have h4 : i = 0 ∨ i = 1 ∨ i = 2 ∨ i = 3 := by omega
      go_upto_region 7 with fail
      have hc256 := s[i].toNat_lt
      rw [num_step i acc s[i].toNat (by omega) HACC.out hc256]
      have hstep : acc + s[i].toNat % 128 * 128 ^ i < 128 ^ (i + 1) := by
        have h1 := HACC.out
        have h2 := Nat.mod_lt s[i].toNat (show 128 > 0 by omega)
        have h3 : s[i].toNat % 128 * 128 ^ i ≤ 127 * 128 ^ i := Nat.mul_le_mul_right _ (by omega)
        rw [Nat.pow_succ]
        omega
      by_cases hc : s[i].toNat < 128
      · have hD := hid (rd_done (bad := bad) (by omega) his hc HRD.out)
        have hE := hid (bl_extract s (i + 1))
        generalize acc + s[i].toNat % 128 * 128 ^ i = acc' at *
        generalize s[i].toNat = c at *
        have hcI : (c : Int) < 128 := by omega
        clear hstep
        have hsx : (s.extract (i + 1) s.size).size ≤ s.size := by rw [ByteArray.size_extract]; omega
        have HSX := hid hsx
        clear hsx
        cases bad
        · by_cases h0 : i = 0
          · subst h0
            have e0 : (false || (decide (0 < 0) && decide (c = 0))) = false := by simp
            have E0 := hid e0
            clear e0
            go_wp2
            go_ret
            obtain ⟨p1, p2⟩ := set_two H.out (.string (s.extract (0 + 1) s.size)) (.bool false)
            exact ⟨_, ret_int (by rw [hD.out]), by rw [hD.out]; exact hE.out, (by rw [hD.out]; exact p1), p2, HSX.out⟩
          · have h0I : (0 : Int) < (i : Int) := by omega
            have e0 : (false || (decide (0 < i) && decide (c = 0))) = ((c : Int) == 0) := by
              by_cases hcz : c = 0
              · subst hcz; simp; omega
              · have : ((c : Int) == 0) = false := beq_eq_false_iff_ne.2 (by omega)
                rw [this]; simp [hcz]
            have E0 := hid e0
            clear h0 e0
            go_wp2
            go_ret
            obtain ⟨p1, p2⟩ := set_two H.out (.string (s.extract (i + 1) s.size)) (.bool ((c : Int) == 0))
            exact ⟨_, ret_int (by rw [hD.out]), by rw [hD.out]; exact hE.out, (by rw [hD.out, E0.out]; exact p1), p2, HSX.out⟩
        · have e0 : (true || (decide (0 < i) && decide (c = 0))) = true := by simp
          have E0 := hid e0
          clear e0
          go_wp2
          go_ret
          obtain ⟨p1, p2⟩ := set_two H.out (.string (s.extract (i + 1) s.size)) (.bool true)
          exact ⟨_, ret_int (by rw [hD.out]), by rw [hD.out]; exact hE.out, (by rw [hD.out]; rw [E0.out]; exact p1), p2, HSX.out⟩
      · have hM := hid (rd_more (by omega) his hc HRD.out)
        have hcI : ¬ ((s[i].toNat : Int) < 128) := by omega
        have HST := hid hstep
        clear hstep
        generalize acc + s[i].toNat % 128 * 128 ^ i = acc' at *
        generalize s[i].toNat = c at *
        go_wp2
        go_roundw
        case rel => exact ⟨i + 1, acc', by omega, by go_num, rfl, HST.out, by first | trivial | rfl, hM.out⟩
        case measure => simp [intOf]; omega
    · obtain rfl : i = m := by omega
      have hD := hid (rd_end (bad := bad) HMM.out HRD.out)
      go_wp2
      go_ret
      obtain ⟨p1, p2⟩ := set_two H.out (.string ⟨#[]⟩) (.bool true)
      exact ⟨⟨#[]⟩, ret_int (by rw [hD.out]; rfl), by rw [hD.out]; rfl, by rw [hD.out]; exact p1, p2, Nat.zero_le _⟩
end Go.Proofs.YtlaeflpddehipabDoor
