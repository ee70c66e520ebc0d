/- What the document's package answers of bits and bytes is what package value answers: in plain words. -/
import Derived.Test.YtlaeflpddehipaaLaws
import Derived.Lib.IndexMore
import Derived.Lib.IndexLaws
import Derived.Lib.Index
set_option linter.unusedVariables false
namespace Go.Proofs.Ytlaeflpddehipaa
open Go.RowKit

/-! ### a number's last bits -/
theorem cut_ref (k n : Int) : (if n.tmod (2 ^ (vwidth k).toNat) < 0 then n.tmod (2 ^ (vwidth k).toNat) + 2 ^ (vwidth k).toNat else n.tmod (2 ^ (vwidth k).toNat)) = vcut k n := by
  unfold vcut
  have hp : (0 : Int) < 2 ^ (vwidth k).toNat := Int.pow_pos (by omega)
  generalize (2 : Int) ^ (vwidth k).toNat = m at *
  have h1 := Int.tmod_eq_emod (a := n) (b := m)
  have h2 := Int.emod_nonneg n (show m ≠ 0 by omega)
  have h3 := Int.emod_lt_of_pos n hp
  rw [h1]
  split
  · split at * <;> omega
  · split at * <;> omega

theorem turn_ref (k n : Int) : (2 : Int) ^ (vwidth k).toNat - 1 - vcut k n = vnot k n := by
  unfold vnot vcut vwidth
  split
  · show (2 : Int) ^ 1 - 1 - n % 2 ^ 1 = (-n - 1) % 2 ^ 1
    omega
  · split
    · show (2 : Int) ^ 8 - 1 - n % 2 ^ 8 = (-n - 1) % 2 ^ 8
      omega
    · show (2 : Int) ^ 0 - 1 - n % 2 ^ 0 = (-n - 1) % 2 ^ 0
      omega

/-! ### bits, one behind the other -/
theorem half_step (n : Int) (i : Nat) : n / 2 ^ i / 2 = n / 2 ^ (i + 1) := by
  rw [Int.pow_succ, Int.ediv_ediv_of_nonneg (Int.le_of_lt (Int.pow_pos (by omega)))]
theorem vbit_cut1 (n : Int) (i : Nat) (h : i < 1) : vbit (n % 2 ^ 1) i = vbit n i := by
  have : i = 0 := by omega
  subst this
  unfold vbit
  congr 2
  show n % 2 ^ 1 / 2 ^ 0 % 2 = n / 2 ^ 0 % 2
  omega
theorem vbit_cut8 (n : Int) (i : Nat) (h : i < 8) : vbit (n % 2 ^ 8) i = vbit n i := by
  unfold vbit
  congr 2
  match i, h with
  | 0, _ => show n % 2 ^ 8 / 2 ^ 0 % 2 = n / 2 ^ 0 % 2; omega
  | 1, _ => show n % 2 ^ 8 / 2 ^ 1 % 2 = n / 2 ^ 1 % 2; omega
  | 2, _ => show n % 2 ^ 8 / 2 ^ 2 % 2 = n / 2 ^ 2 % 2; omega
  | 3, _ => show n % 2 ^ 8 / 2 ^ 3 % 2 = n / 2 ^ 3 % 2; omega
  | 4, _ => show n % 2 ^ 8 / 2 ^ 4 % 2 = n / 2 ^ 4 % 2; omega
  | 5, _ => show n % 2 ^ 8 / 2 ^ 5 % 2 = n / 2 ^ 5 % 2; omega
  | 6, _ => show n % 2 ^ 8 / 2 ^ 6 % 2 = n / 2 ^ 6 % 2; omega
  | 7, _ => show n % 2 ^ 8 / 2 ^ 7 % 2 = n / 2 ^ 7 % 2; omega
theorem vbit_cut (k n : Int) (i : Nat) (h : i < (vwidth k).toNat) : vbit (vcut k n) i = vbit n i := by
  unfold vcut
  unfold vwidth at h ⊢
  split at h
  · rename_i h1
    rw [if_pos h1]
    exact vbit_cut1 n i h
  · rename_i h1
    rw [if_neg h1]
    split at h
    · rename_i h2
      rw [if_pos h2]
      exact vbit_cut8 n i h
    · exact absurd h (by simp)

/-! ### two -/
/-- The bits of a mark of two, the first j of them. -/
def mix (o : Nat) (x y : Bool) : Bool := match o with | 1 => x && y | 2 => x || y | _ => x != y
def mixTo (o : Nat) (a b : Int) (j : Nat) : List Bool := (List.range j).map fun i => mix o (vbit a i) (vbit b i)
theorem mixTo_succ (o : Nat) (a b : Int) (j : Nat) : mixTo o a b (j + 1) = mixTo o a b j ++ [mix o (vbit a j) (vbit b j)] := by
  unfold mixTo
  rw [List.range_succ, List.map_append]
  rfl
theorem vbit_nb {d : Nat} (x : BitVec d) (i : Nat) : vbit (nb x) i = x.getLsbD i := by
  unfold vbit nb BitVec.getLsbD
  rw [Nat.testBit_eq_decide_div_mod_eq]
  have e : ((x.toNat : Nat) : Int) / 2 ^ i % 2 = ((x.toNat / 2 ^ i % 2 : Nat) : Int) := by simp
  rw [e]
  by_cases h : x.toNat / 2 ^ i % 2 = 1
  · simp [h]
  · rw [decide_eq_false h, decide_eq_false (by omega)]
theorem fits_width {k : Int} {d : Nat} (h : Fits k d) : (vwidth k).toNat = d := by
  rcases h with ⟨rfl, rfl⟩ | ⟨rfl, rfl⟩ <;> rfl
theorem mix_nb {k : Int} {d : Nat} (h : Fits k d) (o : Nat) (a b : Int) (z : BitVec d) (hz : ∀ i, i < d → z.getLsbD i = mix o ((BitVec.ofInt d a).getLsbD i) ((BitVec.ofInt d b).getLsbD i)) : vof (mixTo o a b d) = nb z := by
  have e : mixTo o a b d = vbits k (nb z) := by
    unfold mixTo vbits
    rw [fits_width h]
    apply List.map_congr_left
    intro i hi
    have hi' : i < d := by simpa using hi
    rw [vbit_nb, hz i hi']
    have ha : vbit a i = (BitVec.ofInt d a).getLsbD i := by rw [← vbit_nb, ← vcut_nb h]; exact (vbit_cut k a i (by rw [fits_width h]; exact hi')).symm
    have hb : vbit b i = (BitVec.ofInt d b).getLsbD i := by rw [← vbit_nb, ← vcut_nb h]; exact (vbit_cut k b i (by rw [fits_width h]; exact hi')).symm
    rw [ha, hb]
  rw [e, bits_back h]
theorem fits_of {k : Int} (h : ¬ vwidth k = 0) : ∃ d, Fits k d := by
  unfold vwidth at h
  split at h
  · rename_i h1; exact ⟨1, .inl ⟨h1, rfl⟩⟩
  · split at h
    · rename_i h1; exact ⟨8, .inr ⟨h1, rfl⟩⟩
    · exact absurd rfl h
theorem two_mix (o : Nat) (ho : o = 1 ∨ o = 2 ∨ o = 3) (k a b : Int) (h : ¬ vwidth k = 0) : vof (mixTo o a b (vwidth k).toNat) = twoOf o k a b := by
  obtain ⟨d, hd⟩ := fits_of h
  rw [fits_width hd, twoOf_pos _ _ _ _ (res_ne hd o (by omega))]
  rcases ho with rfl | rfl | rfl
  · show _ = bits .and .i64 (vcut k a) (vcut k b)
    rw [vcut_nb hd, vcut_nb hd, and_nb hd]
    exact mix_nb hd 1 a b _ fun i _ => by simp [mix]
  · show _ = bits .or .i64 (vcut k a) (vcut k b)
    rw [vcut_nb hd, vcut_nb hd, or_nb hd]
    exact mix_nb hd 2 a b _ fun i _ => by simp [mix]
  · show _ = bits .xor .i64 (vcut k a) (vcut k b)
    rw [vcut_nb hd, vcut_nb hd, xor_nb hd]
    exact mix_nb hd 3 a b _ fun i _ => by simp [mix, BitVec.getLsbD_xor]

/-! ### which mark a text is: one of the words between blanks -/
def wordsL : List UInt8 := [32, 97, 110, 100, 32, 111, 114, 32, 120, 111, 114, 32]
def sameL : List UInt8 := [32, 61, 32, 60, 62, 32]
def bytesL : List UInt8 := [32, 60, 32, 60, 61, 32, 62, 32, 62, 61, 32]
theorem contains_occ {s sub : List UInt8} : Lib.contains s sub = true ↔ ∃ j, j ≤ s.length ∧ Lib.occAt s sub j = true := by
  unfold Lib.contains
  rw [decide_eq_true_eq]
  constructor
  · intro h
    apply Classical.byContradiction
    intro hn
    have := Lib.index_none (s := s) (sub := sub) fun j hj => by
      cases ho : Lib.occAt s sub j with
      | false => rfl
      | true => exact absurd ⟨j, by omega, ho⟩ hn
    omega
  · rintro ⟨j, hj, ho⟩
    apply Classical.byContradiction
    intro hn
    have hge := Lib.index_ge s sub
    have hm : Lib.index s sub = -1 := by omega
    -- the first place
    have : ∃ i, i ≤ j ∧ Lib.occAt s sub i = true ∧ ∀ i', i' < i → Lib.occAt s sub i' = false := by
      induction j using Nat.strongRecOn with
      | _ j ih =>
        by_cases hex : ∃ i, i < j ∧ Lib.occAt s sub i = true
        · obtain ⟨i, hi, ho'⟩ := hex
          obtain ⟨m, h1, h2, h3⟩ := ih i hi (by omega) ho'
          exact ⟨m, by omega, h2, h3⟩
        · refine ⟨j, Nat.le_refl _, ho, fun i' hi' => ?_⟩
          cases h : Lib.occAt s sub i' with
          | false => rfl
          | true => exact absurd ⟨i', hi', h⟩ hex
    obtain ⟨i, hi, h2, h3⟩ := this
    have := Lib.index_first (s := s) (sub := sub) (i := i) (by omega) h2 h3
    omega

/-- Has a list, between blanks, this word? -/
def hasB (L op : List UInt8) : Bool := !(op == []) && (!Lib.contains op [32] && Lib.contains L ([32] ++ op ++ [32]))
def wordAt (L : List UInt8) (i n : Nat) : List UInt8 := (L.drop (i + 1)).take n
theorem no_blank {op : List UInt8} (h : Lib.contains op [32] = false) : ∀ k : Nat, op[k]? ≠ some 32 := by
  intro k hk
  have hlt : k < op.length := by
    rcases Nat.lt_or_ge k op.length with h' | h'
    · exact h'
    · rw [List.getElem?_eq_none h'] at hk; cases hk
  have : Lib.contains op [32] = true := contains_occ.2 ⟨k, by omega, by
    unfold Lib.occAt
    rw [List.drop_eq_getElem_cons hlt]
    rw [List.getElem?_eq_getElem hlt] at hk
    simp only [Option.some.injEq] at hk
    rw [hk]
    simp [List.isPrefixOf]⟩
  rw [h] at this
  cases this
theorem has_word {L op : List UInt8} (h : hasB L op = true) : ∃ i n, i < L.length ∧ n < L.length ∧ 0 < n ∧ op = wordAt L i n ∧ L[i]? = some 32 ∧ L[i + 1 + n]? = some 32 ∧ (wordAt L i n).contains 32 = false := by
  unfold hasB at h
  simp only [Bool.and_eq_true, Bool.not_eq_true', beq_eq_false_iff_ne] at h
  obtain ⟨h1, h2, h3⟩ := h
  obtain ⟨i, hi, ho⟩ := contains_occ.1 h3
  unfold Lib.occAt at ho
  have hp := List.isPrefixOf_iff_prefix.1 ho
  obtain ⟨t, ht⟩ := hp
  have hlen : op.length + 2 + t.length = L.length - i := by
    have := congrArg List.length ht
    simp at this
    omega
  have hpos : 0 < op.length := by
    rcases Nat.eq_zero_or_pos op.length with h0 | h0
    · exact absurd (List.length_eq_zero_iff.1 h0) h1
    · exact h0
  have hg : ∀ k, L[i + k]? = ([32] ++ op ++ [32] ++ t)[k]? := by
    intro k
    rw [ht, List.getElem?_drop]
  have hw : wordAt L i op.length = op := by
    unfold wordAt
    have e : L.drop (i + 1) = op ++ [32] ++ t := by
      have : L.drop (i + 1) = (L.drop i).drop 1 := by rw [List.drop_drop]
      rw [this, ← ht]
      simp
    rw [e, List.append_assoc, List.take_left']
    rfl
  refine ⟨i, op.length, by omega, by omega, hpos, hw.symm, ?_, ?_, ?_⟩
  · have := hg 0
    simpa using this
  · rw [Nat.add_assoc, hg (1 + op.length)]
    have e : 1 + op.length = ([32] ++ op).length := by simp; omega
    rw [e]
    simp
  · rw [hw]
    cases hc : op.contains 32 with
    | false => rfl
    | true =>
      have := List.contains_iff_mem.1 hc
      obtain ⟨k, hk, he⟩ := List.mem_iff_getElem.1 this
      exact absurd (show op[k]? = some 32 by rw [List.getElem?_eq_getElem hk, he]) (no_blank h2 k)
def wordsOf (L : List UInt8) (ws : List (List UInt8)) : Bool :=
  (List.range L.length).all fun i => (List.range L.length).all fun n => !(decide (0 < n) && (L[i]? == some 32) && (L[i + 1 + n]? == some 32) && !(wordAt L i n).contains 32) || ws.contains (wordAt L i n)
theorem has_in {L : List UInt8} {ws : List (List UInt8)} (hw : wordsOf L ws = true) {op : List UInt8} (h : hasB L op = true) : op ∈ ws := by
  obtain ⟨i, n, hi, hn, h0, he, h1, h2, h3⟩ := has_word h
  unfold wordsOf at hw
  simp only [List.all_eq_true, List.mem_range] at hw
  have := hw i hi n hn
  simp only [h0, h1, h2, h3, decide_true, beq_self_eq_true, Bool.and_self, Bool.not_false, Bool.not_true, Bool.false_or] at this
  rw [he]
  exact List.contains_iff_mem.1 this
theorem words_ok : wordsOf wordsL [[97, 110, 100], [111, 114], [120, 111, 114]] = true := by decide +kernel
theorem same_ok : wordsOf sameL [[61], [60, 62]] = true := by decide +kernel
theorem bytes_ok : wordsOf bytesL [[60], [60, 61], [62], [62, 61]] = true := by decide +kernel
end Go.Proofs.Ytlaeflpddehipaa
