/- image.Parse, plain: what is read of bytes. -/
import Derived.Test.YtlaeflpddehipabDoorSmallPlain
set_option linter.unusedVariables false
namespace Go.Proofs.YtlaeflpddehipabDoor
open Go.RowKit

/-- What a reader holds: the bytes that are left, and whether something was bad. -/
abbrev Rd := List Nat × Bool
def rdTo : Nat → Nat → Nat → List Nat → Option (Nat × List Nat × Bool)
  | 0, _, _, _ => none
  | _ + 1, _, _, [] => none
  | f + 1, i, n, c :: s => if c < 128 then some (n + c * 128 ^ i, s, decide (0 < i) && decide (c = 0)) else rdTo f (i + 1) (n + c % 128 * 128 ^ i) s
def rd (st : Rd) : Nat × Rd :=
  match rdTo 4 0 0 st.1 with
  | some (n, s, z) => (n, s, st.2 || z)
  | none => (0, [], true)
def rdMany (st : Rd) : Nat × Rd := if 20000 < (rd st).1 ∨ (rd st).2.1.length < (rd st).1 then (0, (rd st).2.1, true) else rd st

theorem rdTo_some (f : Nat) : ∀ (i n : Nat) (s : List Nat) (m : Nat) (s' : List Nat) (z : Bool), AllBytes s → rdTo f i n s = some (m, s', z) →
    ∃ k, m = n + k * 128 ^ i ∧ k < 128 ^ f ∧ AllBytes s' ∧ (z = false → (1 ≤ i → 1 ≤ k) ∧ ∀ g, f ≤ g + 1 → s = numTo g k ++ s') := by
  induction f with
  | zero => intro i n s m s' z _ h; simp [rdTo] at h
  | succ f ih =>
    intro i n s m s' z hs h
    cases s with
    | nil => simp [rdTo] at h
    | cons c s =>
      have hc : c < 256 := hs c (by simp)
      have hs2 : AllBytes s := fun x hx => hs x (by simp [hx])
      unfold rdTo at h
      split at h
      · rename_i h1
        simp only [Option.some.injEq, Prod.mk.injEq] at h
        obtain ⟨rfl, rfl, rfl⟩ := h
        refine ⟨c, rfl, Nat.lt_of_lt_of_le h1 (Nat.le_trans (by omega : 128 ≤ 128 ^ 1) (Nat.pow_le_pow_right (by omega) (by omega))), hs2, fun hz => ⟨fun hi => ?_, fun g hg => ?_⟩⟩
        · simp at hz
          omega
        · rw [numTo_low g c h1]; rfl
      · rename_i h1
        obtain ⟨k, rfl, hk, hs', hz⟩ := ih (i + 1) _ s m s' z hs2 h
        refine ⟨c % 128 + 128 * k, ?_, ?_, hs', fun hzz => ⟨fun _ => ?_, fun g hg => ?_⟩⟩
        · rw [Nat.pow_succ, Nat.add_mul]
          have e : k * (128 ^ i * 128) = 128 * k * 128 ^ i := by rw [Nat.mul_comm (128 ^ i) 128, ← Nat.mul_assoc, Nat.mul_comm k 128]
          rw [e, Nat.add_assoc]
        · rw [Nat.pow_succ]
          have := Nat.mod_lt c (show 128 > 0 by omega)
          omega
        · have := (hz hzz).1 (by omega)
          omega
        · have h2 := (hz hzz).1 (by omega)
          obtain ⟨g', rfl⟩ : ∃ g', g = g' + 1 := by
            rcases Nat.eq_zero_or_pos g with h0 | h0
            · subst h0
              have : f = 0 := by omega
              subst this
              simp [rdTo] at h
            · exact ⟨g - 1, by omega⟩
          have h3 := (hz hzz).2 g' (by omega)
          rw [numTo_big g' _ (by omega), h3]
          have e1 : (c % 128 + 128 * k) % 128 + 128 = c := by omega
          have e2 : (c % 128 + 128 * k) / 128 = k := by omega
          rw [e1, e2]
          rfl

theorem rdTo_numTo (g : Nat) : ∀ (f i n k : Nat) (s : List Nat), k < 128 ^ (g + 1) → g + 1 ≤ f → (1 ≤ i → 1 ≤ k) → rdTo f i n (numTo g k ++ s) = some (n + k * 128 ^ i, s, false) := by
  induction g with
  | zero =>
    intro f i n k s hk hf hi
    obtain ⟨f', rfl⟩ : ∃ f', f = f' + 1 := ⟨f - 1, by omega⟩
    have hk' : k < 128 := by simpa using hk
    rw [numTo_low 0 k hk']
    show rdTo (f' + 1) i n (k :: s) = _
    unfold rdTo
    rw [if_pos hk']
    have : (decide (0 < i) && decide (k = 0)) = false := by
      by_cases h0 : 0 < i
      · have := hi h0
        simp; omega
      · simp [h0]
    rw [this]
  | succ g ih =>
    intro f i n k s hk hf hi
    obtain ⟨f', rfl⟩ : ∃ f', f = f' + 1 := ⟨f - 1, by omega⟩
    by_cases h1 : 128 ≤ k
    · rw [numTo_big g k h1]
      show rdTo (f' + 1) i n ((k % 128 + 128) :: (numTo g (k / 128) ++ s)) = _
      unfold rdTo
      rw [if_neg (by omega)]
      rw [ih f' (i + 1) _ (k / 128) s (by
        rw [Nat.pow_succ] at hk
        exact Nat.div_lt_of_lt_mul (by rw [Nat.mul_comm]; exact hk)) (by omega) (by omega)]
      congr 2
      rw [Nat.pow_succ]
      have e : k / 128 * (128 ^ i * 128) = 128 * (k / 128) * 128 ^ i := by rw [Nat.mul_comm (128 ^ i) 128, ← Nat.mul_assoc, Nat.mul_comm (k / 128) 128]
      have e2 : (k % 128 + 128) % 128 = k % 128 := by omega
      rw [e, e2, Nat.add_assoc, ← Nat.add_mul]
      have e3 : k % 128 + 128 * (k / 128) = k := by omega
      rw [e3]
    · rw [numTo_low (g + 1) k (by omega)]
      show rdTo (f' + 1) i n (k :: s) = _
      unfold rdTo
      rw [if_pos (by omega)]
      have : (decide (0 < i) && decide (k = 0)) = false := by
        by_cases h0 : 0 < i
        · have := hi h0
          simp; omega
        · simp [h0]
      rw [this]

/-- What was read well was written so. -/
theorem rd_good {s : List Nat} {b : Bool} (hs : AllBytes s) (h : (rd (s, b)).2.2 = false) : b = false ∧ s = numB (rd (s, b)).1 ++ (rd (s, b)).2.1 ∧ (rd (s, b)).1 < 268435456 ∧ AllBytes (rd (s, b)).2.1 := by
  unfold rd at h ⊢
  simp only at h ⊢
  cases hr : rdTo 4 0 0 s with
  | none => rw [hr] at h; simp at h
  | some t =>
    obtain ⟨n, s', z⟩ := t
    rw [hr] at h
    simp only [Bool.or_eq_false_iff] at h
    obtain ⟨k, hk1, hk2, hs', hz⟩ := rdTo_some 4 0 0 s n s' z hs hr
    have hk : n = k := by rw [hk1]; simp
    subst hk
    exact ⟨h.1, (hz h.2).2 4 (by omega), hk2, hs'⟩
theorem rd_bytes {s : List Nat} {b : Bool} (hs : AllBytes s) : AllBytes (rd (s, b)).2.1 := by
  unfold rd
  simp only
  cases hr : rdTo 4 0 0 s with
  | none => intro x hx; simp at hx
  | some t =>
    obtain ⟨n, s', z⟩ := t
    obtain ⟨k, _, _, hs', _⟩ := rdTo_some 4 0 0 s n s' z hs hr
    exact hs'
theorem rd_numB (n : Nat) (h : n < 268435456) (s : List Nat) (b : Bool) : rd (numB n ++ s, b) = (n, s, b) := by
  unfold rd numB
  have e : numTo 4 n = numTo 3 n := by
    have key : ∀ g k, k < 128 ^ (g + 1) → numTo (g + 1) k = numTo g k := by
      intro g
      induction g with
      | zero => intro k hk; rw [numTo_low 1 k (by simpa using hk), numTo_low 0 k (by simpa using hk)]
      | succ g ih =>
        intro k hk
        by_cases h1 : 128 ≤ k
        · rw [numTo_big (g + 1) k h1, numTo_big g k h1, ih (k / 128) (by
            rw [Nat.pow_succ] at hk
            exact Nat.div_lt_of_lt_mul (by rw [Nat.mul_comm]; exact hk))]
        · rw [numTo_low _ k (by omega), numTo_low _ k (by omega)]
    exact key 3 n h
  rw [e, rdTo_numTo 3 4 0 0 n s h (by omega) (by omega)]
  simp

/-! ### a whole net -/
def rdInts : Nat → Rd → List Int × Rd
  | 0, st => ([], st)
  | k + 1, st => (((rd st).1 : Int) :: (rdInts k (rd st).2).1, (rdInts k (rd st).2).2)
def rdReg (st : Rd) : LR × Rd := (⟨(rd st).1 == 1, (rd ((rd st).2.1, (rd st).2.2 || decide (1 < (rd st).1))).1⟩, (rd ((rd st).2.1, (rd st).2.2 || decide (1 < (rd st).1))).2)
def rdRegs : Nat → Rd → List LR × Rd
  | 0, st => ([], st)
  | k + 1, st => ((rdReg st).1 :: (rdRegs k (rdReg st).2).1, (rdRegs k (rdReg st).2).2)
def rdLut (st : Rd) : LT × Rd := (⟨(rdInts (min (rd st).1 5) (rd st).2).1, (rd (rdInts (min (rd st).1 5) (rd st).2).2).1⟩, (rd (rdInts (min (rd st).1 5) (rd st).2).2).2)
def rdLuts : Nat → Rd → List LT × Rd
  | 0, st => ([], st)
  | k + 1, st => ((rdLut st).1 :: (rdLuts k (rdLut st).2).1, (rdLuts k (rdLut st).2).2)
def run1 (s : List Nat) : Nat × Rd := rd (s, false)
def run2 (s : List Nat) : Nat × Rd := rdMany (run1 s).2
def run3 (s : List Nat) : List LR × Rd := rdRegs (run2 s).1 (run2 s).2
def run4 (s : List Nat) : Nat × Rd := rdMany (run3 s).2
def run5 (s : List Nat) : List LT × Rd := rdLuts (run4 s).1 (run4 s).2
def run6 (s : List Nat) : Nat × Rd := rdMany (run5 s).2
def run7 (s : List Nat) : List Int × Rd := rdInts (run6 s).1 (run6 s).2
def run (s : List Nat) : LN × Rd := (⟨(run1 s).1, (run3 s).1, (run5 s).1, (run7 s).1⟩, (run7 s).2)
def parses (s : List Nat) : Bool := !(run s).2.2 && decide ((run s).2.1 = []) && (run s).1.right

theorem rdMany_good {s : List Nat} {b : Bool} (hs : AllBytes s) (h : (rdMany (s, b)).2.2 = false) : b = false ∧ s = numB (rdMany (s, b)).1 ++ (rdMany (s, b)).2.1 ∧ AllBytes (rdMany (s, b)).2.1 := by
  unfold rdMany at h ⊢
  split at h
  · simp at h
  · rename_i hn
    rw [if_neg hn]
    have := rd_good hs h
    exact ⟨this.1, this.2.1, this.2.2.2⟩
theorem rdInts_good (k : Nat) : ∀ (s : List Nat) (b : Bool), AllBytes s → (rdInts k (s, b)).2.2 = false → b = false ∧ s = insB (rdInts k (s, b)).1 ++ (rdInts k (s, b)).2.1 ∧ AllBytes (rdInts k (s, b)).2.1 ∧ (rdInts k (s, b)).1.length = k := by
  induction k with
  | zero => intro s b hs h; exact ⟨h, by simp [rdInts, insB], hs, rfl⟩
  | succ k ih =>
    intro s b hs h
    have h' : (rdInts k ((rd (s, b)).2.1, (rd (s, b)).2.2)).2.2 = false := h
    obtain ⟨h1, h2, h3, h4⟩ := ih _ _ (rd_bytes hs) h'
    obtain ⟨g1, g2, _, _⟩ := rd_good hs h1
    refine ⟨g1, ?_, h3, ?_⟩
    · show s = insB (((rd (s, b)).1 : Int) :: (rdInts k (rd (s, b)).2).1) ++ (rdInts k (rd (s, b)).2).2.1
      have e : insB (((rd (s, b)).1 : Int) :: (rdInts k (rd (s, b)).2).1) = numB (rd (s, b)).1 ++ insB (rdInts k (rd (s, b)).2).1 := by simp [insB]
      rw [e, List.append_assoc, ← h2]
      exact g2
    · show (((rd (s, b)).1 : Int) :: (rdInts k (rd (s, b)).2).1).length = k + 1
      rw [List.length_cons]
      exact congrArg (· + 1) h4
theorem rdInts_bytes (k : Nat) : ∀ (s : List Nat) (b : Bool), AllBytes s → AllBytes (rdInts k (s, b)).2.1 := by
  induction k with
  | zero => intro s b hs; exact hs
  | succ k ih => intro s b hs; exact ih _ _ (rd_bytes hs)
theorem rdReg_bytes {s : List Nat} {b : Bool} (hs : AllBytes s) : AllBytes (rdReg (s, b)).2.1 := rd_bytes (rd_bytes hs)
theorem rdReg_good {s : List Nat} {b : Bool} (hs : AllBytes s) (h : (rdReg (s, b)).2.2 = false) : b = false ∧ s = (rdReg (s, b)).1.bytes ++ (rdReg (s, b)).2.1 := by
  unfold rdReg at h ⊢
  simp only at h ⊢
  obtain ⟨h1, h2, _, _⟩ := rd_good (rd_bytes hs) h
  simp only [Bool.or_eq_false_iff, decide_eq_false_iff_not] at h1
  obtain ⟨g1, g2, _, _⟩ := rd_good hs h1.1
  refine ⟨g1, ?_⟩
  have e : bit ((rd (s, b)).1 == 1) = (rd (s, b)).1 := by
    have := h1.2
    unfold bit
    have h01 : (rd (s, b)).1 = 0 ∨ (rd (s, b)).1 = 1 := by omega
    rcases h01 with h | h <;> rw [h] <;> rfl
  unfold LR.bytes
  simp only [Int.toNat_natCast]
  rw [e, List.append_assoc, ← h2]
  exact g2
theorem rdRegs_good (k : Nat) : ∀ (s : List Nat) (b : Bool), AllBytes s → (rdRegs k (s, b)).2.2 = false → b = false ∧ s = (rdRegs k (s, b)).1.flatMap LR.bytes ++ (rdRegs k (s, b)).2.1 ∧ AllBytes (rdRegs k (s, b)).2.1 ∧ (rdRegs k (s, b)).1.length = k := by
  induction k with
  | zero => intro s b hs h; exact ⟨h, by simp [rdRegs], hs, rfl⟩
  | succ k ih =>
    intro s b hs h
    have h' : (rdRegs k ((rdReg (s, b)).2.1, (rdReg (s, b)).2.2)).2.2 = false := h
    obtain ⟨h1, h2, h3, h4⟩ := ih _ _ (rdReg_bytes hs) h'
    obtain ⟨g1, g2⟩ := rdReg_good hs h1
    refine ⟨g1, ?_, h3, congrArg (· + 1) h4⟩
    show s = ((rdReg (s, b)).1 :: (rdRegs k (rdReg (s, b)).2).1).flatMap LR.bytes ++ (rdRegs k (rdReg (s, b)).2).2.1
    rw [List.flatMap_cons, List.append_assoc, ← h2]
    exact g2
theorem rdLut_bytes {s : List Nat} {b : Bool} (hs : AllBytes s) : AllBytes (rdLut (s, b)).2.1 := rd_bytes (rdInts_bytes _ _ _ (rd_bytes hs))
theorem rdLut_good {s : List Nat} {b : Bool} (hs : AllBytes s) (h : (rdLut (s, b)).2.2 = false) (h4 : (rdLut (s, b)).1.ins.length ≤ 4) : b = false ∧ s = (rdLut (s, b)).1.bytes ++ (rdLut (s, b)).2.1 := by
  unfold rdLut at h h4 ⊢
  simp only at h h4 ⊢
  obtain ⟨h1, h2, _, _⟩ := rd_good (rdInts_bytes (min (rd (s, b)).1 5) _ _ (rd_bytes hs)) h
  obtain ⟨i1, i2, _, i4⟩ := rdInts_good _ _ _ (rd_bytes hs) h1
  obtain ⟨g1, g2, _, _⟩ := rd_good hs i1
  refine ⟨g1, ?_⟩
  have hm : (rdInts (min (rd (s, b)).1 5) (rd (s, b)).2).1.length = (rd (s, b)).1 := by
    have e : (rdInts (min (rd (s, b)).1 5) (rd (s, b)).2).1.length = min (rd (s, b)).1 5 := i4
    rw [e] at h4 ⊢
    omega
  unfold LT.bytes
  simp only [Int.toNat_natCast]
  rw [hm, List.append_assoc, List.append_assoc, ← h2, ← i2]
  exact g2
theorem rdLuts_good (k : Nat) : ∀ (s : List Nat) (b : Bool), AllBytes s → (rdLuts k (s, b)).2.2 = false → (∀ t ∈ (rdLuts k (s, b)).1, t.ins.length ≤ 4) → b = false ∧ s = (rdLuts k (s, b)).1.flatMap LT.bytes ++ (rdLuts k (s, b)).2.1 ∧ AllBytes (rdLuts k (s, b)).2.1 ∧ (rdLuts k (s, b)).1.length = k := by
  induction k with
  | zero => intro s b hs h _; exact ⟨h, by simp [rdLuts], hs, rfl⟩
  | succ k ih =>
    intro s b hs h h5
    have h' : (rdLuts k ((rdLut (s, b)).2.1, (rdLut (s, b)).2.2)).2.2 = false := h
    have h5' : ∀ t ∈ (rdLut (s, b)).1 :: (rdLuts k (rdLut (s, b)).2).1, t.ins.length ≤ 4 := h5
    obtain ⟨h1, h2, h3, h4⟩ := ih _ _ (rdLut_bytes hs) h' (fun t ht => h5' t (by simp [ht]))
    obtain ⟨g1, g2⟩ := rdLut_good hs h1 (h5' _ (by simp))
    refine ⟨g1, ?_, h3, congrArg (· + 1) h4⟩
    show s = ((rdLut (s, b)).1 :: (rdLuts k (rdLut (s, b)).2).1).flatMap LT.bytes ++ (rdLuts k (rdLut (s, b)).2).2.1
    rw [List.flatMap_cons, List.append_assoc, ← h2]
    exact g2
theorem rdRegs_bytes (k : Nat) : ∀ (s : List Nat) (b : Bool), AllBytes s → AllBytes (rdRegs k (s, b)).2.1 := by
  induction k with
  | zero => intro s b hs; exact hs
  | succ k ih => intro s b hs; exact ih _ _ (rdReg_bytes hs)
theorem rdLuts_bytes (k : Nat) : ∀ (s : List Nat) (b : Bool), AllBytes s → AllBytes (rdLuts k (s, b)).2.1 := by
  induction k with
  | zero => intro s b hs; exact hs
  | succ k ih => intro s b hs; exact ih _ _ (rdLut_bytes hs)
theorem rdMany_bytes {s : List Nat} {b : Bool} (hs : AllBytes s) : AllBytes (rdMany (s, b)).2.1 := by
  unfold rdMany
  split
  · exact rd_bytes hs
  · exact rd_bytes hs

theorem LN.bytes_mk (g : Int) (rs : List LR) (ls : List LT) (os : List Int) : LN.bytes ⟨g, rs, ls, os⟩ = numB g.toNat ++ (numB rs.length ++ (rs.flatMap LR.bytes ++ (numB ls.length ++ (ls.flatMap LT.bytes ++ (numB os.length ++ insB os))))) := by
  unfold LN.bytes LN.part3 LN.part2 LN.part1 LN.head
  simp only [List.take_length, List.append_assoc]

theorem good_chain {s s1 s2 s3 s4 s5 s6 s7 : List Nat} {b1 b2 b3 b4 b5 b6 : Bool} {g k m o : Nat} {rs : List LR} {ls : List LT} {os : List Int} (hs : AllBytes s) (h1 : rd (s, false) = (g, s1, b1)) (h2 : rdMany (s1, b1) = (k, s2, b2)) (h3 : rdRegs k (s2, b2) = (rs, s3, b3)) (h4 : rdMany (s3, b3) = (m, s4, b4))
    (h5 : rdLuts m (s4, b4) = (ls, s5, b5)) (h6 : rdMany (s5, b5) = (o, s6, b6)) (h7 : rdInts o (s6, b6) = (os, s7, false)) (hl : ∀ t ∈ ls, t.ins.length ≤ 4) :
    s = numB g ++ (numB rs.length ++ (rs.flatMap LR.bytes ++ (numB ls.length ++ (ls.flatMap LT.bytes ++ (numB os.length ++ (insB os ++ s7)))))) := by
  have y1 := rd_bytes (s := s) (b := false) hs
  rw [h1] at y1
  have y2 := rdMany_bytes (s := s1) (b := b1) y1
  rw [h2] at y2
  have y3 := rdRegs_bytes k s2 b2 y2
  rw [h3] at y3
  have y4 := rdMany_bytes (s := s3) (b := b3) y3
  rw [h4] at y4
  have y5 := rdLuts_bytes m s4 b4 y4
  rw [h5] at y5
  have y6 := rdMany_bytes (s := s5) (b := b5) y5
  rw [h6] at y6
  have z7 := rdInts_good o s6 b6 y6
  rw [h7] at z7
  obtain ⟨rfl, e7, _, l7⟩ := z7 rfl
  have z6 := rdMany_good (s := s5) (b := b5) y5
  rw [h6] at z6
  obtain ⟨rfl, e6, _⟩ := z6 rfl
  have z5 := rdLuts_good m s4 b4 y4
  rw [h5] at z5
  obtain ⟨rfl, e5, _, l5⟩ := z5 rfl hl
  have z4 := rdMany_good (s := s3) (b := b3) y3
  rw [h4] at z4
  obtain ⟨rfl, e4, _⟩ := z4 rfl
  have z3 := rdRegs_good k s2 b2 y2
  rw [h3] at z3
  obtain ⟨rfl, e3, _, l3⟩ := z3 rfl
  have z2 := rdMany_good (s := s1) (b := b1) y1
  rw [h2] at z2
  obtain ⟨rfl, e2, _⟩ := z2 rfl
  have z1 := rd_good (s := s) (b := false) hs
  rw [h1] at z1
  obtain ⟨_, e1, _, _⟩ := z1 rfl
  simp only at e1 e2 e3 e4 e5 e6 e7 l3 l5 l7
  rw [l3, l5, l7, ← e7, ← e6, ← e5, ← e4, ← e3, ← e2, ← e1]

/-- WHAT WAS READ IS WRITTEN JUST SO. -/
theorem parses_bytes {s : List Nat} (hs : AllBytes s) (h : parses s = true) : (run s).1.right = true ∧ (run s).1.bytes = s := by
  unfold parses at h
  simp only [Bool.and_eq_true, Bool.not_eq_true', decide_eq_true_eq] at h
  obtain ⟨⟨hb, he⟩, hr⟩ := h
  refine ⟨hr, ?_⟩
  obtain ⟨⟨g, s1, b1⟩, h1⟩ : ∃ x, run1 s = x := ⟨_, rfl⟩
  obtain ⟨⟨k, s2, b2⟩, h2⟩ : ∃ x, run2 s = x := ⟨_, rfl⟩
  obtain ⟨⟨rs, s3, b3⟩, h3⟩ : ∃ x, run3 s = x := ⟨_, rfl⟩
  obtain ⟨⟨m, s4, b4⟩, h4⟩ : ∃ x, run4 s = x := ⟨_, rfl⟩
  obtain ⟨⟨ls, s5, b5⟩, h5⟩ : ∃ x, run5 s = x := ⟨_, rfl⟩
  obtain ⟨⟨o, s6, b6⟩, h6⟩ : ∃ x, run6 s = x := ⟨_, rfl⟩
  obtain ⟨⟨os, s7, b7⟩, h7⟩ : ∃ x, run7 s = x := ⟨_, rfl⟩
  have hrun : run s = (⟨g, rs, ls, os⟩, s7, b7) := by unfold run; rw [h1, h3, h5, h7]
  rw [hrun] at hb he hr ⊢
  simp only at hb he hr ⊢
  subst hb he
  have h4' : ∀ t ∈ ls, t.ins.length ≤ 4 := by
    intro t ht
    obtain ⟨i, hi, rfl⟩ := List.mem_iff_getElem.1 ht
    have := (LN.right_tab hr (i := i) hi).1
    simpa [List.getD_eq_getElem?_getD, List.getElem?_eq_getElem hi] using this
  unfold run2 at h2
  rw [h1] at h2
  unfold run3 at h3
  rw [show run2 s = rdMany (run1 s).2 from rfl, h1, h2] at h3
  have g3 : run3 s = (rs, s3, b3) := by unfold run3; rw [show run2 s = rdMany (run1 s).2 from rfl, h1, h2]; exact h3
  have g4 : rdMany (s3, b3) = (m, s4, b4) := by unfold run4 at h4; rw [g3] at h4; exact h4
  have g5 : rdLuts m (s4, b4) = (ls, s5, b5) := by unfold run5 at h5; rw [h4] at h5; exact h5
  have g6 : rdMany (s5, b5) = (o, s6, b6) := by unfold run6 at h6; rw [h5] at h6; exact h6
  have g7 : rdInts o (s6, b6) = (os, [], false) := by unfold run7 at h7; rw [h6] at h7; exact h7
  have e := good_chain hs (by unfold run1 at h1; exact h1) h2 h3 g4 g5 g6 g7 h4'
  rw [LN.bytes_mk, Int.toNat_natCast]
  rw [List.append_nil] at e
  exact e.symm

/-! ### what is written is read -/
theorem rdInts_write (l : List Int) : ∀ (q : List Nat) (b : Bool), (∀ k ∈ l, 0 ≤ k ∧ k < 268435456) → rdInts l.length (insB l ++ q, b) = (l, q, b) := by
  induction l with
  | nil => intro q b _; simp [rdInts, insB]
  | cons k l ih =>
    intro q b h
    have hk := h k (by simp)
    have e : insB (k :: l) ++ q = numB k.toNat ++ (insB l ++ q) := by simp [insB]
    have hr := rd_numB k.toNat (by omega) (insB l ++ q) b
    rw [e]
    show ((((rd (numB k.toNat ++ (insB l ++ q), b)).1 : Nat) : Int) :: (rdInts l.length (rd (numB k.toNat ++ (insB l ++ q), b)).2).1, (rdInts l.length (rd (numB k.toNat ++ (insB l ++ q), b)).2).2) = _
    rw [hr, ih q b (fun x hx => h x (by simp [hx]))]
    have : ((k.toNat : Nat) : Int) = k := by omega
    rw [this]
theorem rdReg_write (r : LR) (q : List Nat) (b : Bool) (h : 0 ≤ r.next ∧ r.next < 268435456) : rdReg (r.bytes ++ q, b) = (r, q, b) := by
  have hb : bit r.init ≤ 1 := by unfold bit; split <;> omega
  have h1 := rd_numB (bit r.init) (by omega) (numB r.next.toNat ++ q) b
  have h2 := rd_numB r.next.toNat (by omega) q b
  unfold rdReg LR.bytes
  simp only [List.append_assoc, h1]
  have e : (b || decide (1 < bit r.init)) = b := by
    have : decide (1 < bit r.init) = false := decide_eq_false (by omega)
    rw [this]; simp
  rw [e, h2]
  obtain ⟨ri, rn⟩ := r
  simp only
  have e2 : (bit ri == 1) = ri := by cases ri <;> rfl
  have e3 : ((rn.toNat : Nat) : Int) = rn := by simp only at h; omega
  rw [e2, e3]
theorem rdRegs_write (l : List LR) : ∀ (q : List Nat) (b : Bool), (∀ r ∈ l, 0 ≤ r.next ∧ r.next < 268435456) → rdRegs l.length (l.flatMap LR.bytes ++ q, b) = (l, q, b) := by
  induction l with
  | nil => intro q b _; simp [rdRegs]
  | cons r l ih =>
    intro q b h
    have hr := rdReg_write r (l.flatMap LR.bytes ++ q) b (h r (by simp))
    have e : (r :: l).flatMap LR.bytes ++ q = r.bytes ++ (l.flatMap LR.bytes ++ q) := by simp
    rw [e]
    show ((rdReg (r.bytes ++ (l.flatMap LR.bytes ++ q), b)).1 :: (rdRegs l.length (rdReg (r.bytes ++ (l.flatMap LR.bytes ++ q), b)).2).1, (rdRegs l.length (rdReg (r.bytes ++ (l.flatMap LR.bytes ++ q), b)).2).2) = _
    rw [hr, ih q b (fun x hx => h x (by simp [hx]))]
theorem rdLut_write (t : LT) (q : List Nat) (b : Bool) (h4 : t.ins.length ≤ 4) (ht : 0 ≤ t.table ∧ t.table < 268435456) (hi : ∀ k ∈ t.ins, 0 ≤ k ∧ k < 268435456) : rdLut (t.bytes ++ q, b) = (t, q, b) := by
  have h1 := rd_numB t.ins.length (by omega) (insB t.ins ++ (numB t.table.toNat ++ q)) b
  have h2 := rdInts_write t.ins (numB t.table.toNat ++ q) b hi
  have h3 := rd_numB t.table.toNat (by omega) q b
  unfold rdLut LT.bytes
  simp only [List.append_assoc, h1]
  rw [show min t.ins.length 5 = t.ins.length by omega, h2, h3]
  have e3 : ((t.table.toNat : Nat) : Int) = t.table := by omega
  rw [e3]
theorem rdLuts_write (l : List LT) : ∀ (q : List Nat) (b : Bool), (∀ t ∈ l, t.ins.length ≤ 4 ∧ (0 ≤ t.table ∧ t.table < 268435456) ∧ ∀ k ∈ t.ins, 0 ≤ k ∧ k < 268435456) → rdLuts l.length (l.flatMap LT.bytes ++ q, b) = (l, q, b) := by
  induction l with
  | nil => intro q b _; simp [rdLuts]
  | cons t l ih =>
    intro q b h
    have ht := h t (by simp)
    have hr := rdLut_write t (l.flatMap LT.bytes ++ q) b ht.1 ht.2.1 ht.2.2
    have e : (t :: l).flatMap LT.bytes ++ q = t.bytes ++ (l.flatMap LT.bytes ++ q) := by simp
    rw [e]
    show ((rdLut (t.bytes ++ (l.flatMap LT.bytes ++ q), b)).1 :: (rdLuts l.length (rdLut (t.bytes ++ (l.flatMap LT.bytes ++ q), b)).2).1, (rdLuts l.length (rdLut (t.bytes ++ (l.flatMap LT.bytes ++ q), b)).2).2) = _
    rw [hr, ih q b (fun x hx => h x (by simp [hx]))]
theorem rdMany_write (n : Nat) (q : List Nat) (b : Bool) (h : n ≤ 20000) (hq : n ≤ q.length) : rdMany (numB n ++ q, b) = (n, q, b) := by
  have h1 := rd_numB n (by omega) q b
  unfold rdMany
  rw [h1, if_neg (by simp only; omega)]
theorem flatMap_ge {α : Type} (l : List α) (f : α → List Nat) (h : ∀ x ∈ l, 1 ≤ (f x).length) : l.length ≤ (l.flatMap f).length := by
  induction l with
  | nil => simp
  | cons x l ih =>
    rw [List.flatMap_cons, List.length_append, List.length_cons]
    have h1 := h x (by simp)
    have h2 := ih (fun y hy => h y (by simp [hy]))
    omega

/-- WHAT IS WRITTEN IS READ, whatever follows. -/
theorem run_bytes {L : LN} (h : L.right = true) (q : List Nat) : run (L.bytes ++ q) = (L, q, false) := by
  have hs := LN.small_numbers h
  have hr : ∀ r ∈ L.regs, 0 ≤ r.next ∧ r.next < 268435456 := by
    intro r hr
    obtain ⟨i, hi, rfl⟩ := List.mem_iff_getElem.1 hr
    have := LN.right_reg h hi
    simp only [List.getD_eq_getElem?_getD, List.getElem?_eq_getElem hi, Option.getD_some] at this
    omega
  have hl : ∀ t ∈ L.luts, t.ins.length ≤ 4 ∧ (0 ≤ t.table ∧ t.table < 268435456) ∧ ∀ k ∈ t.ins, 0 ≤ k ∧ k < 268435456 := by
    intro t ht
    obtain ⟨i, hi, rfl⟩ := List.mem_iff_getElem.1 ht
    have := LN.right_tab h hi
    simp only [List.getD_eq_getElem?_getD, List.getElem?_eq_getElem hi, Option.getD_some] at this
    refine ⟨this.1, ⟨this.2.1, by omega⟩, fun k hk => ?_⟩
    obtain ⟨j, hj, rfl⟩ := List.mem_iff_getElem.1 hk
    have h2 := this.2.2.2 j hj
    simp only [List.getElem?_eq_getElem hj, Option.getD_some] at h2
    omega
  have ho : ∀ k ∈ L.outs, 0 ≤ k ∧ k < 268435456 := by
    intro k hk
    obtain ⟨j, hj, rfl⟩ := List.mem_iff_getElem.1 hk
    have h2 := LN.right_out h hj
    simp only [List.getD_eq_getElem?_getD, List.getElem?_eq_getElem hj, Option.getD_some] at h2
    omega
  have e : L.bytes ++ q = numB L.given.toNat ++ (numB L.regs.length ++ (L.regs.flatMap LR.bytes ++ (numB L.luts.length ++ (L.luts.flatMap LT.bytes ++ (numB L.outs.length ++ (insB L.outs ++ q)))))) := by
    unfold LN.bytes LN.part3 LN.part2 LN.part1 LN.head
    rw [List.take_length, List.take_length, List.take_length]
    simp only [List.append_assoc]
  have r1 : run1 (L.bytes ++ q) = (L.given.toNat, numB L.regs.length ++ (L.regs.flatMap LR.bytes ++ (numB L.luts.length ++ (L.luts.flatMap LT.bytes ++ (numB L.outs.length ++ (insB L.outs ++ q))))), false) := by
    unfold run1; rw [e]; exact rd_numB _ (by omega) _ _
  have r2 : run2 (L.bytes ++ q) = (L.regs.length, L.regs.flatMap LR.bytes ++ (numB L.luts.length ++ (L.luts.flatMap LT.bytes ++ (numB L.outs.length ++ (insB L.outs ++ q)))), false) := by
    unfold run2; rw [r1]
    refine rdMany_write _ _ _ (by omega) ?_
    have := flatMap_ge L.regs LR.bytes (fun r _ => by unfold LR.bytes; have := numB_len (bit r.init); rw [List.length_append]; omega)
    rw [List.length_append]; omega
  have r3 : run3 (L.bytes ++ q) = (L.regs, numB L.luts.length ++ (L.luts.flatMap LT.bytes ++ (numB L.outs.length ++ (insB L.outs ++ q))), false) := by
    unfold run3; rw [r2]; exact rdRegs_write _ _ _ hr
  have r4 : run4 (L.bytes ++ q) = (L.luts.length, L.luts.flatMap LT.bytes ++ (numB L.outs.length ++ (insB L.outs ++ q)), false) := by
    unfold run4; rw [r3]
    refine rdMany_write _ _ _ (by omega) ?_
    have := flatMap_ge L.luts LT.bytes (fun t _ => by unfold LT.bytes; have := numB_len t.ins.length; simp only [List.length_append]; omega)
    rw [List.length_append]; omega
  have r5 : run5 (L.bytes ++ q) = (L.luts, numB L.outs.length ++ (insB L.outs ++ q), false) := by
    unfold run5; rw [r4]; exact rdLuts_write _ _ _ hl
  have r6 : run6 (L.bytes ++ q) = (L.outs.length, insB L.outs ++ q, false) := by
    unfold run6; rw [r5]
    refine rdMany_write _ _ _ (by omega) ?_
    have := flatMap_ge L.outs (fun k => numB k.toNat) (fun k _ => (numB_len _).1)
    have e2 : (insB L.outs).length = (L.outs.flatMap fun k => numB k.toNat).length := rfl
    rw [List.length_append]; omega
  have r7 : run7 (L.bytes ++ q) = (L.outs, q, false) := by
    unfold run7; rw [r6]; exact rdInts_write _ _ _ ho
  unfold run
  rw [r1, r3, r5, r7]
  have e3 : ((L.given.toNat : Nat) : Int) = L.given := by omega
  simp only [e3]
theorem parses_of {L : LN} (h : L.right = true) : parses L.bytes = true ∧ (run L.bytes).1 = L := by
  have hr := run_bytes h []
  rw [List.append_nil] at hr
  unfold parses
  rw [hr]
  exact ⟨by simp [h], rfl⟩
/-- NO BEGINNING OF IT IS ANY. -/
theorem parses_prefix {L : LN} (h : L.right = true) {p q : List Nat} (e : L.bytes = p ++ q) (hp : parses p = true) : q = [] := by
  have hb : AllBytes p := fun x hx => LN.bytes_byte h x (by rw [e]; simp [hx])
  obtain ⟨r1, r2⟩ := parses_bytes hb hp
  have h1 := run_bytes r1 q
  have h2 := run_bytes h []
  rw [List.append_nil, e] at h2
  rw [r2, h2] at h1
  simp only [Prod.mk.injEq, and_true] at h1
  exact h1.2.symm
end Go.Proofs.YtlaeflpddehipabDoor
