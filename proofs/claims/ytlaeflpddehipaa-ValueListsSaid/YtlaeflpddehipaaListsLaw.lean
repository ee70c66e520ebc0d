/- ValueLists, walked. -/
import Derived.Test.YtlaeflpddehipaaLists2
import Derived.Test.YtlaeflpddehipaaEqual
set_option linter.unusedVariables false
namespace Go.Proofs.Ytlaeflpddehipaa
open Go.RowKit

theorem of_cells (B : Nat) (b c : Nat) (l : List Bool) (r : Int) (w : World) (hc : Cells B w (some ⟨b, 0, none⟩) 8 fun j => .bool (l.getD j false)) (h : Hid (vof (first8 l) = r)) :
    Calls Try.prog 23 #[.slice (some ⟨b, 0, none⟩) 8 c] w fun e w' => e = .returned (.int .i64 r) ∧ w = w' := by
  have h' : vof (first8 l) = r := h
  rw [← h']
  refine of_any B (some ⟨b, 0, none⟩) 8 c (first8 l) w (first8_len l).symm (by unfold maxLen; decide) ?_
  rcases hc with h0 | ⟨b1, off, ha, hb, hcell⟩
  · omega
  · refine .inr ⟨b1, off, ha, hb, fun j hj => (hcell j hj).trans ?_⟩
    show some (Value.bool (l.getD j false)) = some (Value.bool ((first8 l).getD j false))
    rw [first8_get l j hj]

theorem cells8 {B b : Nat} {l : List Bool} {w : World} (hc : Cells B w (some ⟨b, 0, none⟩) 8 fun j => .bool (l.getD j false)) : Cells B w (some ⟨b, 0, none⟩) 8 fun j => .bool ((first8 l).getD j false) := by
  rcases hc with h0 | ⟨b1, off, ha, hb, hcell⟩
  · omega
  · refine .inr ⟨b1, off, ha, hb, fun j hj => (hcell j hj).trans ?_⟩
    show some (Value.bool (l.getD j false)) = some (Value.bool ((first8 l).getD j false))
    rw [first8_get l j hj]

theorem equal8 (B b c b' c' : Nat) (l m : List Bool) (r : Bool) (w : World) (hx : Cells B w (some ⟨b, 0, none⟩) 8 fun j => .bool (l.getD j false)) (hy : Cells B w (some ⟨b', 0, none⟩) 8 fun j => .bool (m.getD j false)) (h : Hid (decide (first8 l = first8 m) = r)) :
    Calls Try.prog 27 #[.slice (some ⟨b, 0, none⟩) 8 c, .slice (some ⟨b', 0, none⟩) 8 c'] w (Says r w) := by
  have h' : decide (first8 l = first8 m) = r := h
  rw [← h']
  exact equal_bool B _ _ 8 c 8 c' (first8 l) (first8 m) w (first8_len l).symm (first8_len m).symm (by unfold maxLen; decide) (cells8 hx) (cells8 hy)

/-- What Bits gave against eight cells. -/
theorem equal_row (B base : Nat) (v : Value) (b' c' : Nat) (l : List Bool) (w : World) (hown : w.ownsRow base 4 1 v (first8 l).length ((first8 l).map .bool)) (hy : Cells B w (some ⟨b', 0, none⟩) 8 fun j => .bool (l.getD j false)) (hB : B ≤ w.heap.size) :
    Calls Try.prog 27 #[v, .slice (some ⟨b', 0, none⟩) 8 c'] w (Says true w) := by
  obtain ⟨a, c, rfl, hn, hc, hcells⟩ := Cells.of_owns hown
  have h' : decide (first8 l = first8 l) = true := by simp
  rw [← h']
  refine equal_bool w.heap.size _ _ _ c 8 c' (first8 l) (first8 l) w rfl (first8_len l).symm (Nat.le_trans hn hc) ?_ ((cells8 hy).mono hB)
  rw [Nat.mul_one] at hcells
  rcases hcells with h0 | ⟨b, off, ha, hb, hcell⟩
  · exact .inl h0
  · refine .inr ⟨b, off, ha, hb, fun j hj => (hcell j hj).trans ?_⟩
    simp [List.getD_eq_getElem?_getD, hj]

theorem lists_long (a a' : Option Addr) (n c n' c' : Nat) (h : 20 < n ∨ 20 < n') (w : World) :
    Calls Try.prog 5 #[.slice a n c, .slice a' n' c'] w (Yes w) := by
  by_cases h1 : 20 < n
  · have h2 : (20 : Int) < n := by omega
    clear h
    go_enter Try.func5, Try.ntmps5
    go_wp2
    go_ret
    exact ⟨rfl, Below.refl _ _⟩
  · have h2 : ¬ (20 : Int) < n := by omega
    have h3 : (20 : Int) < n' := by omega
    clear h
    go_enter Try.func5, Try.ntmps5
    go_wp2
    go_ret
    exact ⟨rfl, Below.refl _ _⟩

theorem two_q (op : ByteArray) (k a b r : Int) (h : Hid (vtwo op k a b = r)) (w : World) :
    Calls Try.prog 19 #[.string op, .int .i64 k, .int .i64 a, .int .i64 b] w fun e w' => e = .returned (.int .i64 r) ∧ w' = w :=
  (two_is op k a b r h w).mono fun _ _ ⟨h1, h2⟩ => ⟨h1, h2.symm⟩

/-- What is known of a slice of at most twenty bits that came in. -/
def InBits (B : Nat) (a : Option Addr) (n c : Nat) (l : List Bool) (w : World) : Prop := n = l.length ∧ (a = none → n = 0 ∧ c = 0) ∧ Cells B w a n (fun i => .bool (l.getD i false)) ∧ B ≤ w.heap.size

theorem eight_from (B : Nat) (a : Option Addr) (n c : Nat) (l : List Bool) (w w1 : World) (hm : n ≤ 20) (h : InBits B a n c l w) (hb : Below w.heap.size w w1) :
    Calls Try.prog 26 #[.slice a n c] w1 (Eight l w1) :=
  eight_any B a n c l w1 h.1 hm h.2.1 (h.2.2.1.stay (hb.mono h.2.2.2)) (Nat.le_trans h.2.2.2 hb.size)

/-- What holds at each round of the way down: above the counter the two are the same. -/
def DownRel (X Y : List Bool) (w4 : World) (v : Value) (wr : World) : Prop :=
  (∃ q, wr = w4.drewN q) ∧ ((v = .int .i64 (-1) ∧ SameFrom X Y 0) ∨ ∃ i : Nat, i < 8 ∧ v = .int .i64 (i : Int) ∧ SameFrom X Y (i + 1))

theorem DownRel.next {X Y : List Bool} {w4 : World} {i : Nat} {wr : World} (hi : i < 8) (hw : ∃ q, wr = w4.drewN q) (hs : SameFrom X Y (i + 1)) (he : X.getD i false = Y.getD i false) : DownRel X Y w4 (.int .i64 ((i : Int) - 1)) wr := by
  refine ⟨hw, ?_⟩
  have hs' : SameFrom X Y i := by
    intro j hj hj8
    rcases Nat.eq_or_lt_of_le hj with rfl | h
    · exact he
    · exact hs j h hj8
  cases i with
  | zero => exact .inl ⟨rfl, hs'⟩
  | succ i =>
    refine .inr ⟨i, by omega, val_int (by omega), hs'⟩

set_option maxHeartbeats 1600000 in
set_option maxRecDepth 100000 in
theorem lists_any (B : Nat) (a a' : Option Addr) (n c n' c' : Nat) (l m : List Bool) (w : World) (hm : n ≤ 20) (hm' : n' ≤ 20) (hin : InBits B a n c l w) (hin' : InBits B a' n' c' m w) :
    Calls Try.prog 5 #[.slice a n c, .slice a' n' c'] w (Yes w) := by
  obtain ⟨A, hA⟩ : ∃ A : Nat, vofTo (first8 l) 8 = A := ⟨_, rfl⟩
  obtain ⟨C, hC⟩ : ∃ C : Nat, vofTo (first8 m) 8 = C := ⟨_, rfl⟩
  have hAl : A < 256 := by rw [← hA]; exact vof8_lt l
  have hCl : C < 256 := by rw [← hC]; exact vof8_lt m
  have FA : Hid (vof (first8 l) = (A : Int)) := by unfold Hid; rw [vof8, hA]
  have FC : Hid (vof (first8 m) = (C : Int)) := by unfold Hid; rw [vof8, hC]
  have FB : Hid (vbits 2 (A : Int) = first8 l) := by have h := bits_of8 l; rw [FA.out] at h; exact h
  have FE : Hid (decide (first8 l = first8 m) = ((A : Int) == C)) := by
    unfold Hid
    have h := of8_inj l m
    rw [FA.out, FC.out] at h
    rw [Bool.eq_iff_iff]
    simpa using h.symm
  have FL : Hid (vtwo ⟨#[60]⟩ 2 (A : Int) (C : Int) = b01 (decide (A < C))) := vtwo_lt A C hAl hCl
  have FQ : Hid (vtwo ⟨#[61]⟩ 2 (A : Int) (C : Int) = b01 (decide (A = C))) := vtwo_eq A C hAl hCl
  have HAA := hid hA
  have HCC := hid hC
  have d1 : decide ((20 : Int) < n) = false := decide_eq_false (by omega)
  have d2 : decide ((20 : Int) < n') = false := decide_eq_false (by omega)
  have a1 : ¬ (A : Int) < 0 := by omega
  have a2 : decide ((A : Int) < 0) = false := decide_eq_false a1
  have a3 : decide ((255 : Int) < A) = false := decide_eq_false (by omega)
  clear hA hC
  go_enter Try.func5, Try.ntmps5
  go_wp2_with (first
    | (go_at_call 16; refine (reckoned_any _).mono ?_; rintro e w1 ⟨rfl, hbel1⟩)
    | (go_at_call 26; (with_reducible refine (eight_from B a n c l w _ hm hin hbel1).mono ?_); rintro e w2 ⟨b2, c2, rfl, hc2, hcm2, hcell2, hbel2⟩; have hbel3 := hbel1.trans (hbel2.mono hbel1.size); have HCM2 := hid hcm2; clear hcm2 hin)
    | (go_at_call 26; (with_reducible refine (eight_from B a' n' c' m w _ hm' hin' hbel3).mono ?_); rintro e w3 ⟨b3, c3, rfl, hc3, hcm3, hcell3, hbel4⟩; have hbel5 := hbel3.trans (hbel4.mono hbel3.size); have hcell2' := (hcell2.stay hbel4).mono hbel4.size; have HCM3 := hid hcm3; clear hcm3 hcell2 hin' hbel4 hbel3 hbel2 hbel1)
    | (go_at_call 23; (with_reducible refine (of_cells _ _ _ l _ _ hcell2' FA).mono ?_); rintro e w' ⟨rfl, rfl⟩)
    | (go_at_call 23; (with_reducible refine (of_cells _ _ _ m _ _ hcell3 FC).mono ?_); rintro e w' ⟨rfl, rfl⟩)
    | (go_at_call 24; refine (bits_any _ _ _).mono ?_; rintro e w4 ⟨v, rfl, hown, hbel6⟩; rw [FB.out] at hown; have hcell2w := (hcell2'.stay hbel6).mono hbel6.size; have hcell3w := (hcell3.stay hbel6).mono hbel6.size; have hbel7 := hbel5.trans (hbel6.mono hbel5.size); clear hcell2' hcell3 hbel6 hbel5)
    | (go_at_call 27; (with_reducible refine (equal_row _ _ _ _ _ l _ hown hcell2w (Nat.le_refl _)).mono ?_); rintro e w5 ⟨rfl, q, rfl⟩; clear hown)
    | (go_at_call 27; (with_reducible refine (equal8 _ _ _ _ _ l m _ _ (hcell2w.drewN _) (hcell3w.drewN _) FE).mono ?_); rintro e w5 ⟨rfl, q2, rfl⟩))
  have hwq : ∃ q', w4.drewN (q + q2) = w4.drewN q' := ⟨_, rfl⟩
  clear hm hm' d1 d2 a1 a2 a3
  go_loopw [10] (fun v wr => DownRel (first8 l) (first8 m) w4 v wr) (fun v _ => (intOf v + 1).toNat)
  case atStart => exact ⟨hwq, .inr ⟨7, by omega, rfl, fun j h1 h2 => by omega⟩⟩
  case round =>
    obtain ⟨hw, hrel⟩ := hrel
    rcases hrel with ⟨rfl, hs⟩ | ⟨i, hi, rfl, hs⟩
    · have HS := hid (same_all l m hs)
      have hAC : A = C := by
        have h := HS.out
        rw [← HAA.out, ← HCC.out, h]
      have HAC := hid hAC
      obtain ⟨q3, hw⟩ := hw
      have HW := hid hw
      have r1 : Hid (vtwo ⟨#[60]⟩ 2 (A : Int) (C : Int) = 0) := by unfold Hid; rw [FL.out, hAC]; simp [b01]
      have r2 : Hid (vtwo ⟨#[61]⟩ 2 (A : Int) (C : Int) = 1) := by unfold Hid; rw [FQ.out, hAC]; simp [b01]
      clear hs hw hAC FL FQ
      go_wp2_with (go_at_call 19; refine (two_is _ _ _ _ _ (by with_reducible assumption) _).mono ?_; rintro e w' ⟨rfl, rfl⟩)
      go_ret
      exact ⟨rfl, by rw [HW.out]; exact below_drewN hbel7 q3⟩
    · obtain ⟨b2', off2, e2, hB2, hx⟩ := hcell2w.at (by omega)
      obtain ⟨b3', off3, e3, hB3, hy⟩ := hcell3w.at (by omega)
      simp only [Option.some.injEq, Addr.mk.injEq, and_true] at e2 e3
      obtain ⟨rfl, rfl⟩ := e2
      obtain ⟨rfl, rfl⟩ := e3
      obtain ⟨q3, hw⟩ := hw
      have h1 : wr.cell? ⟨b2, 0 + i, none⟩ = some (.bool (l.getD i false)) := by rw [hw]; exact hx i hi
      have h2 : wr.cell? ⟨b3, 0 + i, none⟩ = some (.bool (m.getD i false)) := by rw [hw]; exact hy i hi
      rw [Nat.zero_add] at h1 h2
      have hcmp := lt_of_first l m i hi hs
      rw [first8_get l i hi, first8_get m i hi, HAA.out, HCC.out] at hcmp
      have hget : (first8 l).getD i false = l.getD i false := first8_get l i hi
      have hget' : (first8 m).getD i false = m.getD i false := first8_get m i hi
      generalize l.getD i false = x at *
      generalize m.getD i false = y at *
      have HW := hid hw
      have HS := hid hs
      have HG := hid (And.intro hget hget')
      have hi8 : (i : Int) < 8 := by omega
      have hi0 : (0 : Int) ≤ i := by omega
      by_cases hxy : x = y
      · subst hxy
        clear hcmp hw hs hget hget' hx hy hcell2w hcell3w
        go_wp2
        go_quiet (fail)
        go_wp2
        go_roundw
        case rel => exact DownRel.next hi ⟨_, by rw [HW.out]; exact drewN_add _ _ _⟩ HS.out (HG.out.1.trans HG.out.2.symm)
        case measure => simp [intOf]
      · have hne : (x == y) = false := by simp [hxy]
        have hlt : (A < C) ↔ y = true := hcmp hxy
        have r1 : Hid (vtwo ⟨#[60]⟩ 2 (A : Int) (C : Int) = b01 y) := by
          unfold Hid; rw [FL.out]; congr 1; rw [Bool.eq_iff_iff]; simpa using hlt
        have r3 : (b01 y == 1) = y := by cases y <;> rfl
        clear hcmp hw hs hget hget' hx hy hcell2w hcell3w hxy hlt FL FQ
        go_wp2
        go_quiet (fail)
        have h2' : (wr.drewN nq).cell? ⟨b3, i, none⟩ = some (.bool y) := h2
        have HW' : Hid (wr.drewN nq = w4.drewN (q3 + nq)) := by unfold Hid; rw [HW.out]; exact drewN_add _ _ _
        clear h1 h2
        generalize wr.drewN nq = wq at *
        go_wp2
        go_quiet ((go_at_call 19; exact Calls.quiet_of_same (two_q _ _ _ _ _ (by with_reducible assumption) _)))
        go_wp2
        go_ret
        exact ⟨rfl, by rw [HW'.out]; exact below_drewN (below_drewN hbel7 _) _⟩

theorem lists_law (B : Nat) (a a' : Option Addr) (n c n' c' : Nat) (l m : List Bool) (w : World) (hin : InBits B a n c l w) (hin' : InBits B a' n' c' m w) :
    Calls Try.prog 5 #[.slice a n c, .slice a' n' c'] w (Yes w) := by
  by_cases h : n ≤ 20 ∧ n' ≤ 20
  · exact lists_any B a a' n c n' c' l m w h.1 h.2 hin hin'
  · exact lists_long a a' n c n' c' (by omega) w
end Go.Proofs.Ytlaeflpddehipaa
