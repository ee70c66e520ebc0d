/- slices.Equal at bools and ints: whether two slices hold the same. -/
import Derived.Test.YtlaeflpddehipabBase
import Derived.Deep.QuietTactic
import Derived.BigQuiet
set_option linter.unusedVariables false
namespace Go.Proofs.Ytlaeflpddehipab
open Go.RowKit

/-- A bool comes back; but for draws the world is as it was. -/
def Says (b : Bool) (w : World) (e : Ending) (w' : World) : Prop := e = .returned (.bool b) ∧ ∃ q, w' = w.drewN q

theorem Says.below {b : Bool} {w w' : World} {e : Ending} (h : Says b w e w') : e = .returned (.bool b) ∧ Below w.heap.size w w' := by
  obtain ⟨h1, q, rfl⟩ := h
  exact ⟨h1, below_drewN (Below.refl _ _) q⟩

theorem drewN_add (w : World) (a b : Nat) : (w.drewN a).drewN b = w.drewN (a + b) := by simp [World.drewN, Nat.add_assoc]

theorem Cells.drewN {B : Nat} {w : World} {a : Option Addr} {m : Nat} {f : Nat → Value} (h : Cells B w a m f) (q : Nat) : Cells B (w.drewN q) a m f := h

theorem prefix_step {α : Type} [DecidableEq α] (l m : List α) (d : α) (k : Nat) (hl : k < l.length) (hm : k < m.length) (h : l.take k = m.take k) (hk : l.getD k d = m.getD k d) : l.take (k + 1) = m.take (k + 1) := by
  rw [List.take_succ_eq_append_getElem hl, List.take_succ_eq_append_getElem hm, h]
  simp [List.getD_eq_getElem?_getD, hl, hm] at hk
  rw [hk]

theorem prefix_ne {α : Type} (l m : List α) (d : α) (k : Nat) (hk : ¬ l.getD k d = m.getD k d) : ¬ l = m := by
  intro h; subst h; exact hk rfl

set_option maxHeartbeats 800000 in
theorem equal_bool (B : Nat) (a a' : Option Addr) (n c n' c' : Nat) (l m : List Bool) (w : World) (hn : n = l.length) (hn' : n' = m.length) (hm : n ≤ maxLen) (hx : Cells B w a n (fun i => .bool (l.getD i false))) (hy : Cells B w a' n' (fun i => .bool (m.getD i false))) :
    Calls Try.prog 11 #[.slice a n c, .slice a' n' c'] w (Says (decide (l = m)) w) := by
  unfold maxLen at hm
  have HN := hid hn
  have HN' := hid hn'
  have HX := hid hx
  have HY := hid hy
  clear hn hn' hx hy
  by_cases hne : n = n'
  · subst hne
    go_enter Try.func11, Try.ntmps11
    go_wp2
    go_loopw [13] (fun i wr => ∃ k q : Nat, k ≤ n ∧ i = .int .i64 k ∧ wr = w.drewN q ∧ l.take k = m.take k) (fun i _ => n - (intOf i).toNat)
    case atStart => exact ⟨0, 0, Nat.zero_le _, rfl, rfl, rfl⟩
    case round =>
      obtain ⟨k, q, hk, rfl, hwr, hpre⟩ := hrel
      have HW := hid hwr
      have HPRE := hid hpre
      clear hpre hwr
      by_cases hlt : k < n
      · obtain ⟨b, off, rfl, hB, hcell⟩ := HX.out.at (by omega)
        obtain ⟨b', off', rfl, hB', hcell'⟩ := HY.out.at (by omega)
        have h1 : wr.cell? ⟨b, off + k, none⟩ = some (.bool (l.getD k false)) := by rw [HW.out]; exact hcell k hlt
        have h2 : wr.cell? ⟨b', off' + k, none⟩ = some (.bool (m.getD k false)) := by rw [HW.out]; exact hcell' k hlt
        obtain ⟨x, hxx⟩ : ∃ x, l.getD k false = x := ⟨_, rfl⟩
        obtain ⟨y, hyy⟩ : ∃ y, m.getD k false = y := ⟨_, rfl⟩
        rw [hxx] at h1
        rw [hyy] at h2
        have HXX := hid hxx
        have HYY := hid hyy
        have hkI : (k : Int) < n := by omega
        have hk0 : (0 : Int) ≤ k := by omega
        clear hcell hcell' hxx hyy HX HY
        by_cases hxy : x = y
        · have hxy' : (x == y) = true := by simp [hxy]
          have HS := hid (prefix_step l m false k (by rw [← HN.out]; exact hlt) (by rw [← HN'.out]; exact hlt) HPRE.out (by rw [HXX.out, HYY.out, hxy]))
          have HXY := hid hxy
          clear hxy
          go_wp2
          go_quiet (fail)
          go_wp2
          go_roundw
          case rel => exact ⟨k + 1, _, by omega, by go_num, by rw [HW.out]; exact drewN_add _ _ _, HS.out⟩
          case measure => simp [intOf]; omega
        · have hxy' : (x == y) = false := by simp [hxy]
          have HS := hid (prefix_ne l m false k (by rw [HXX.out, HYY.out]; exact hxy))
          clear hxy
          go_wp2
          go_quiet (fail)
          go_wp2
          go_ret
          exact ⟨ret_bool (decide_eq_false HS.out).symm, _, by rw [HW.out]; exact drewN_add _ _ _⟩
      · obtain rfl : k = n := by omega
        go_wp2
        go_ret
        refine ⟨ret_bool ?_, _, HW.out⟩
        have h := HPRE.out
        rw [List.take_of_length_le (by rw [← HN.out]; exact Nat.le_refl _), List.take_of_length_le (by rw [← HN'.out]; exact Nat.le_refl _)] at h
        exact (decide_eq_true h).symm
  · have hlm : ¬ l = m := by intro h; subst h; exact hne (HN.out.trans HN'.out.symm)
    have HLM := hid hlm
    have hne' : ((n : Int) != n') = true := by rw [bne_iff_ne]; omega
    clear hlm
    go_enter Try.func11, Try.ntmps11
    go_wp2
    go_ret
    exact ⟨ret_bool (decide_eq_false HLM.out).symm, 0, rfl⟩

set_option maxHeartbeats 800000 in
theorem equal_int (B : Nat) (a a' : Option Addr) (n c n' c' : Nat) (l m : List Int) (w : World) (hn : n = l.length) (hn' : n' = m.length) (hm : n ≤ maxLen) (hx : Cells B w a n (fun i => .int .i64 (l.getD i 0))) (hy : Cells B w a' n' (fun i => .int .i64 (m.getD i 0))) :
    Calls Try.prog 41 #[.slice a n c, .slice a' n' c'] w (Says (decide (l = m)) w) := by
  unfold maxLen at hm
  have HN := hid hn
  have HN' := hid hn'
  have HX := hid hx
  have HY := hid hy
  clear hn hn' hx hy
  by_cases hne : n = n'
  · subst hne
    go_enter Try.func41, Try.ntmps41
    go_wp2
    go_loopw [13] (fun i wr => ∃ k q : Nat, k ≤ n ∧ i = .int .i64 k ∧ wr = w.drewN q ∧ l.take k = m.take k) (fun i _ => n - (intOf i).toNat)
    case atStart => exact ⟨0, 0, Nat.zero_le _, rfl, rfl, rfl⟩
    case round =>
      obtain ⟨k, q, hk, rfl, hwr, hpre⟩ := hrel
      have HW := hid hwr
      have HPRE := hid hpre
      clear hpre hwr
      by_cases hlt : k < n
      · obtain ⟨b, off, rfl, hB, hcell⟩ := HX.out.at (by omega)
        obtain ⟨b', off', rfl, hB', hcell'⟩ := HY.out.at (by omega)
        have h1 : wr.cell? ⟨b, off + k, none⟩ = some (.int .i64 (l.getD k 0)) := by rw [HW.out]; exact hcell k hlt
        have h2 : wr.cell? ⟨b', off' + k, none⟩ = some (.int .i64 (m.getD k 0)) := by rw [HW.out]; exact hcell' k hlt
        obtain ⟨x, hxx⟩ : ∃ x, l.getD k 0 = x := ⟨_, rfl⟩
        obtain ⟨y, hyy⟩ : ∃ y, m.getD k 0 = y := ⟨_, rfl⟩
        rw [hxx] at h1
        rw [hyy] at h2
        have HXX := hid hxx
        have HYY := hid hyy
        have hkI : (k : Int) < n := by omega
        have hk0 : (0 : Int) ≤ k := by omega
        clear hcell hcell' hxx hyy HX HY
        by_cases hxy : x = y
        · have hxy' : (x == y) = true := by simp [hxy]
          have HS := hid (prefix_step l m 0 k (by rw [← HN.out]; exact hlt) (by rw [← HN'.out]; exact hlt) HPRE.out (by rw [HXX.out, HYY.out, hxy]))
          have HXY := hid hxy
          clear hxy
          go_wp2
          go_quiet (fail)
          go_wp2
          go_roundw
          case rel => exact ⟨k + 1, _, by omega, by go_num, by rw [HW.out]; exact drewN_add _ _ _, HS.out⟩
          case measure => simp [intOf]; omega
        · have hxy' : (x == y) = false := by simp [hxy]
          have HS := hid (prefix_ne l m 0 k (by rw [HXX.out, HYY.out]; exact hxy))
          clear hxy
          go_wp2
          go_quiet (fail)
          go_wp2
          go_ret
          exact ⟨ret_bool (decide_eq_false HS.out).symm, _, by rw [HW.out]; exact drewN_add _ _ _⟩
      · obtain rfl : k = n := by omega
        go_wp2
        go_ret
        refine ⟨ret_bool ?_, _, HW.out⟩
        have h := HPRE.out
        rw [List.take_of_length_le (by rw [← HN.out]; exact Nat.le_refl _), List.take_of_length_le (by rw [← HN'.out]; exact Nat.le_refl _)] at h
        exact (decide_eq_true h).symm
  · have hlm : ¬ l = m := by intro h; subst h; exact hne (HN.out.trans HN'.out.symm)
    have HLM := hid hlm
    have hne' : ((n : Int) != n') = true := by rw [bne_iff_ne]; omega
    clear hlm
    go_enter Try.func41, Try.ntmps41
    go_wp2
    go_ret
    exact ⟨ret_bool (decide_eq_false HLM.out).symm, 0, rfl⟩
end Go.Proofs.Ytlaeflpddehipab
