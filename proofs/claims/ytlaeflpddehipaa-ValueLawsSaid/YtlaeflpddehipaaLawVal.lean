/- ValueLaws, walked. -/
import Derived.Test.YtlaeflpddehipaaValUse
import Derived.Deep.QuietTactic
import Derived.BigQuiet
set_option linter.unusedVariables false
namespace Go.Proofs.Ytlaeflpddehipaa
open Go.RowKit

/-- The closure 'two' over the type's variable. -/
theorem two_cl (op : ByteArray) (k a b r : Int) (B : Nat) (h : Hid (vtwo op k a b = r)) (w : World) (hc : w.cell? ⟨B, 0, none⟩ = some (.int .i64 k)) :
    Calls Try.prog 18 #[.string op, .int .i64 a, .int .i64 b, .pointer (some ⟨B, 0, none⟩)] w fun e w' => e = .returned (.int .i64 r) ∧ w = w' := by
  go_enter Try.func18, Try.ntmps18
  go_wp2_with (go_at_call 19; refine (two_is _ _ _ _ _ (by with_reducible assumption) _).mono ?_; rintro e w' ⟨rfl, rfl⟩)
  go_ret
  exact ⟨rfl, rfl⟩
theorem not_cl (k a r : Int) (B : Nat) (h : Hid (vnot k a = r)) (ha : -9223372036854775808 ≤ a ∧ a ≤ 9223372036854775807) (w : World) (hc : w.cell? ⟨B, 0, none⟩ = some (.int .i64 k)) :
    Calls Try.prog 21 #[.int .i64 a, .pointer (some ⟨B, 0, none⟩)] w fun e w' => e = .returned (.int .i64 r) ∧ w = w' := by
  go_enter Try.func21, Try.ntmps21
  go_wp2_with (go_at_call 22; refine (not_is _ _ _ (by with_reducible assumption) (by omega) _).mono ?_; rintro e w' ⟨rfl, rfl⟩)
  go_ret
  exact ⟨rfl, rfl⟩

theorem cut_q (k n r : Int) (h : Hid (vcut k n = r)) (w : World) :
    Calls Try.prog 20 #[.int .i64 k, .int .i64 n] w fun e w' => e = .returned (.int .i64 r) ∧ w' = w :=
  (cut_is k n r h w).mono fun _ _ ⟨h1, h2⟩ => ⟨h1, h2.symm⟩

set_option maxRecDepth 100000 in
set_option maxHeartbeats 1600000 in
theorem laws_bit (kind a b c A B C n1 n3 r1 r2 r3 r4 r5 r6 r7 r8 r9 : Int) (HP : Hid (vpick kind 2 = 0)) (hA : Hid (vcut 1 a = A)) (hB : Hid (vcut 1 b = B)) (hC : Hid (vcut 1 c = C))
    (hm : Met 1 A B C n1 n3 r1 r2 r3 r4 r5 r6 r7 r8 r9) (w : World) :
    Calls Try.prog 4 #[.int .i64 kind, .int .i64 a, .int .i64 b, .int .i64 c] w (Yes w) := by
  obtain ⟨bA, bB, bC, bn1, bn3, b4, e0, e1, e2, e3, e4, r12, e5, e6, e7, e8, e9, e10, e11, e12, e13, e14, e15, e16⟩ := hm
  have hpl : Hid (vtwo ⟨#[43]⟩ 1 A B = 0) := t_plus_bit A B
  have hlt : Hid (vresult ⟨#[60]⟩ 1 1 = 0) := r_lt_bit
  rcases r12 with ⟨rfl, rfl⟩ | ⟨rfl, rfl⟩
  all_goals
    go_enter Try.func4, Try.ntmps4
    go_wp2_with (first
      | (go_at_call 16; refine (reckoned_any _).mono ?_; rintro e w1 ⟨rfl, hbel⟩; have hbox := box_block hbel; have hc1 := cell_block hbox 0; have hf1 := free_block hbox 0; have hbel1 := box_below hbel; have hsz1 := box_size hbel; clear hbel hbox)
      | (go_at_call 17; refine (pick_any _ _ (by omega) _).mono ?_; rintro e w' ⟨rfl, rfl⟩; rw [HP.out]))
    go_quiet ((go_at_call 20; exact Calls.quiet_of_same (cut_q _ _ _ (by with_reducible assumption) _)))
    go_wp2_with (first
      | (go_at_call 24; refine (bits_any _ _ _).mono ?_; rintro e w3 ⟨v, rfl, hown, hbel3⟩; obtain ⟨hc3, hbel4, hsz3⟩ := set_then (Nat.le_refl _) hbel1 hc1 hbel3; clear hbel3 hc1 hf1)
      | (go_at_call 23; refine (of_row _ _ _ _ _ (by with_reducible assumption) (by with_reducible assumption)).mono ?_; rintro e w' ⟨rfl, rfl⟩)
      | (go_at_call 25; refine (result_is _ _ _ _ (by with_reducible assumption) _).mono ?_; rintro e w' ⟨rfl, rfl⟩)
      | (go_at_call 18; refine (two_cl _ _ _ _ _ _ (by with_reducible assumption) _ (by with_reducible assumption)).mono ?_; rintro e w' ⟨rfl, rfl⟩)
      | (go_at_call 21; refine (not_cl _ _ _ _ (by with_reducible assumption) (by omega) _ (by with_reducible assumption)).mono ?_; rintro e w' ⟨rfl, rfl⟩))


    go_ret
    exact ⟨rfl, by with_reducible assumption⟩
end Go.Proofs.Ytlaeflpddehipaa
