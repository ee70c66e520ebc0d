/- ValueLaws, walked, at the type byte. -/
import Derived.Test.YtlaeflpddehipaaLawVal
set_option linter.unusedVariables false
namespace Go.Proofs.Ytlaeflpddehipaa
open Go.RowKit

set_option maxRecDepth 100000 in
set_option maxHeartbeats 1600000 in
theorem laws_byte2 (kind a b c A B C n1 n3 r3 r4 r5 r6 r7 r8 r9 s1 q s2 s3 m : Int) (HP : Hid (vpick kind 2 = 1)) (hA : Hid (vcut 2 a = A)) (hB : Hid (vcut 2 b = B)) (hC : Hid (vcut 2 c = C))
    (hm : Met 2 A B C n1 n3 0 1 r3 r4 r5 r6 r7 r8 r9) (hb : MetByte A B C n1 0 s1 0 1 0 q s2 s3 m) (w : World) :
    Calls Try.prog 4 #[.int .i64 kind, .int .i64 a, .int .i64 b, .int .i64 c] w (Yes w) := by
  obtain ⟨bA, bB, bC, bn1, bn3, b4, e0, e1, e2, e3, e4, r12, e5, e6, e7, e8, e9, e10, e11, e12, e13, e14, e15, e16⟩ := hm
  clear r12
  obtain ⟨f1, f2, f3, f4, f5, f6, f7, f8, f9, f10, f11, f12, _⟩ := hb
  go_enter Try.func4, Try.ntmps4
  go_wp2_with (first
    | (go_at_call 16; refine (reckoned_any _).mono ?_; rintro e w1 ⟨rfl, hbel⟩; have hbox := box_block hbel; have hc1 := cell_block hbox 0; have hf1 := free_block hbox 0; have hbel1 := box_below hbel; have hsz1 := box_size hbel; clear hbel hbox)
    | (go_at_call 17; refine (pick_any _ _ (by omega) _).mono ?_; rintro e w' ⟨rfl, rfl⟩; rw [HP.out]))
  go_quiet ((go_at_call 20; exact Calls.quiet_of_same (cut_q _ _ _ (by with_reducible assumption) _)))
  go_wp2_with (first
    | (go_at_call 24; refine (bits_any _ _ _).mono ?_; rintro e w3 ⟨v, rfl, hown, hbel3⟩; obtain ⟨hc3, hbel4, hsz3⟩ := set_then (Nat.le_refl _) hbel1 hc1 hbel3; clear hbel3 hc1 hf1)
    | (go_at_call 23; refine (of_row _ _ _ _ _ (by with_reducible assumption) (by with_reducible assumption)).mono ?_; rintro e w' ⟨rfl, rfl⟩)
    | (go_at_call 25; refine (result_is _ _ _ _ (by with_reducible assumption) _).mono ?_; rintro e w' ⟨rfl, rfl⟩)
    | (go_at_call 18; refine (two_cl _ _ _ _ _ _ (by with_reducible assumption) _ (by with_reducible assumption)).mono ?_; rintro e w' ⟨rfl, rfl⟩)
    | (go_at_call 21; refine (not_cl _ _ _ _ (by with_reducible assumption) (by omega) _ (by with_reducible assumption)).mono ?_; rintro e w' ⟨rfl, rfl⟩))


  go_ret
  exact ⟨rfl, by with_reducible assumption⟩
end Go.Proofs.Ytlaeflpddehipaa
