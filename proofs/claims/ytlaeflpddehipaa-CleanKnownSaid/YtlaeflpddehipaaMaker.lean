/- clean.maker's zero, one, op, not, turned, two, walked. -/
import Derived.Test.YtlaeflpddehipaaMakNode
import Derived.Deep.QuietTactic
import Derived.BigQuiet
set_option linter.unusedVariables false
namespace Go.Proofs.Ytlaeflpddehipaa
open Go.RowKit
attribute [local go_sem ↓] Go.wp_at_zero Go.wp_at_succ

section
variable {B bm bo bn bf bs : Nat} {g : Int} {av : Option Addr} {cv : Nat} {M : List GN} {of : List Int}
theorem low_mk {o p q n : Int} (h1 : 0 ≤ o ∧ o ≤ 1000000) (h2 : 0 ≤ p ∧ p ≤ 1000000) (h3 : 0 ≤ q ∧ q ≤ 1000000) (h4 : 0 ≤ n ∧ n ≤ 1000000) : GN.low ⟨o, p, q, n⟩ := ⟨h1, h2, h3, h4⟩
theorem node_at (o p q n : Int) (W : World) (h : Mak B bm bo bn bf bs g av cv M M of W) (hx : GN.low ⟨o, p, q, n⟩) (hM : M.length ≤ 100000) :
    Calls Try.prog 78 #[.pointer (some ⟨bm, 0, none⟩), .agg #[.int .i64 o, .int .i64 p, .int .i64 q, .int .i64 n]] W (Makes B bm bo bn bf bs g (.slice av M.length cv) of W (mkN M ⟨o, p, q, n⟩)) := node_any ⟨o, p, q, n⟩ W h hx hM
theorem zero_any (W : World) (h : Mak B bm bo bn bf bs g av cv M M of W) (hM : M.length ≤ 100000) :
    Calls Try.prog 76 #[.pointer (some ⟨bm, 0, none⟩)] W (Makes B bm bo bn bf bs g (.slice av M.length cv) of W (mkN M zeroN)) := by
  have HM := hid h
  clear h
  go_enter Try.func76, Try.ntmps76
  go_wp2_with (go_at_call 78; (with_reducible refine (node_at 1 0 0 0 W HM.out (low_mk (by decide) (by decide) (by decide) (by decide)) hM).mono ?_); rintro e w1 ⟨rfl, hm, hk, hb⟩; have HK := hid hk; have HB := hid hb; have HM1 := hid hm; clear hk hb hm)
  go_ret
  exact ⟨rfl, HM1.out, HK.out, HB.out⟩
theorem one_any (W : World) (h : Mak B bm bo bn bf bs g av cv M M of W) (hM : M.length ≤ 100000) :
    Calls Try.prog 77 #[.pointer (some ⟨bm, 0, none⟩)] W (Makes B bm bo bn bf bs g (.slice av M.length cv) of W (mkN M oneN)) := by
  have HM := hid h
  clear h
  go_enter Try.func77, Try.ntmps77
  go_wp2_with (go_at_call 78; (with_reducible refine (node_at 2 0 0 0 W HM.out (low_mk (by decide) (by decide) (by decide) (by decide)) hM).mono ?_); rintro e w1 ⟨rfl, hm, hk, hb⟩; have HK := hid hk; have HB := hid hb; have HM1 := hid hm; clear hk hb hm)
  go_ret
  exact ⟨rfl, HM1.out, HK.out, HB.out⟩
theorem op_any (k : Nat) (hk : k < M.length) (W : World) (h : Mak B bm bo bn bf bs g av cv M M of W) (hM : M.length ≤ 100000) :
    Calls Try.prog 84 #[.pointer (some ⟨bm, 0, none⟩), .int .i64 ((k : Nat) : Int)] W fun e w' => e = .returned (.int .i64 (opAt M k)) ∧ Below W.heap.size W w' := by
  obtain ⟨b1, rfl, hb1, d0, d1⟩ := h.node k hk
  have c1 := h.c1
  have n1 := h.n1
  have hkI : ((k : Nat) : Int) < (M.length : Int) := by omega
  have E : Hid (opAt M k = (M.getD k GN.zero).op) := by unfold Hid opAt nodeAt; rw [Int.toNat_natCast]
  rw [E.out]
  generalize (M.getD k GN.zero).op = o at *
  go_enter Try.func84, Try.ntmps84
  go_wp2
  go_ret
  exact ⟨rfl, Below.refl _ _⟩
theorem Makes.then {W W1 : World} {r : List GN × Int} {e : Ending} {w' : World} (hb : Below W.heap.size W W1) (hB : B ≤ W.heap.size) (h : Makes B bm bo bn bf bs g (.slice av M.length cv) of W1 r e w') : Makes B bm bo bn bf bs g (.slice av M.length cv) of W r e w' :=
  ⟨h.1, h.2.1, (KeepF.below hb).trans h.2.2.1, (hb.mono hB).trans h.2.2.2⟩
set_option maxHeartbeats 1600000 in
theorem not_any (k : Nat) (hk : k < M.length) (W : World) (h : Mak B bm bo bn bf bs g av cv M M of W) (hM : M.length ≤ 100000) :
    Calls Try.prog 80 #[.pointer (some ⟨bm, 0, none⟩), .int .i64 ((k : Nat) : Int)] W (Makes B bm bo bn bf bs g (.slice av M.length cv) of W (mNot M k)) := by
  obtain ⟨b1, rfl, hb1, d0, d1⟩ := h.node k hk
  have c1 := h.c1
  have n1 := h.n1
  have hB := h.hB
  have hkI : ((k : Nat) : Int) < (M.length : Int) := by omega
  have E : Hid (mNot M k = if (M.getD k GN.zero).op = 1 then mkN M oneN else if (M.getD k GN.zero).op = 2 then mkN M zeroN else if (M.getD k GN.zero).op = 8 then (M, (M.getD k GN.zero).a) else mkN M ⟨8, k, 0, 0⟩) := by
    unfold Hid mNot opAt nodeAt; rw [Int.toNat_natCast]
  have EO : Hid (opAt M k = (M.getD k GN.zero).op) := by unfold Hid opAt nodeAt; rw [Int.toNat_natCast]
  rw [E.out]
  have HM := hid h
  clear h
  generalize (M.getD k GN.zero).op = o at *
  generalize (M.getD k GN.zero).a = p at *
  go_enter Try.func80, Try.ntmps80
  go_upto_region 2 with (go_at_call 84; (with_reducible refine (op_any k hk W HM.out hM).mono ?_); rintro e w1 ⟨rfl, hb⟩; rw [EO.out]; have HB1 := hid hb; have HM1 := hid (HM.out.stay hb); (have c1' := (hb.cell (p := ⟨bm, 1, none⟩) (boxLt HM.out.boxm)).trans c1); (have n1' := (hb.cell (p := ⟨bn, 1, none⟩) (boxLt HM.out.boxn)).trans n1); (have d1' := (hb.cell (p := ⟨b1, k * 4 + 1, none⟩) hb1).trans d1); clear hb)
  by_cases h1 : o = 1
  · subst h1
    go_wp2_with (go_at_call 77; (with_reducible refine (one_any w1 HM1.out hM).mono ?_); rintro e w2 ⟨rfl, hm, hk, hb⟩; have HK := hid hk; have HB := hid hb; have HM2 := hid hm; clear hk hb hm)
    go_ret
    exact ⟨rfl, HM2.out, (KeepF.below HB1.out).trans HK.out, (HB1.out.mono hB).trans HB.out⟩
  by_cases h2 : o = 2
  · subst h2
    go_wp2_with (go_at_call 76; (with_reducible refine (zero_any w1 HM1.out hM).mono ?_); rintro e w2 ⟨rfl, hm, hk, hb⟩; have HK := hid hk; have HB := hid hb; have HM2 := hid hm; clear hk hb hm)
    go_ret
    exact ⟨rfl, HM2.out, (KeepF.below HB1.out).trans HK.out, (HB1.out.mono hB).trans HB.out⟩
  by_cases h8 : o = 8
  · subst h8
    go_wp2
    go_ret
    exact ⟨rfl, ⟨_, _, HM1.out⟩, KeepF.below HB1.out, HB1.out.mono hB⟩
  · rw [if_neg h1, if_neg h2, if_neg h8]
    go_wp2_with (go_at_call 78; (with_reducible refine (node_at 8 k 0 0 w1 HM1.out (low_mk (by decide) (by omega) (by decide) (by decide)) hM).mono ?_); rintro e w2 ⟨rfl, hm, hk, hb⟩; have HK := hid hk; have HB := hid hb; have HM2 := hid hm; clear hk hb hm)
    go_ret
    exact ⟨rfl, HM2.out, (KeepF.below HB1.out).trans HK.out, (HB1.out.mono hB).trans HB.out⟩
end
end Go.Proofs.Ytlaeflpddehipaa
