/- clean.still, walked. -/
import Derived.Test.YtlaeflpddehipaaMakTwo
set_option linter.unusedVariables false
namespace Go.Proofs.Ytlaeflpddehipaa
open Go.RowKit
attribute [local go_sem ↓] Go.wp_at_zero Go.wp_at_succ

set_option maxRecDepth 100000 in
set_option maxHeartbeats 6400000 in
theorem still_any (B b : Nat) (a : Option Addr) (c : Nat) (a' : Option Addr) (c' : Nat) (N : Net) (w : World) (h : NetIn B w b a c a' c' N) (hB : B ≤ w.heap.size) (k : Nat) (hk : k < N.nodes.length) (hx : 0 ≤ (N.nodes.getD k GN.zero).next ∧ (N.nodes.getD k GN.zero).next < (N.nodes.length : Int)) :
    Calls Try.prog 79 #[.pointer (some ⟨b, 0, none⟩), .int .i64 ((k : Nat) : Int)] w fun e w' => e = .returned (.bool (stillB N k)) ∧ Below w.heap.size w w' := by
  obtain ⟨b1, off, rfl, hb1, d0, d1, d2, d3⟩ := h.node k hk
  obtain ⟨y, hy⟩ : ∃ y : Nat, (N.nodes.getD k GN.zero).next = (y : Int) := ⟨_, (Int.toNat_of_nonneg hx.1).symm⟩
  have hyl : y < N.nodes.length := by omega
  obtain ⟨b1', off', e1, _, e2, e3, e4, e5⟩ := h.node y hyl
  cases e1
  have n1 := h.nodes
  have hkI : ((k : Nat) : Int) < (N.nodes.length : Int) := by omega
  have hyI : ((y : Nat) : Int) < (N.nodes.length : Int) := by omega
  have E : Hid (stillB N k = (((y : Nat) : Int) == (k : Int) || ((N.nodes.getD y GN.zero).op == 1 && (N.nodes.getD k GN.zero).a == 0) || ((N.nodes.getD y GN.zero).op == 2 && (N.nodes.getD k GN.zero).a == 1))) := by
    unfold Hid stillB opAt nodeAt; rw [Int.toNat_natCast, hy, Int.toNat_natCast]
  rw [E.out]
  rw [hy] at d3
  have hlt1 := Nat.lt_of_lt_of_le hb1 hB
  have hltb := Nat.lt_of_lt_of_le h.hb hB
  clear E h hy hx
  generalize (N.nodes.getD y GN.zero).op = oy at *
  generalize (N.nodes.getD y GN.zero).a = ay at *
  generalize (N.nodes.getD y GN.zero).b = by' at *
  generalize (N.nodes.getD y GN.zero).next = ny at *
  generalize (N.nodes.getD k GN.zero).op = ok at *
  generalize (N.nodes.getD k GN.zero).a = ak at *
  generalize (N.nodes.getD k GN.zero).b = bk at *
  go_enter Try.func79, Try.ntmps79
  go_upto_region 2 with fail
  go_region
  by_cases h1 : ((y : Nat) : Int) = (k : Int)
  · have f1 : (((y : Nat) : Int) == (k : Int)) = true := beq_iff_eq.2 h1
    have h1' : y = k := by omega
    go_wp2_with fail
    go_ret
    exact ⟨by simp [h1, h1'], (((Below.refl w.heap.size w).alloc (Nat.le_refl _) _).alloc (by simp) _).drew⟩
  have f1 : (((y : Nat) : Int) == (k : Int)) = false := beq_eq_false_iff_ne.2 h1
  have h1' : ¬ y = k := fun e => h1 (by rw [e])
  by_cases h2 : oy = 1
  · subst h2
    by_cases h3 : ak = 0
    · subst h3
      go_wp2_with fail
      go_ret
      exact ⟨by simp [h1, h1'], (((Below.refl w.heap.size w).alloc (Nat.le_refl _) _).alloc (by simp) _).drew⟩
    · have f3 : (ak == (0 : Int)) = false := beq_eq_false_iff_ne.2 h3
      go_wp2_with fail
      go_ret
      exact ⟨by simp [h1, h1', h3], (((Below.refl w.heap.size w).alloc (Nat.le_refl _) _).alloc (by simp) _).drew⟩
  have f2 : (oy == (1 : Int)) = false := beq_eq_false_iff_ne.2 h2
  by_cases h4 : oy = 2
  · subst h4
    by_cases h5 : ak = 1
    · subst h5
      go_wp2_with fail
      go_ret
      exact ⟨by simp [h1, h1'], (((Below.refl w.heap.size w).alloc (Nat.le_refl _) _).alloc (by simp) _).drew⟩
    · have f5 : (ak == (1 : Int)) = false := beq_eq_false_iff_ne.2 h5
      go_wp2_with fail
      go_ret
      exact ⟨by simp [h1, h1', h5], (((Below.refl w.heap.size w).alloc (Nat.le_refl _) _).alloc (by simp) _).drew⟩
  · have f4 : (oy == (2 : Int)) = false := beq_eq_false_iff_ne.2 h4
    go_wp2_with fail
    go_ret
    exact ⟨by simp [h1, h1', h2, h4], (((Below.refl w.heap.size w).alloc (Nat.le_refl _) _).alloc (by simp) _).drew⟩
end Go.Proofs.Ytlaeflpddehipaa
