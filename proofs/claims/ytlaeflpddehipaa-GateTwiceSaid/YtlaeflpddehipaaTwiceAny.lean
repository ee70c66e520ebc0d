/- GateTwice: all its cases. -/
import Derived.Test.YtlaeflpddehipaaTwice2
set_option linter.unusedVariables false
namespace Go.Proofs.Ytlaeflpddehipaa
open Go.RowKit

theorem gateTwice_any (B : Nat) (a : Option Addr) (c : Nat) (a' : Option Addr) (c' : Nat) (N : Net) (ag : Option Addr) (cg : Nat) (gs : List (List Bool)) (A : Nat → Option Addr) (C : Nat → Nat) (w : World) (hgr : GivenRows B w ag gs A C) (h : NetRows B w a c a' c' N) (hB : B ≤ w.heap.size) (ha : a = none → N.nodes.length = 0 ∧ c = 0) :
    Calls Try.prog 6 #[.agg #[.int .i64 N.given, .slice a N.nodes.length c, .slice a' N.outs.length c'], .slice ag gs.length cg] w (Yes w) := by
  by_cases hs : N.small = false ∨ 20 < gs.length
  · exact twice_long a c a' c' N ag gs.length cg hs w
  · have hs1 : N.small = true := by cases h1 : N.small <;> simp_all
    have hs2 : gs.length ≤ 20 := by omega
    cases hr : N.right
    · exact twice_wrong B a c a' c' N ag gs.length cg hs1 hs2 hr w h hB
    · exact twice_right B a c a' c' N ag gs.length cg gs A C rfl hs1 hs2 hr w hgr h hB ha
end Go.Proofs.Ytlaeflpddehipaa
