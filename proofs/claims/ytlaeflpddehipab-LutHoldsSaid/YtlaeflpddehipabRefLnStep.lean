/- The document's Tables.Step, walked: the law of a cycle. -/
import Derived.Test.YtlaeflpddehipabLsFacts
import Derived.Test.YtlaeflpddehipabSrc
set_option linter.unusedVariables false
set_option linter.unusedSimpArgs false
set_option linter.unusedSectionVars false
namespace Go.Proofs.Ytlaeflpddehipab
open Go.RowKit
attribute [local go_sem ↓] Go.wp_at_zero Go.wp_at_succ

theorem Try.lsBool : (Try.prog.info? 4).map (fun i => (i.zero, i.size, i.bytes)) = some (some (.bool false), 1, 1) := by kernel_rfl
theorem LN.next_at (L : LN) (regs given : List Bool) (j : Nat) (h : j < L.regs.length) : (L.next regs given).take (j + 1) = (L.next regs given).take j ++ [(L.vals regs given).getD (L.regs.getD j LR.zero).next.toNat false] := by
  rw [take_snoc _ _ false (by rw [L.next_len]; exact h)]
  congr 2
  simp [LN.next, List.getD_eq_getElem?_getD, h]
theorem LN.outV_at (L : LN) (regs given : List Bool) (j : Nat) (h : j < L.outs.length) : (L.outV regs given).take (j + 1) = (L.outV regs given).take j ++ [(L.vals regs given).getD (L.outs.getD j 0).toNat false] := by
  rw [take_snoc _ _ false (by rw [L.outV_len]; exact h)]
  congr 2
  simp [LN.outV, List.getD_eq_getElem?_getD, h]
theorem lutBit_nat (ins : List Int) (tn : Nat) (v : List Bool) : lutBit ⟨ins, (tn : Int)⟩ v = (((tn / 2 ^ atTo v ins ins.length : Nat) : Int) % 2 == 1) := by
  unfold lutBit
  rw [Bool.eq_iff_iff]
  simp
end Go.Proofs.Ytlaeflpddehipab
