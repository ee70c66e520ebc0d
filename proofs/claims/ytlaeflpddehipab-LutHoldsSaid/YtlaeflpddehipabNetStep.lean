/- (*gate.Sim).Step: a cycle of a net (written by gen_step.py). -/
import Derived.Test.YtlaeflpddehipabNetVals
set_option linter.unusedVariables false
namespace Go.Proofs.Ytlaeflpddehipab
open Go.RowKit

/-- What comes out lies in memory of its own; the registers are what they are behind the cycle; nothing else has changed. -/
def StepPost (N : Net) (regs given : List Bool) (r : Nat) (w : World) (e : Ending) (w' : World) : Prop :=
  ∃ v, e = .returned v ∧ w'.ownsRow w.heap.size 4 1 v N.outs.length ((N.outVals regs given).map .bool) ∧ Row w' r (N.regs' regs given) ∧ w.grownBy w' (some r)



end Go.Proofs.Ytlaeflpddehipab
