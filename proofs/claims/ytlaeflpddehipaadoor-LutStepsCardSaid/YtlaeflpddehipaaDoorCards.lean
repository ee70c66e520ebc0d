/-
  DERIVED. GIVEN WITH THE SEED: THE CARDS: each row of YtlaeflpddehipaaDoorRows.lean that lists a variable, with what it lists TIED to the program's text (the seventh form; the later family's looks); each row that meets fmt, with fmt's text TOLD by the authors' own Lean function (tested against real Go, not proved from fmt's source: count such statements apart). THE CARD IS WHAT COUNTS. Prove the row's statement (the work); the ties are given (YtlaeflpddehipaaDoorTie.lean); close each card by the builder's one call (the guide's Derived/Test/ToyasCard.lean, 'card_holds'). Laid BY PROGRAM, IN A SANDBOX (cutbox-door.mjs). By AI agents, Wed Nov 11 2026. No macro, syntax, notation, axiom, sorry.
-/
import Derived.Test.YtlaeflpddehipaaDoorRows
import GoSem.ClaimSeven
namespace Go.Proofs.YtlaeflpddehipaaDoor
namespace Rows

/-- THE TIED CARD OF 'rungworklaw.GateSteps'. -/
def gateStepsCard : Claim7 := { stood := { row := gateStepsRow, standIns := [], harness := (true, "dba376232e1783cd4f2d802356392dc487298ba3118bbcc906ca1799ebd3dfe8"), looks := true }, kinds := [], alts := [], laidByText := true, laidKinds := [.handle], laidTests := true, laidLooks := .later }
def GateStepsCardSaid : Prop := Claim7.holds Tryd.pinned (.plain (OpenSpec.ofChange gateStepsSpec)) gateStepsCard

/-- THE TIED CARD OF 'rungworklaw.LutSteps'. -/
def lutStepsCard : Claim7 := { stood := { row := lutStepsRow, standIns := [], harness := (true, "dba376232e1783cd4f2d802356392dc487298ba3118bbcc906ca1799ebd3dfe8"), looks := true }, kinds := [], alts := [], laidByText := true, laidKinds := [.handle], laidTests := true, laidLooks := .later }
def LutStepsCardSaid : Prop := Claim7.holds Tryd.pinned (.plain (OpenSpec.ofChange lutStepsSpec)) lutStepsCard

/-- THE SECOND FORM's CARD OF 'rungworklaw.GateSteps'. -/
def gateStepsUptoCard : Claim7 := { stood := { row := gateStepsUptoRow, standIns := [], harness := (true, "dba376232e1783cd4f2d802356392dc487298ba3118bbcc906ca1799ebd3dfe8"), looks := true }, kinds := [], alts := [], laidByText := true, laidKinds := [.handle], laidTests := true, laidLooks := .later }
def GateStepsUptoCardSaid : Prop := Claim7.holds Tryd.pinned (.plain (OpenSpec.upto gateStepsSpec)) gateStepsUptoCard

/-- THE SECOND FORM's CARD OF 'rungworklaw.LutSteps'. -/
def lutStepsUptoCard : Claim7 := { stood := { row := lutStepsUptoRow, standIns := [], harness := (true, "dba376232e1783cd4f2d802356392dc487298ba3118bbcc906ca1799ebd3dfe8"), looks := true }, kinds := [], alts := [], laidByText := true, laidKinds := [.handle], laidTests := true, laidLooks := .later }
def LutStepsUptoCardSaid : Prop := Claim7.holds Tryd.pinned (.plain (OpenSpec.upto lutStepsSpec)) lutStepsUptoCard
end Rows
end Go.Proofs.YtlaeflpddehipaaDoor
