/-
  DERIVED. GIVEN WITH THE SEED: THE CARDS: each row of YtlaeflpddehipabDoorRows.lean that lists a variable, with what it lists TIED to the program's text (the seventh form; the later family's looks); each row that meets fmt, with fmt's text TOLD by the authors' own Lean function (tested against real Go, not proved from fmt's source: count such statements apart). THE CARD IS WHAT COUNTS. Prove the row's statement (the work); the ties are given (YtlaeflpddehipabDoorTie.lean); close each card by the builder's one call (the guide's Derived/Test/ToyasCard.lean, 'card_holds'). Laid BY PROGRAM, IN A SANDBOX (cutbox-door.mjs). By AI agents, Wed Nov 11 2026. No macro, syntax, notation, axiom, sorry.
-/
import Derived.Test.YtlaeflpddehipabDoorRows
import GoSem.ClaimSeven
namespace Go.Proofs.YtlaeflpddehipabDoor
namespace Rows

/-- THE TIED CARD OF 'rungworklaw.ImageWrites'. -/
def imageWritesCard : Claim7 := { stood := { row := imageWritesRow, standIns := [], harness := (true, "a7a13d4c1738d3b80b50ed67713d45303e5deefa4593ff4cc1c86443f6040462"), looks := true }, kinds := [], alts := [], laidByText := true, laidKinds := [.handle], laidTests := true, laidLooks := .later }
def ImageWritesCardSaid : Prop := Claim7.holds Tryd.pinned (.plain (OpenSpec.ofChange imageWritesSpec)) imageWritesCard

/-- THE TIED CARD OF 'rungworkkeep.CleanSame'. -/
def cleanSameCard : Claim7 := { stood := { row := cleanSameRow, standIns := [], harness := (true, "a7a13d4c1738d3b80b50ed67713d45303e5deefa4593ff4cc1c86443f6040462"), looks := true }, kinds := [], alts := [], laidByText := true, laidKinds := [.handle], laidTests := true, laidLooks := .later }
def CleanSameCardSaid : Prop := Claim7.holds Tryd.pinned (.plain (OpenSpec.ofChange cleanSameSpec)) cleanSameCard

/-- THE TIED CARD OF 'rungworklaw.DeviceSteps'. -/
def deviceStepsCard : Claim7 := { stood := { row := deviceStepsRow, standIns := [], harness := (true, "a7a13d4c1738d3b80b50ed67713d45303e5deefa4593ff4cc1c86443f6040462"), looks := true }, kinds := [], alts := [], laidByText := true, laidKinds := [.data, .handle, .pinned], laidTests := true, laidLooks := .later }
def DeviceStepsCardSaid : Prop := Claim7.holds Tryd.pinned (.plain (OpenSpec.ofChange deviceStepsSpec)) deviceStepsCard

/-- THE TIED CARD OF 'rungworkkeep.PackSame'. -/
def packSameCard : Claim7 := { stood := { row := packSameRow, standIns := [], harness := (true, "a7a13d4c1738d3b80b50ed67713d45303e5deefa4593ff4cc1c86443f6040462"), looks := true }, kinds := [], alts := [], laidByText := true, laidKinds := [.handle], laidTests := true, laidLooks := .later }
def PackSameCardSaid : Prop := Claim7.holds Tryd.pinned (.plain (OpenSpec.ofChange packSameSpec)) packSameCard

/-- THE SECOND FORM's CARD OF 'rungworklaw.ImageWrites'. -/
def imageWritesUptoCard : Claim7 := { stood := { row := imageWritesUptoRow, standIns := [], harness := (true, "a7a13d4c1738d3b80b50ed67713d45303e5deefa4593ff4cc1c86443f6040462"), looks := true }, kinds := [], alts := [], laidByText := true, laidKinds := [.handle], laidTests := true, laidLooks := .later }
def ImageWritesUptoCardSaid : Prop := Claim7.holds Tryd.pinned (.plain (OpenSpec.upto imageWritesSpec)) imageWritesUptoCard

/-- THE SECOND FORM's CARD OF 'rungworkkeep.CleanSame'. -/
def cleanSameUptoCard : Claim7 := { stood := { row := cleanSameUptoRow, standIns := [], harness := (true, "a7a13d4c1738d3b80b50ed67713d45303e5deefa4593ff4cc1c86443f6040462"), looks := true }, kinds := [], alts := [], laidByText := true, laidKinds := [.handle], laidTests := true, laidLooks := .later }
def CleanSameUptoCardSaid : Prop := Claim7.holds Tryd.pinned (.plain (OpenSpec.upto cleanSameSpec)) cleanSameUptoCard

/-- THE SECOND FORM's CARD OF 'rungworklaw.DeviceSteps'. -/
def deviceStepsUptoCard : Claim7 := { stood := { row := deviceStepsUptoRow, standIns := [], harness := (true, "a7a13d4c1738d3b80b50ed67713d45303e5deefa4593ff4cc1c86443f6040462"), looks := true }, kinds := [], alts := [], laidByText := true, laidKinds := [.data, .handle, .pinned], laidTests := true, laidLooks := .later }
def DeviceStepsUptoCardSaid : Prop := Claim7.holds Tryd.pinned (.plain (OpenSpec.upto deviceStepsSpec)) deviceStepsUptoCard

/-- THE SECOND FORM's CARD OF 'rungworkkeep.PackSame'. -/
def packSameUptoCard : Claim7 := { stood := { row := packSameUptoRow, standIns := [], harness := (true, "a7a13d4c1738d3b80b50ed67713d45303e5deefa4593ff4cc1c86443f6040462"), looks := true }, kinds := [], alts := [], laidByText := true, laidKinds := [.handle], laidTests := true, laidLooks := .later }
def PackSameUptoCardSaid : Prop := Claim7.holds Tryd.pinned (.plain (OpenSpec.upto packSameSpec)) packSameUptoCard
end Rows
end Go.Proofs.YtlaeflpddehipabDoor
