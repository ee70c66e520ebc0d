/-
  DERIVED. GIVEN WITH THE SEED: THE CARDS: each row of YtlaeflpddehipabGreatDoorRows.lean that lists a variable, with what it lists TIED to the program's text (the seventh form; the later family's looks); each row that meets fmt, with fmt's text TOLD by the authors' own Lean function (tested against real Go, not proved from fmt's source: count such statements apart). THE CARD IS WHAT COUNTS. Prove the row's statement (the work); the ties are given (YtlaeflpddehipabGreatDoorTie.lean); close each card by the builder's one call (the guide's Derived/Test/ToyasCard.lean, 'card_holds'). Laid BY PROGRAM, IN A SANDBOX (cutbox-door.mjs). By AI agents, Wed Nov 11 2026. No macro, syntax, notation, axiom, sorry.
-/
import Derived.Test.YtlaeflpddehipabGreatDoorRows
import GoSem.ClaimSeven
namespace Go.Proofs.YtlaeflpddehipabGreatDoor
namespace Rows

/-- THE TIED CARD OF 'rungworklaw.LadderReads'. -/
def ladderReadsCard : Claim7 := { stood := { row := ladderReadsRow, standIns := [], harness := (true, "e7bdc568e540d1a2ea7bae547a77f64367b0cf81808da8d9ff6eb76ce5e78aad"), looks := true }, kinds := [], alts := [], laidByText := true, laidKinds := [.data, .handle, .data, .widerDeep, .pinned], laidTests := true, laidLooks := .later }
def LadderReadsCardSaid : Prop := Claim7.holds Tryz.pinned (.plain (OpenSpec.ofChange ladderReadsSpec)) ladderReadsCard

/-- THE SECOND FORM's CARD OF 'rungworklaw.LadderReads'. -/
def ladderReadsUptoCard : Claim7 := { stood := { row := ladderReadsUptoRow, standIns := [], harness := (true, "e7bdc568e540d1a2ea7bae547a77f64367b0cf81808da8d9ff6eb76ce5e78aad"), looks := true }, kinds := [], alts := [], laidByText := true, laidKinds := [.data, .handle, .data, .widerDeep, .pinned], laidTests := true, laidLooks := .later }
def LadderReadsUptoCardSaid : Prop := Claim7.holds Tryz.pinned (.plain (OpenSpec.upto ladderReadsSpec)) ladderReadsUptoCard
end Rows
end Go.Proofs.YtlaeflpddehipabGreatDoor
