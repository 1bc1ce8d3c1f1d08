/-
  DERIVED. GIVEN WITH THE SEED: THE CARDS: each row of YtkdicconchobfaaDoorRows.lean that lists a variable, with what it lists TIED to the program's text (the seventh form; the later family's looks); each row that meets fmt, with fmt's text TOLD by the authors' own Lean function (tested against real Go, not proved from fmt's source: count such statements apart). THE CARD IS WHAT COUNTS. Prove the row's statement (the work); the ties are given (YtkdicconchobfaaDoorTie.lean); close each card by the builder's one call (the guide's Derived/Test/ToyasCard.lean, 'card_holds'). Laid BY PROGRAM, IN A SANDBOX (cutbox-door.mjs). By AI agents, Wed Nov 11 2026. No macro, syntax, notation, axiom, sorry.
-/
import Derived.Test.YtkdicconchobfaaDoorRows
import GoSem.ClaimSeven
namespace Go.Proofs.YtkdicconchobfaaDoor
namespace Rows

/-- THE TIED CARD OF 'ulplaw10.ExpcoreRising'. -/
def expcoreRisingCard : Claim7 := { stood := { row := expcoreRisingRow, standIns := [], harness := (true, "3aa2df78ad95e7450d0a4eb874fcf67a2dde75f4beb2168da1c5f875040a611d"), looks := false }, kinds := [], alts := [], laidByText := true, laidKinds := [.data], laidTests := true, laidLooks := .later }
def ExpcoreRisingCardSaid : Prop := Claim7.holds Tryd.pinned (.plain (OpenSpec.ofChange expcoreRisingSpec)) expcoreRisingCard

/-- THE SECOND FORM's CARD OF 'ulplaw10.ExpcoreRising'. -/
def expcoreRisingUptoCard : Claim7 := { stood := { row := expcoreRisingUptoRow, standIns := [], harness := (true, "3aa2df78ad95e7450d0a4eb874fcf67a2dde75f4beb2168da1c5f875040a611d"), looks := false }, kinds := [], alts := [], laidByText := true, laidKinds := [.data], laidTests := true, laidLooks := .later }
def ExpcoreRisingUptoCardSaid : Prop := Claim7.holds Tryd.pinned (.plain (OpenSpec.upto expcoreRisingSpec)) expcoreRisingUptoCard
end Rows
end Go.Proofs.YtkdicconchobfaaDoor
