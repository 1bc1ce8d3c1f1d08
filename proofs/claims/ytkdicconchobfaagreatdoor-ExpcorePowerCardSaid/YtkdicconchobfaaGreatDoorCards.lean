/-
  DERIVED. GIVEN WITH THE SEED: THE CARDS: each row of YtkdicconchobfaaGreatDoorRows.lean that lists a variable, with what it lists TIED to the program's text (the seventh form; the later family's looks); each row that meets fmt, with fmt's text TOLD by the authors' own Lean function (tested against real Go, not proved from fmt's source: count such statements apart). THE CARD IS WHAT COUNTS. Prove the row's statement (the work); the ties are given (YtkdicconchobfaaGreatDoorTie.lean); close each card by the builder's one call (the guide's Derived/Test/ToyasCard.lean, 'card_holds'). Laid BY PROGRAM, IN A SANDBOX (cutbox-door.mjs). By AI agents, Wed Nov 11 2026. No macro, syntax, notation, axiom, sorry.
-/
import Derived.Test.YtkdicconchobfaaGreatDoorRows
import GoSem.ClaimSeven
namespace Go.Proofs.YtkdicconchobfaaGreatDoor
namespace Rows

/-- THE TIED CARD OF 'ulplaw10.ExpcoreExp'. -/
def expcoreExpCard : Claim7 := { stood := { row := expcoreExpRow, standIns := [], harness := (true, "9bc7ea6294b4791e834669294742add1819ff322a168e39e047785a090585a19"), looks := false }, kinds := [], alts := [], laidByText := true, laidKinds := [.data], laidTests := true, laidLooks := .later }
def ExpcoreExpCardSaid : Prop := Claim7.holds Tryz.pinned (.plain (OpenSpec.ofChange expcoreExpSpec)) expcoreExpCard

/-- THE TIED CARD OF 'ulplaw10.ExpcoreExpm1'. -/
def expcoreExpm1Card : Claim7 := { stood := { row := expcoreExpm1Row, standIns := [], harness := (true, "9bc7ea6294b4791e834669294742add1819ff322a168e39e047785a090585a19"), looks := false }, kinds := [], alts := [], laidByText := true, laidKinds := [.data], laidTests := true, laidLooks := .later }
def ExpcoreExpm1CardSaid : Prop := Claim7.holds Tryz.pinned (.plain (OpenSpec.ofChange expcoreExpm1Spec)) expcoreExpm1Card

/-- THE TIED CARD OF 'ulplaw10.ExpcoreLess1'. -/
def expcoreLess1Card : Claim7 := { stood := { row := expcoreLess1Row, standIns := [], harness := (true, "9bc7ea6294b4791e834669294742add1819ff322a168e39e047785a090585a19"), looks := false }, kinds := [], alts := [], laidByText := true, laidKinds := [.data], laidTests := true, laidLooks := .later }
def ExpcoreLess1CardSaid : Prop := Claim7.holds Tryz.pinned (.plain (OpenSpec.ofChange expcoreLess1Spec)) expcoreLess1Card

/-- THE TIED CARD OF 'ulplaw10.ExpcoreMore'. -/
def expcoreMoreCard : Claim7 := { stood := { row := expcoreMoreRow, standIns := [], harness := (true, "9bc7ea6294b4791e834669294742add1819ff322a168e39e047785a090585a19"), looks := false }, kinds := [], alts := [], laidByText := true, laidKinds := [.data], laidTests := true, laidLooks := .later }
def ExpcoreMoreCardSaid : Prop := Claim7.holds Tryz.pinned (.plain (OpenSpec.ofChange expcoreMoreSpec)) expcoreMoreCard

/-- THE TIED CARD OF 'ulplaw10.ExpcorePower'. -/
def expcorePowerCard : Claim7 := { stood := { row := expcorePowerRow, standIns := [], harness := (true, "9bc7ea6294b4791e834669294742add1819ff322a168e39e047785a090585a19"), looks := false }, kinds := [], alts := [], laidByText := true, laidKinds := [.data], laidTests := true, laidLooks := .later }
def ExpcorePowerCardSaid : Prop := Claim7.holds Tryz.pinned (.plain (OpenSpec.ofChange expcorePowerSpec)) expcorePowerCard

/-- THE SECOND FORM's CARD OF 'ulplaw10.ExpcoreExp'. -/
def expcoreExpUptoCard : Claim7 := { stood := { row := expcoreExpUptoRow, standIns := [], harness := (true, "9bc7ea6294b4791e834669294742add1819ff322a168e39e047785a090585a19"), looks := false }, kinds := [], alts := [], laidByText := true, laidKinds := [.data], laidTests := true, laidLooks := .later }
def ExpcoreExpUptoCardSaid : Prop := Claim7.holds Tryz.pinned (.plain (OpenSpec.upto expcoreExpSpec)) expcoreExpUptoCard

/-- THE SECOND FORM's CARD OF 'ulplaw10.ExpcoreExpm1'. -/
def expcoreExpm1UptoCard : Claim7 := { stood := { row := expcoreExpm1UptoRow, standIns := [], harness := (true, "9bc7ea6294b4791e834669294742add1819ff322a168e39e047785a090585a19"), looks := false }, kinds := [], alts := [], laidByText := true, laidKinds := [.data], laidTests := true, laidLooks := .later }
def ExpcoreExpm1UptoCardSaid : Prop := Claim7.holds Tryz.pinned (.plain (OpenSpec.upto expcoreExpm1Spec)) expcoreExpm1UptoCard

/-- THE SECOND FORM's CARD OF 'ulplaw10.ExpcoreLess1'. -/
def expcoreLess1UptoCard : Claim7 := { stood := { row := expcoreLess1UptoRow, standIns := [], harness := (true, "9bc7ea6294b4791e834669294742add1819ff322a168e39e047785a090585a19"), looks := false }, kinds := [], alts := [], laidByText := true, laidKinds := [.data], laidTests := true, laidLooks := .later }
def ExpcoreLess1UptoCardSaid : Prop := Claim7.holds Tryz.pinned (.plain (OpenSpec.upto expcoreLess1Spec)) expcoreLess1UptoCard

/-- THE SECOND FORM's CARD OF 'ulplaw10.ExpcoreMore'. -/
def expcoreMoreUptoCard : Claim7 := { stood := { row := expcoreMoreUptoRow, standIns := [], harness := (true, "9bc7ea6294b4791e834669294742add1819ff322a168e39e047785a090585a19"), looks := false }, kinds := [], alts := [], laidByText := true, laidKinds := [.data], laidTests := true, laidLooks := .later }
def ExpcoreMoreUptoCardSaid : Prop := Claim7.holds Tryz.pinned (.plain (OpenSpec.upto expcoreMoreSpec)) expcoreMoreUptoCard

/-- THE SECOND FORM's CARD OF 'ulplaw10.ExpcorePower'. -/
def expcorePowerUptoCard : Claim7 := { stood := { row := expcorePowerUptoRow, standIns := [], harness := (true, "9bc7ea6294b4791e834669294742add1819ff322a168e39e047785a090585a19"), looks := false }, kinds := [], alts := [], laidByText := true, laidKinds := [.data], laidTests := true, laidLooks := .later }
def ExpcorePowerUptoCardSaid : Prop := Claim7.holds Tryz.pinned (.plain (OpenSpec.upto expcorePowerSpec)) expcorePowerUptoCard
end Rows
end Go.Proofs.YtkdicconchobfaaGreatDoor
