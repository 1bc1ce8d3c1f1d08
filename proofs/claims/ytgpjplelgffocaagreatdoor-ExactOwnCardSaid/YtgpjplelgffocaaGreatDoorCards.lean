/-
  DERIVED. GIVEN WITH THE SEED: THE CARDS: each row of YtgpjplelgffocaaGreatDoorRows.lean that lists a variable, with what it lists TIED to the program's text (the seventh form; the later family's looks); each row that meets fmt, with fmt's text TOLD by the authors' own Lean function (tested against real Go, not proved from fmt's source: count such statements apart). THE CARD IS WHAT COUNTS. Prove the row's statement (the work); the ties are given (YtgpjplelgffocaaGreatDoorTie.lean); close each card by the builder's one call (the guide's Derived/Test/ToyasCard.lean, 'card_holds'). Laid BY PROGRAM, IN A SANDBOX (cutbox-door.mjs). By AI agents, Wed Nov 11 2026. No macro, syntax, notation, axiom, sorry.
-/
import Derived.Test.YtgpjplelgffocaaGreatDoorRows
import GoSem.ClaimSeven
namespace Go.Proofs.YtgpjplelgffocaaGreatDoor
namespace Rows

/-- THE TIED CARD OF 'ulplaw23.ExactCases'. -/
def exactCasesCard : Claim7 := { stood := { row := exactCasesRow, standIns := [], harness := (true, "937c6fa9d3d6eb8631a054c226fd4c2e1a7aea0a5be803cafa20810dcd7463de"), looks := false }, kinds := [], alts := [], laidByText := true, laidKinds := [.data], laidTests := true, laidLooks := .later }
def ExactCasesCardSaid : Prop := Claim7.holds Tryz.pinned (.plain (OpenSpec.ofChange exactCasesSpec)) exactCasesCard

/-- THE TIED CARD OF 'ulplaw23.ExactOwn'. -/
def exactOwnCard : Claim7 := { stood := { row := exactOwnRow, standIns := [], harness := (true, "937c6fa9d3d6eb8631a054c226fd4c2e1a7aea0a5be803cafa20810dcd7463de"), looks := false }, kinds := [], alts := [], laidByText := true, laidKinds := [.data], laidTests := true, laidLooks := .later }
def ExactOwnCardSaid : Prop := Claim7.holds Tryz.pinned (.plain (OpenSpec.ofChange exactOwnSpec)) exactOwnCard

/-- THE SECOND FORM's CARD OF 'ulplaw23.ExactCases'. -/
def exactCasesUptoCard : Claim7 := { stood := { row := exactCasesUptoRow, standIns := [], harness := (true, "937c6fa9d3d6eb8631a054c226fd4c2e1a7aea0a5be803cafa20810dcd7463de"), looks := false }, kinds := [], alts := [], laidByText := true, laidKinds := [.data], laidTests := true, laidLooks := .later }
def ExactCasesUptoCardSaid : Prop := Claim7.holds Tryz.pinned (.plain (OpenSpec.upto exactCasesSpec)) exactCasesUptoCard

/-- THE SECOND FORM's CARD OF 'ulplaw23.ExactOwn'. -/
def exactOwnUptoCard : Claim7 := { stood := { row := exactOwnUptoRow, standIns := [], harness := (true, "937c6fa9d3d6eb8631a054c226fd4c2e1a7aea0a5be803cafa20810dcd7463de"), looks := false }, kinds := [], alts := [], laidByText := true, laidKinds := [.data], laidTests := true, laidLooks := .later }
def ExactOwnUptoCardSaid : Prop := Claim7.holds Tryz.pinned (.plain (OpenSpec.upto exactOwnSpec)) exactOwnUptoCard
end Rows
end Go.Proofs.YtgpjplelgffocaaGreatDoor
