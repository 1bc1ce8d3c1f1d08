/-
  DERIVED. GIVEN WITH THE SEED: THE CARDS: each row of YtgpjplelgffocaaDoorRows.lean that lists a variable, with what it lists TIED to the program's text (the seventh form; the later family's looks); each row that meets fmt, with fmt's text TOLD by the authors' own Lean function (tested against real Go, not proved from fmt's source: count such statements apart). THE CARD IS WHAT COUNTS. Prove the row's statement (the work); the ties are given (YtgpjplelgffocaaDoorTie.lean); close each card by the builder's one call (the guide's Derived/Test/ToyasCard.lean, 'card_holds'). Laid BY PROGRAM, IN A SANDBOX (cutbox-door.mjs). By AI agents, Wed Nov 11 2026. No macro, syntax, notation, axiom, sorry.
-/
import Derived.Test.YtgpjplelgffocaaDoorRows
import GoSem.ClaimSeven
namespace Go.Proofs.YtgpjplelgffocaaDoor
namespace Rows

/-- THE TIED CARD OF 'ulplaw23.ExactPoints'. -/
def exactPointsCard : Claim7 := { stood := { row := exactPointsRow, standIns := [], harness := (true, "fe5556957101ca0be7292b19a89a04f9dae970be42226f72eb7fb443e5c22f9f"), looks := false }, kinds := [], alts := [], laidByText := true, laidKinds := [.data], laidTests := true, laidLooks := .later }
def ExactPointsCardSaid : Prop := Claim7.holds Tryd.pinned (.plain (OpenSpec.ofChange exactPointsSpec)) exactPointsCard

/-- THE TIED CARD OF 'ulplaw23.ExactFew'. -/
def exactFewCard : Claim7 := { stood := { row := exactFewRow, standIns := [], harness := (true, "fe5556957101ca0be7292b19a89a04f9dae970be42226f72eb7fb443e5c22f9f"), looks := false }, kinds := [], alts := [], laidByText := true, laidKinds := [.data], laidTests := true, laidLooks := .later }
def ExactFewCardSaid : Prop := Claim7.holds Tryd.pinned (.plain (OpenSpec.ofChange exactFewSpec)) exactFewCard

/-- THE TIED CARD OF 'ulplaw23.ExactBack'. -/
def exactBackCard : Claim7 := { stood := { row := exactBackRow, standIns := [], harness := (true, "fe5556957101ca0be7292b19a89a04f9dae970be42226f72eb7fb443e5c22f9f"), looks := false }, kinds := [], alts := [], laidByText := true, laidKinds := [.data], laidTests := true, laidLooks := .later }
def ExactBackCardSaid : Prop := Claim7.holds Tryd.pinned (.plain (OpenSpec.ofChange exactBackSpec)) exactBackCard

/-- THE TIED CARD OF 'ulplaw23.ExactMirror'. -/
def exactMirrorCard : Claim7 := { stood := { row := exactMirrorRow, standIns := [], harness := (true, "fe5556957101ca0be7292b19a89a04f9dae970be42226f72eb7fb443e5c22f9f"), looks := false }, kinds := [], alts := [], laidByText := true, laidKinds := [.data], laidTests := true, laidLooks := .later }
def ExactMirrorCardSaid : Prop := Claim7.holds Tryd.pinned (.plain (OpenSpec.ofChange exactMirrorSpec)) exactMirrorCard

/-- THE SECOND FORM's CARD OF 'ulplaw23.ExactPoints'. -/
def exactPointsUptoCard : Claim7 := { stood := { row := exactPointsUptoRow, standIns := [], harness := (true, "fe5556957101ca0be7292b19a89a04f9dae970be42226f72eb7fb443e5c22f9f"), looks := false }, kinds := [], alts := [], laidByText := true, laidKinds := [.data], laidTests := true, laidLooks := .later }
def ExactPointsUptoCardSaid : Prop := Claim7.holds Tryd.pinned (.plain (OpenSpec.upto exactPointsSpec)) exactPointsUptoCard

/-- THE SECOND FORM's CARD OF 'ulplaw23.ExactFew'. -/
def exactFewUptoCard : Claim7 := { stood := { row := exactFewUptoRow, standIns := [], harness := (true, "fe5556957101ca0be7292b19a89a04f9dae970be42226f72eb7fb443e5c22f9f"), looks := false }, kinds := [], alts := [], laidByText := true, laidKinds := [.data], laidTests := true, laidLooks := .later }
def ExactFewUptoCardSaid : Prop := Claim7.holds Tryd.pinned (.plain (OpenSpec.upto exactFewSpec)) exactFewUptoCard

/-- THE SECOND FORM's CARD OF 'ulplaw23.ExactBack'. -/
def exactBackUptoCard : Claim7 := { stood := { row := exactBackUptoRow, standIns := [], harness := (true, "fe5556957101ca0be7292b19a89a04f9dae970be42226f72eb7fb443e5c22f9f"), looks := false }, kinds := [], alts := [], laidByText := true, laidKinds := [.data], laidTests := true, laidLooks := .later }
def ExactBackUptoCardSaid : Prop := Claim7.holds Tryd.pinned (.plain (OpenSpec.upto exactBackSpec)) exactBackUptoCard

/-- THE SECOND FORM's CARD OF 'ulplaw23.ExactMirror'. -/
def exactMirrorUptoCard : Claim7 := { stood := { row := exactMirrorUptoRow, standIns := [], harness := (true, "fe5556957101ca0be7292b19a89a04f9dae970be42226f72eb7fb443e5c22f9f"), looks := false }, kinds := [], alts := [], laidByText := true, laidKinds := [.data], laidTests := true, laidLooks := .later }
def ExactMirrorUptoCardSaid : Prop := Claim7.holds Tryd.pinned (.plain (OpenSpec.upto exactMirrorSpec)) exactMirrorUptoCard
end Rows
end Go.Proofs.YtgpjplelgffocaaDoor
