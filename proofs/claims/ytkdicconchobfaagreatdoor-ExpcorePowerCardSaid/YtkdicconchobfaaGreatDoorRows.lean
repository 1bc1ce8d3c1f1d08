/-
  NARROWER THAN 'FOR EVERY INPUT', by the rows' own cells (each row's printed sentence says how): ExpcoreExp: laid · ExpcoreExpm1: laid · ExpcoreLess1: laid · ExpcoreMore: laid · ExpcorePower: laid.
  DERIVED. THE GIVEN ROWS OF THIS SEAT. 5 by the template 'for every input the law returns true; each argument reads behind the call as it read before'; 0 by the template 'total and deterministic' (their statements: YtkdicconchobfaaGreatDoorTotals.lean).
  GIVEN WITH THE SEED: the statements are not yours to turn. If you find one false, say at which input.
  Laid BY PROGRAM, IN A SANDBOX (cutbox-rows.mjs): the forced cells as the released guide's own fill.sh prints them over the translation 56b37ecd701f4599… (all of the seat's roots in one cut). By AI agents, Wed Nov 11 2026. No macro, syntax, notation, axiom, sorry.
-/
import Derived.Test.YtkdicconchobfaaGreatDoorChecked
import GoSem.Claim
import GoSem.ClaimJoined
import GoSem.ClaimMapViews
import Derived.JoinedTies
import Derived.KernelRfl
namespace Go.Proofs.YtkdicconchobfaaGreatDoor
/- THE CELL 'sum', in the pinned program and in every row, IS THE sha256 OF THE DUMP (.gsa) THAT YtkdicconchobfaaGreatDoorProg.lean LOADS. Nothing in Lean hashes anything: it is a label: what it is worth is what the hold of that sum in a sandbox is worth. -/
noncomputable def Tryz.pinned : Pinned := { name := "ytkdicconchobfaagreatdoor", sum := "56b37ecd701f459987693689125e030c717375a77e600884eaafe3cedcd664b3", checked := Tryz.checked }
namespace Rows
def none {H : Type} : Left H := { results := [], args := [] }

/- WHAT THE LISTED PACKAGE-LEVEL VARIABLES READ AS WHEN THE CALL BEGINS. Each datum BY PROGRAM (the guide's laid-datum.mjs) off the statement by which the dump's own 'gosem.cut.vars' lays the variable. In a bare row this is a premise. The card (YtkdicconchobfaaGreatDoorCards.lean) ties it to the program's text. -/
def laid_math_bits_deBruijn64tab {H : Type} : DataW H := .agg [.lit (.int .u8 0), .lit (.int .u8 1), .lit (.int .u8 56), .lit (.int .u8 2), .lit (.int .u8 57), .lit (.int .u8 49), .lit (.int .u8 28), .lit (.int .u8 3), .lit (.int .u8 61), .lit (.int .u8 58), .lit (.int .u8 42), .lit (.int .u8 50), .lit (.int .u8 38), .lit (.int .u8 29), .lit (.int .u8 17), .lit (.int .u8 4), .lit (.int .u8 62), .lit (.int .u8 47), .lit (.int .u8 59), .lit (.int .u8 36), .lit (.int .u8 45), .lit (.int .u8 43), .lit (.int .u8 51), .lit (.int .u8 22), .lit (.int .u8 53), .lit (.int .u8 39), .lit (.int .u8 33), .lit (.int .u8 30), .lit (.int .u8 24), .lit (.int .u8 18), .lit (.int .u8 12), .lit (.int .u8 5), .lit (.int .u8 63), .lit (.int .u8 55), .lit (.int .u8 48), .lit (.int .u8 27), .lit (.int .u8 60), .lit (.int .u8 41), .lit (.int .u8 37), .lit (.int .u8 16), .lit (.int .u8 46), .lit (.int .u8 35), .lit (.int .u8 44), .lit (.int .u8 21), .lit (.int .u8 52), .lit (.int .u8 32), .lit (.int .u8 23), .lit (.int .u8 11), .lit (.int .u8 54), .lit (.int .u8 26), .lit (.int .u8 40), .lit (.int .u8 15), .lit (.int .u8 34), .lit (.int .u8 20), .lit (.int .u8 31), .lit (.int .u8 10), .lit (.int .u8 25), .lit (.int .u8 14), .lit (.int .u8 19), .lit (.int .u8 9), .lit (.int .u8 13), .lit (.int .u8 8), .lit (.int .u8 7), .lit (.int .u8 6)]

/-- 'ulplaw10.ExpcoreExp': WHATEVER THE INPUT: true; the input reads as it did. -/
def expcoreExpSpec : ChangeSpec := { name := "expcoreExp", fn := fun _ => fun
  | [d1, d2] => { results := [.lit (.bool true)], args := [d1, d2] }
  | _ => none }
def expcoreExpRow : OpenClaim := { program := "ytkdicconchobfaagreatdoor", sum := "56b37ecd701f459987693689125e030c717375a77e600884eaafe3cedcd664b3", func := "ulp/ulplaw10.ExpcoreExp", spec := "expcoreExp", inPlace := ["math/bits.Add64", "math/bits.Sub64"], unfollowed := true, recurses := true, named := ["math/bits.deBruijn64tab", "math/bits.divideError", "math/bits.overflowError"], apart := false, laid := [("math/bits.deBruijn64tab", laid_math_bits_deBruijn64tab)] }
def ExpcoreExpSaid : Prop := expcoreExpRow.holds Tryz.pinned (OpenSpec.ofChange expcoreExpSpec)

/-- ITS FALSE NEIGHBOUR: 'it returns false'. Refute it at one input. -/
def expcoreExpWrong : ChangeSpec := { name := "expcoreExp", fn := fun _ => fun
  | [d1, d2] => { results := [.lit (.bool false)], args := [d1, d2] }
  | _ => none }
def ExpcoreExpWrongFalsely : Prop := expcoreExpRow.holds Tryz.pinned (OpenSpec.ofChange expcoreExpWrong)

/-- 'ulplaw10.ExpcoreExpm1': WHATEVER THE INPUT: true; the input reads as it did. -/
def expcoreExpm1Spec : ChangeSpec := { name := "expcoreExpm1", fn := fun _ => fun
  | [d1, d2] => { results := [.lit (.bool true)], args := [d1, d2] }
  | _ => none }
def expcoreExpm1Row : OpenClaim := { program := "ytkdicconchobfaagreatdoor", sum := "56b37ecd701f459987693689125e030c717375a77e600884eaafe3cedcd664b3", func := "ulp/ulplaw10.ExpcoreExpm1", spec := "expcoreExpm1", inPlace := ["math/bits.Add64", "math/bits.Sub64"], unfollowed := true, recurses := true, named := ["math/bits.deBruijn64tab", "math/bits.divideError", "math/bits.overflowError"], apart := false, laid := [("math/bits.deBruijn64tab", laid_math_bits_deBruijn64tab)] }
def ExpcoreExpm1Said : Prop := expcoreExpm1Row.holds Tryz.pinned (OpenSpec.ofChange expcoreExpm1Spec)

/-- ITS FALSE NEIGHBOUR: 'it returns false'. Refute it at one input. -/
def expcoreExpm1Wrong : ChangeSpec := { name := "expcoreExpm1", fn := fun _ => fun
  | [d1, d2] => { results := [.lit (.bool false)], args := [d1, d2] }
  | _ => none }
def ExpcoreExpm1WrongFalsely : Prop := expcoreExpm1Row.holds Tryz.pinned (OpenSpec.ofChange expcoreExpm1Wrong)

/-- 'ulplaw10.ExpcoreLess1': WHATEVER THE INPUT: true; the input reads as it did. -/
def expcoreLess1Spec : ChangeSpec := { name := "expcoreLess1", fn := fun _ => fun
  | [d1, d2] => { results := [.lit (.bool true)], args := [d1, d2] }
  | _ => none }
def expcoreLess1Row : OpenClaim := { program := "ytkdicconchobfaagreatdoor", sum := "56b37ecd701f459987693689125e030c717375a77e600884eaafe3cedcd664b3", func := "ulp/ulplaw10.ExpcoreLess1", spec := "expcoreLess1", inPlace := ["math/bits.Add64", "math/bits.Sub64"], unfollowed := true, recurses := true, named := ["math/bits.deBruijn64tab", "math/bits.divideError", "math/bits.overflowError"], apart := false, laid := [("math/bits.deBruijn64tab", laid_math_bits_deBruijn64tab)] }
def ExpcoreLess1Said : Prop := expcoreLess1Row.holds Tryz.pinned (OpenSpec.ofChange expcoreLess1Spec)

/-- ITS FALSE NEIGHBOUR: 'it returns false'. Refute it at one input. -/
def expcoreLess1Wrong : ChangeSpec := { name := "expcoreLess1", fn := fun _ => fun
  | [d1, d2] => { results := [.lit (.bool false)], args := [d1, d2] }
  | _ => none }
def ExpcoreLess1WrongFalsely : Prop := expcoreLess1Row.holds Tryz.pinned (OpenSpec.ofChange expcoreLess1Wrong)

/-- 'ulplaw10.ExpcoreMore': WHATEVER THE INPUT: true; the input reads as it did. -/
def expcoreMoreSpec : ChangeSpec := { name := "expcoreMore", fn := fun _ => fun
  | [d1, d2, d3] => { results := [.lit (.bool true)], args := [d1, d2, d3] }
  | _ => none }
def expcoreMoreRow : OpenClaim := { program := "ytkdicconchobfaagreatdoor", sum := "56b37ecd701f459987693689125e030c717375a77e600884eaafe3cedcd664b3", func := "ulp/ulplaw10.ExpcoreMore", spec := "expcoreMore", inPlace := ["math/bits.Add64", "math/bits.Sub64"], unfollowed := true, recurses := true, named := ["math/bits.deBruijn64tab", "math/bits.divideError", "math/bits.overflowError"], apart := false, laid := [("math/bits.deBruijn64tab", laid_math_bits_deBruijn64tab)] }
def ExpcoreMoreSaid : Prop := expcoreMoreRow.holds Tryz.pinned (OpenSpec.ofChange expcoreMoreSpec)

/-- ITS FALSE NEIGHBOUR: 'it returns false'. Refute it at one input. -/
def expcoreMoreWrong : ChangeSpec := { name := "expcoreMore", fn := fun _ => fun
  | [d1, d2, d3] => { results := [.lit (.bool false)], args := [d1, d2, d3] }
  | _ => none }
def ExpcoreMoreWrongFalsely : Prop := expcoreMoreRow.holds Tryz.pinned (OpenSpec.ofChange expcoreMoreWrong)

/-- 'ulplaw10.ExpcorePower': WHATEVER THE INPUT: true; the input reads as it did. -/
def expcorePowerSpec : ChangeSpec := { name := "expcorePower", fn := fun _ => fun
  | [d1, d2, d3] => { results := [.lit (.bool true)], args := [d1, d2, d3] }
  | _ => none }
def expcorePowerRow : OpenClaim := { program := "ytkdicconchobfaagreatdoor", sum := "56b37ecd701f459987693689125e030c717375a77e600884eaafe3cedcd664b3", func := "ulp/ulplaw10.ExpcorePower", spec := "expcorePower", inPlace := ["math/bits.Add64", "math/bits.Sub64"], unfollowed := true, recurses := true, named := ["math/bits.deBruijn64tab", "math/bits.divideError", "math/bits.overflowError"], apart := false, laid := [("math/bits.deBruijn64tab", laid_math_bits_deBruijn64tab)] }
def ExpcorePowerSaid : Prop := expcorePowerRow.holds Tryz.pinned (OpenSpec.ofChange expcorePowerSpec)

/-- ITS FALSE NEIGHBOUR: 'it returns false'. Refute it at one input. -/
def expcorePowerWrong : ChangeSpec := { name := "expcorePower", fn := fun _ => fun
  | [d1, d2, d3] => { results := [.lit (.bool false)], args := [d1, d2, d3] }
  | _ => none }
def ExpcorePowerWrongFalsely : Prop := expcorePowerRow.holds Tryz.pinned (OpenSpec.ofChange expcorePowerWrong)

/- THE SECOND FORM. 'bulk': how many values and letters a reading holds, each counted each time it is reached (what is shared counts as often as it is met; a slice's spare places count too). A statement '..UptoSaid' is the law's where the arguments, and the package variables that the reading takes, are together of bulk at most 1048576: NARROWER than '..Said'. Prove '..Said' where nothing that the law and all that it calls make is longer than what came in: it says more and counts as full. Else prove '..UptoSaid'. A law counts once. -/
mutual
def uptoBulk {H : Type} : DataW H → Nat
  | .lit (.string bytes) => bytes.length + 1
  | .lit _ => 1
  | .nil => 1
  | .ptr d => uptoBulk d + 1
  | .slice elems spare => uptoBulkAll elems + uptoBulkAll spare + 1
  | .agg parts => uptoBulkAll parts + 1
  | .iface _ d => uptoBulk d + 1
  | .map entries => uptoBulkEntries entries + 1
  | .held _ => 1
def uptoBulkAll {H : Type} : List (DataW H) → Nat
  | [] => 0
  | d :: r => uptoBulk d + uptoBulkAll r
def uptoBulkEntries {H : Type} : List (Lit × DataW H) → Nat
  | [] => 0
  | x :: r => uptoBulkEntry x + uptoBulkEntries r
def uptoBulkEntry {H : Type} : Lit × DataW H → Nat
  | (.string bytes, d) => bytes.length + uptoBulk d + 1
  | (_, d) => uptoBulk d + 1
 end
def uptoSmall : (H : Type) → List (DataW H) → Bool := fun _ ds => decide (uptoBulkAll ds ≤ 1048576)
def OpenSpec.upto (s : _root_.Go.ChangeSpec) : _root_.Go.OpenSpec := { _root_.Go.OpenSpec.ofChange s with cond := some uptoSmall }

/-- 'ulplaw10.ExpcoreExp', WHERE WHAT IT READS IS OF BULK AT MOST 1048576: true; the input reads as it did. -/
def expcoreExpUptoRow : OpenClaim := { program := "ytkdicconchobfaagreatdoor", sum := "56b37ecd701f459987693689125e030c717375a77e600884eaafe3cedcd664b3", func := "ulp/ulplaw10.ExpcoreExp", spec := "expcoreExp", inPlace := ["math/bits.Add64", "math/bits.Sub64"], unfollowed := true, recurses := true, named := ["math/bits.deBruijn64tab", "math/bits.divideError", "math/bits.overflowError"], apart := false, laid := [("math/bits.deBruijn64tab", laid_math_bits_deBruijn64tab)], narrowed := true }
def ExpcoreExpUptoSaid : Prop := expcoreExpUptoRow.holds Tryz.pinned (OpenSpec.upto expcoreExpSpec)

/-- 'ulplaw10.ExpcoreExpm1', WHERE WHAT IT READS IS OF BULK AT MOST 1048576: true; the input reads as it did. -/
def expcoreExpm1UptoRow : OpenClaim := { program := "ytkdicconchobfaagreatdoor", sum := "56b37ecd701f459987693689125e030c717375a77e600884eaafe3cedcd664b3", func := "ulp/ulplaw10.ExpcoreExpm1", spec := "expcoreExpm1", inPlace := ["math/bits.Add64", "math/bits.Sub64"], unfollowed := true, recurses := true, named := ["math/bits.deBruijn64tab", "math/bits.divideError", "math/bits.overflowError"], apart := false, laid := [("math/bits.deBruijn64tab", laid_math_bits_deBruijn64tab)], narrowed := true }
def ExpcoreExpm1UptoSaid : Prop := expcoreExpm1UptoRow.holds Tryz.pinned (OpenSpec.upto expcoreExpm1Spec)

/-- 'ulplaw10.ExpcoreLess1', WHERE WHAT IT READS IS OF BULK AT MOST 1048576: true; the input reads as it did. -/
def expcoreLess1UptoRow : OpenClaim := { program := "ytkdicconchobfaagreatdoor", sum := "56b37ecd701f459987693689125e030c717375a77e600884eaafe3cedcd664b3", func := "ulp/ulplaw10.ExpcoreLess1", spec := "expcoreLess1", inPlace := ["math/bits.Add64", "math/bits.Sub64"], unfollowed := true, recurses := true, named := ["math/bits.deBruijn64tab", "math/bits.divideError", "math/bits.overflowError"], apart := false, laid := [("math/bits.deBruijn64tab", laid_math_bits_deBruijn64tab)], narrowed := true }
def ExpcoreLess1UptoSaid : Prop := expcoreLess1UptoRow.holds Tryz.pinned (OpenSpec.upto expcoreLess1Spec)

/-- 'ulplaw10.ExpcoreMore', WHERE WHAT IT READS IS OF BULK AT MOST 1048576: true; the input reads as it did. -/
def expcoreMoreUptoRow : OpenClaim := { program := "ytkdicconchobfaagreatdoor", sum := "56b37ecd701f459987693689125e030c717375a77e600884eaafe3cedcd664b3", func := "ulp/ulplaw10.ExpcoreMore", spec := "expcoreMore", inPlace := ["math/bits.Add64", "math/bits.Sub64"], unfollowed := true, recurses := true, named := ["math/bits.deBruijn64tab", "math/bits.divideError", "math/bits.overflowError"], apart := false, laid := [("math/bits.deBruijn64tab", laid_math_bits_deBruijn64tab)], narrowed := true }
def ExpcoreMoreUptoSaid : Prop := expcoreMoreUptoRow.holds Tryz.pinned (OpenSpec.upto expcoreMoreSpec)

/-- 'ulplaw10.ExpcorePower', WHERE WHAT IT READS IS OF BULK AT MOST 1048576: true; the input reads as it did. -/
def expcorePowerUptoRow : OpenClaim := { program := "ytkdicconchobfaagreatdoor", sum := "56b37ecd701f459987693689125e030c717375a77e600884eaafe3cedcd664b3", func := "ulp/ulplaw10.ExpcorePower", spec := "expcorePower", inPlace := ["math/bits.Add64", "math/bits.Sub64"], unfollowed := true, recurses := true, named := ["math/bits.deBruijn64tab", "math/bits.divideError", "math/bits.overflowError"], apart := false, laid := [("math/bits.deBruijn64tab", laid_math_bits_deBruijn64tab)], narrowed := true }
def ExpcorePowerUptoSaid : Prop := expcorePowerUptoRow.holds Tryz.pinned (OpenSpec.upto expcorePowerSpec)

end Rows
end Go.Proofs.YtkdicconchobfaaGreatDoor
