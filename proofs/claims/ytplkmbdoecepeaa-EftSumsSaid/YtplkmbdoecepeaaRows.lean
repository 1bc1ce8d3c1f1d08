/-
  No cell of these rows narrows 'for every input' (looked for: loops, veiled, ifaces, maps, wideKeys, modest, calm, conditions, laid).
  DERIVED. THE GIVEN ROWS OF THIS SEAT. 6 by the template 'for every input the law returns true; each argument reads behind the call as it read before'; 0 by the template 'total and deterministic' (their statements: YtplkmbdoecepeaaTotals.lean).
  GIVEN WITH THE SEED: the statements are not yours to turn. If you find one false, say at which input.
  Laid BY PROGRAM, IN A SANDBOX (cutbox-rows.mjs): the forced cells as the released guide's own fill.sh prints them over the translation 86d01460ae733cfa… (all of the seat's roots in one cut). By AI agents, Wed Nov 11 2026. No macro, syntax, notation, axiom, sorry.
-/
import Derived.Test.YtplkmbdoecepeaaChecked
import GoSem.Claim
import GoSem.ClaimJoined
import GoSem.ClaimMapViews
import Derived.JoinedTies
import Derived.KernelRfl
namespace Go.Proofs.Ytplkmbdoecepeaa
/- THE CELL 'sum', in the pinned program and in every row, IS THE sha256 OF THE DUMP (.gsa) THAT YtplkmbdoecepeaaProg.lean LOADS. Nothing in Lean hashes anything: it is a label: what it is worth is what the hold of that sum in a sandbox is worth. -/
noncomputable def Try.pinned : Pinned := { name := "ytplkmbdoecepeaa", sum := "86d01460ae733cfabad29522ce686d909d8e0e3a326e8a9b69760069dd4671c9", checked := Try.checked }
namespace Rows
def none {H : Type} : Left H := { results := [], args := [] }

/-- 'ulplaw07.EftOrder': WHATEVER THE INPUT: true; the input reads as it did. -/
def eftOrderSpec : ChangeSpec := { name := "eftOrder", fn := fun _ => fun
  | [d1, d2] => { results := [.lit (.bool true)], args := [d1, d2] }
  | _ => none }
def eftOrderRow : OpenClaim := { program := "ytplkmbdoecepeaa", sum := "86d01460ae733cfabad29522ce686d909d8e0e3a326e8a9b69760069dd4671c9", func := "ulp/ulplaw07.EftOrder", spec := "eftOrder", inPlace := ["math.Float64bits"], apart := false }
def EftOrderSaid : Prop := eftOrderRow.holds Try.pinned (OpenSpec.ofChange eftOrderSpec)

/-- ITS FALSE NEIGHBOUR: 'it returns false'. Refute it at one input. -/
def eftOrderWrong : ChangeSpec := { name := "eftOrder", fn := fun _ => fun
  | [d1, d2] => { results := [.lit (.bool false)], args := [d1, d2] }
  | _ => none }
def EftOrderWrongFalsely : Prop := eftOrderRow.holds Try.pinned (OpenSpec.ofChange eftOrderWrong)

/-- 'ulplaw07.EftSteps': WHATEVER THE INPUT: true; the input reads as it did. -/
def eftStepsSpec : ChangeSpec := { name := "eftSteps", fn := fun _ => fun
  | [d1, d2] => { results := [.lit (.bool true)], args := [d1, d2] }
  | _ => none }
def eftStepsRow : OpenClaim := { program := "ytplkmbdoecepeaa", sum := "86d01460ae733cfabad29522ce686d909d8e0e3a326e8a9b69760069dd4671c9", func := "ulp/ulplaw07.EftSteps", spec := "eftSteps", apart := false }
def EftStepsSaid : Prop := eftStepsRow.holds Try.pinned (OpenSpec.ofChange eftStepsSpec)

/-- ITS FALSE NEIGHBOUR: 'it returns false'. Refute it at one input. -/
def eftStepsWrong : ChangeSpec := { name := "eftSteps", fn := fun _ => fun
  | [d1, d2] => { results := [.lit (.bool false)], args := [d1, d2] }
  | _ => none }
def EftStepsWrongFalsely : Prop := eftStepsRow.holds Try.pinned (OpenSpec.ofChange eftStepsWrong)

/-- 'ulplaw07.EftExact': WHATEVER THE INPUT: true; the input reads as it did. -/
def eftExactSpec : ChangeSpec := { name := "eftExact", fn := fun _ => fun
  | [d1, d2] => { results := [.lit (.bool true)], args := [d1, d2] }
  | _ => none }
def eftExactRow : OpenClaim := { program := "ytplkmbdoecepeaa", sum := "86d01460ae733cfabad29522ce686d909d8e0e3a326e8a9b69760069dd4671c9", func := "ulp/ulplaw07.EftExact", spec := "eftExact", inPlace := ["math.Float64bits", "math.Float64frombits"], apart := false }
def EftExactSaid : Prop := eftExactRow.holds Try.pinned (OpenSpec.ofChange eftExactSpec)

/-- ITS FALSE NEIGHBOUR: 'it returns false'. Refute it at one input. -/
def eftExactWrong : ChangeSpec := { name := "eftExact", fn := fun _ => fun
  | [d1, d2] => { results := [.lit (.bool false)], args := [d1, d2] }
  | _ => none }
def EftExactWrongFalsely : Prop := eftExactRow.holds Try.pinned (OpenSpec.ofChange eftExactWrong)

/-- 'ulplaw07.EftLists': WHATEVER THE INPUT: true; the input reads as it did. -/
def eftListsSpec : ChangeSpec := { name := "eftLists", fn := fun _ => fun
  | [d1, d2] => { results := [.lit (.bool true)], args := [d1, d2] }
  | _ => none }
def eftListsRow : OpenClaim := { program := "ytplkmbdoecepeaa", sum := "86d01460ae733cfabad29522ce686d909d8e0e3a326e8a9b69760069dd4671c9", func := "ulp/ulplaw07.EftLists", spec := "eftLists", apart := false }
def EftListsSaid : Prop := eftListsRow.holds Try.pinned (OpenSpec.ofChange eftListsSpec)

/-- ITS FALSE NEIGHBOUR: 'it returns false'. Refute it at one input. -/
def eftListsWrong : ChangeSpec := { name := "eftLists", fn := fun _ => fun
  | [d1, d2] => { results := [.lit (.bool false)], args := [d1, d2] }
  | _ => none }
def EftListsWrongFalsely : Prop := eftListsRow.holds Try.pinned (OpenSpec.ofChange eftListsWrong)

/-- 'ulplaw07.EftSums': WHATEVER THE INPUT: true; the input reads as it did. -/
def eftSumsSpec : ChangeSpec := { name := "eftSums", fn := fun _ => fun
  | [d1, d2] => { results := [.lit (.bool true)], args := [d1, d2] }
  | _ => none }
def eftSumsRow : OpenClaim := { program := "ytplkmbdoecepeaa", sum := "86d01460ae733cfabad29522ce686d909d8e0e3a326e8a9b69760069dd4671c9", func := "ulp/ulplaw07.EftSums", spec := "eftSums", inPlace := ["math.Float64bits"], apart := false }
def EftSumsSaid : Prop := eftSumsRow.holds Try.pinned (OpenSpec.ofChange eftSumsSpec)

/-- ITS FALSE NEIGHBOUR: 'it returns false'. Refute it at one input. -/
def eftSumsWrong : ChangeSpec := { name := "eftSums", fn := fun _ => fun
  | [d1, d2] => { results := [.lit (.bool false)], args := [d1, d2] }
  | _ => none }
def EftSumsWrongFalsely : Prop := eftSumsRow.holds Try.pinned (OpenSpec.ofChange eftSumsWrong)

/-- 'ulplaw07.EftOwn': WHATEVER THE INPUT: true; the input reads as it did. -/
def eftOwnSpec : ChangeSpec := { name := "eftOwn", fn := fun _ => fun
  | [d1, d2] => { results := [.lit (.bool true)], args := [d1, d2] }
  | _ => none }
def eftOwnRow : OpenClaim := { program := "ytplkmbdoecepeaa", sum := "86d01460ae733cfabad29522ce686d909d8e0e3a326e8a9b69760069dd4671c9", func := "ulp/ulplaw07.EftOwn", spec := "eftOwn", inPlace := ["math.Float64bits"], apart := false }
def EftOwnSaid : Prop := eftOwnRow.holds Try.pinned (OpenSpec.ofChange eftOwnSpec)

/-- ITS FALSE NEIGHBOUR: 'it returns false'. Refute it at one input. -/
def eftOwnWrong : ChangeSpec := { name := "eftOwn", fn := fun _ => fun
  | [d1, d2] => { results := [.lit (.bool false)], args := [d1, d2] }
  | _ => none }
def EftOwnWrongFalsely : Prop := eftOwnRow.holds Try.pinned (OpenSpec.ofChange eftOwnWrong)

/- THE SECOND FORM. 'bulk': how many values and letters a reading holds, each counted each time it is reached (what is shared counts as often as it is met; a slice's spare places count too). A statement '..UptoSaid' is the law's where the arguments, and the package variables that the reading takes, are together of bulk at most 1048576: NARROWER than '..Said'. Prove '..Said' where nothing that the law and all that it calls make is longer than what came in: it says more and counts as full. Else prove '..UptoSaid'. A law counts once. -/
mutual
def uptoBulk {H : Type} : DataW H → Nat
  | .lit (.string bytes) => bytes.length + 1
  | .lit _ => 1
  | .nil => 1
  | .ptr d => uptoBulk d + 1
  | .slice elems spare => uptoBulkAll elems + uptoBulkAll spare + 1
  | .agg parts => uptoBulkAll parts + 1
  | .iface _ d => uptoBulk d + 1
  | .map entries => uptoBulkEntries entries + 1
  | .held _ => 1
def uptoBulkAll {H : Type} : List (DataW H) → Nat
  | [] => 0
  | d :: r => uptoBulk d + uptoBulkAll r
def uptoBulkEntries {H : Type} : List (Lit × DataW H) → Nat
  | [] => 0
  | x :: r => uptoBulkEntry x + uptoBulkEntries r
def uptoBulkEntry {H : Type} : Lit × DataW H → Nat
  | (.string bytes, d) => bytes.length + uptoBulk d + 1
  | (_, d) => uptoBulk d + 1
 end
def uptoSmall : (H : Type) → List (DataW H) → Bool := fun _ ds => decide (uptoBulkAll ds ≤ 1048576)
def OpenSpec.upto (s : _root_.Go.ChangeSpec) : _root_.Go.OpenSpec := { _root_.Go.OpenSpec.ofChange s with cond := some uptoSmall }

/-- 'ulplaw07.EftOrder', WHERE WHAT IT READS IS OF BULK AT MOST 1048576: true; the input reads as it did. -/
def eftOrderUptoRow : OpenClaim := { program := "ytplkmbdoecepeaa", sum := "86d01460ae733cfabad29522ce686d909d8e0e3a326e8a9b69760069dd4671c9", func := "ulp/ulplaw07.EftOrder", spec := "eftOrder", inPlace := ["math.Float64bits"], apart := false, narrowed := true }
def EftOrderUptoSaid : Prop := eftOrderUptoRow.holds Try.pinned (OpenSpec.upto eftOrderSpec)

/-- 'ulplaw07.EftSteps', WHERE WHAT IT READS IS OF BULK AT MOST 1048576: true; the input reads as it did. -/
def eftStepsUptoRow : OpenClaim := { program := "ytplkmbdoecepeaa", sum := "86d01460ae733cfabad29522ce686d909d8e0e3a326e8a9b69760069dd4671c9", func := "ulp/ulplaw07.EftSteps", spec := "eftSteps", apart := false, narrowed := true }
def EftStepsUptoSaid : Prop := eftStepsUptoRow.holds Try.pinned (OpenSpec.upto eftStepsSpec)

/-- 'ulplaw07.EftExact', WHERE WHAT IT READS IS OF BULK AT MOST 1048576: true; the input reads as it did. -/
def eftExactUptoRow : OpenClaim := { program := "ytplkmbdoecepeaa", sum := "86d01460ae733cfabad29522ce686d909d8e0e3a326e8a9b69760069dd4671c9", func := "ulp/ulplaw07.EftExact", spec := "eftExact", inPlace := ["math.Float64bits", "math.Float64frombits"], apart := false, narrowed := true }
def EftExactUptoSaid : Prop := eftExactUptoRow.holds Try.pinned (OpenSpec.upto eftExactSpec)

/-- 'ulplaw07.EftLists', WHERE WHAT IT READS IS OF BULK AT MOST 1048576: true; the input reads as it did. -/
def eftListsUptoRow : OpenClaim := { program := "ytplkmbdoecepeaa", sum := "86d01460ae733cfabad29522ce686d909d8e0e3a326e8a9b69760069dd4671c9", func := "ulp/ulplaw07.EftLists", spec := "eftLists", apart := false, narrowed := true }
def EftListsUptoSaid : Prop := eftListsUptoRow.holds Try.pinned (OpenSpec.upto eftListsSpec)

/-- 'ulplaw07.EftSums', WHERE WHAT IT READS IS OF BULK AT MOST 1048576: true; the input reads as it did. -/
def eftSumsUptoRow : OpenClaim := { program := "ytplkmbdoecepeaa", sum := "86d01460ae733cfabad29522ce686d909d8e0e3a326e8a9b69760069dd4671c9", func := "ulp/ulplaw07.EftSums", spec := "eftSums", inPlace := ["math.Float64bits"], apart := false, narrowed := true }
def EftSumsUptoSaid : Prop := eftSumsUptoRow.holds Try.pinned (OpenSpec.upto eftSumsSpec)

/-- 'ulplaw07.EftOwn', WHERE WHAT IT READS IS OF BULK AT MOST 1048576: true; the input reads as it did. -/
def eftOwnUptoRow : OpenClaim := { program := "ytplkmbdoecepeaa", sum := "86d01460ae733cfabad29522ce686d909d8e0e3a326e8a9b69760069dd4671c9", func := "ulp/ulplaw07.EftOwn", spec := "eftOwn", inPlace := ["math.Float64bits"], apart := false, narrowed := true }
def EftOwnUptoSaid : Prop := eftOwnUptoRow.holds Try.pinned (OpenSpec.upto eftOwnSpec)

end Rows
end Go.Proofs.Ytplkmbdoecepeaa
