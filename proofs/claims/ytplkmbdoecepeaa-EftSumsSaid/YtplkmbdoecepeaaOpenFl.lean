/- A slice of floats that came in, opened; and how long it is where the input is small. -/
import Derived.Test.YtplkmbdoecepeaaRows
import Derived.Test.YtplkmbdoecepeaaLst
import Derived.WalkKit
import Derived.ProofKit
import Derived.Deep.Slices
namespace Go.Proofs.Ytplkmbdoecepeaa
open Go.ChangeShapes Go.WideShapes Go.ChangeAt Go.RowKit Go.Deep Go.Proofs.YtplkmbdoecepeaaW.PrintWords
set_option linter.unusedVariables false

theorem trod_float {H : Type} {enc : TypeId × Value → H} {P : Program} {w : World} {base : Nat} {spare : Nat → Bool} {held : Bool} {n : Nat} {t : TypeId} {v : Value} {x : DataW H × List MemPlace} (ht : P.underlying t = some (.float .f64)) (h : DataW.trod enc P w base spare held n t [v] = some x) : ∃ b, v = .float .f64 b := by
  cases n with
  | zero => simp [DataW.trod] at h
  | succ n =>
    cases v with
    | float k b =>
      cases k with
      | f64 => exact ⟨b, rfl⟩
      | f32 => simp [DataW.trod, ht] at h
    | _ => simp [DataW.trod, ht] at h

theorem open_floats {H : Type} {enc : TypeId × Value → H} {P : Program} {w : World} {base : Nat} {spare : Nat → Bool} {held : Bool} {t e : TypeId} {A : Option Addr} {len cap : Nat} {d : DataW H} {ps : List MemPlace}
    (ht : P.underlying t = some (.slice e)) (he : P.underlying e = some (.float .f64)) (hc : P.cellsOf e = 1) (h : DataW.Trod enc P w base spare held t (.slice A len cap) d ps) :
    ∃ l : List Nat, l.length = len ∧ len ≤ cap ∧ kF.C w A len l ∧ (d = .nil ∧ len = 0 ∨ ∃ el sp, d = .slice el sp ∧ el.length = len) := by
  obtain ⟨fuel, hf⟩ := h
  rcases open_slice1 ht hc hf with ⟨hcs, hx⟩ | ⟨a, len', cap', m, n, V, D, Pl, hcs, _, hl, hm, hmm, hx, hV⟩
  · simp [Value.cells] at hcs
    obtain ⟨rfl, rfl, rfl⟩ := hcs
    obtain ⟨rfl, _⟩ := Prod.mk.inj hx
    exact ⟨[], rfl, Nat.le_refl _, ⟨rfl, by omega, fun h => absurd h (by omega)⟩, .inl ⟨rfl, rfl⟩⟩
  · simp [Value.cells] at hcs
    obtain ⟨rfl, rfl, rfl⟩ := hcs
    obtain ⟨rfl, _⟩ := Prod.mk.inj hx
    have hle : len ≤ m := by rw [hmm]; split <;> omega
    have hval : ∀ i, ∃ b, i < len → V i = .float .f64 b := by
      intro i
      by_cases hi : i < len
      · obtain ⟨b, hb⟩ := trod_float he (hV i (by omega)).2
        exact ⟨b, fun _ => hb⟩
      · exact ⟨0, fun h => absurd h hi⟩
    obtain ⟨B, hB⟩ := Classical.axiomOfChoice hval
    refine ⟨(List.range len).map B, by simp, hl, ⟨by simp, by unfold maxLen at hm; omega, fun _ => ⟨a, rfl, fun j p hp => ?_⟩⟩, .inr ⟨_, _, rfl, by simp⟩⟩
    have hj : j < len := by have := (List.getElem?_eq_some_iff.1 hp).1; simpa using this
    have hp' : p = B j := by simp [hj] at hp; exact hp.symm
    refine ⟨[.float .f64 (B j)], rfl, by rw [hp']; rfl, fun i u hu => ?_⟩
    match i, hu with
    | 0, hu =>
      simp at hu
      subst hu
      have := (hV j (by omega)).1
      rw [hB j hj] at this
      simpa [kF, Kd.scalar] using this

/-- What the bound gives: the list's length. -/
theorem short {H : Type} {d d' : DataW H} {len : Nat} (h : d = .nil ∧ len = 0 ∨ ∃ el sp, d = .slice el sp ∧ el.length = len) (hk : Rows.uptoSmall H [d, d'] = true) : len ≤ 1048576 := by
  have h1 : Rows.uptoBulkAll [d, d'] ≤ 1048576 := of_decide_eq_true hk
  rcases h with ⟨_, rfl⟩ | ⟨el, sp, rfl, rfl⟩
  · omega
  · have key : ∀ l : List (DataW H), l.length ≤ Rows.uptoBulkAll l := by
      intro l
      induction l with
      | nil => simp [Rows.uptoBulkAll]
      | cons x r ih =>
        have h1 : 1 ≤ Rows.uptoBulk x := by
          cases x with
          | lit l => cases l <;> simp [Rows.uptoBulk]
          | _ => simp [Rows.uptoBulk]
        simp only [Rows.uptoBulkAll, List.length_cons]; omega
    have := key el
    simp only [Rows.uptoBulkAll, Rows.uptoBulk] at h1
    omega
end Go.Proofs.Ytplkmbdoecepeaa
