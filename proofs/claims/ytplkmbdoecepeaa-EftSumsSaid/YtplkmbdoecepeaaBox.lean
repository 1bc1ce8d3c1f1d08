/- Structs in memory. -/
import Derived.Test.YtplkmbdoecepeaaWd
namespace Go.Proofs.Ytplkmbdoecepeaa
open Go.RowKit Go.Proofs.YtplkmbdoecepeaaW.PrintWords Limb
set_option linter.unusedVariables false
set_option linter.unusedSimpArgs false
section
variable {P : Program} {ops : Array Oper} {rest : List Oper} {o : Oper} {a : Act} {Q : Exit → Act → World → Prop}
/-- A struct laid into its box. -/
theorem store_box {W : World} (t : TypeId) (p : Tmp) (x : Operand) (ho : o.op = .store t (.tmp p) x) (hgd : o.guard = none) (hN : o.dst = none) {g : Nat} {cur : Array Value} {e : TypeId} (u : Value) (seg : List Value)
    (haddr : a.eval (.tmp p) = .pointer (some ⟨g, 0, none⟩)) (hx : a.eval x = u) (hu : u.cells.toList = seg) (ht : (P.info? t).map (·.size) = some seg.length) (h1 : ∀ q ∈ seg, q.oneCell' = true)
    (hh : W.heap[g]? = some (.cells cur e (0, 0))) (hlen : cur.size = seg.length)
    (h : ∀ w1, w1.heap[g]? = some (.cells seg.toArray e (0, 0)) → W.grownBy w1 (some g) → wpList P ops Q rest a w1) : wpList P ops Q (o :: rest) a W := by
  have hst := run_store_run (P := P) t u seg hh hu ht (o := 0) (by omega) h1
  refine store_event hgd ho hN (w1 := W.setCells g 0 seg) ?_ ?_
  · simp [execOp, ho, haddr, hx, hst]
  · rintro w' rfl
    obtain ⟨cur', h3, h4, h5⟩ := setCells_row seg 0 W cur hh (by omega)
    obtain ⟨s1, s2, s3, s4⟩ := setCells_same g seg 0 W
    refine h _ ?_ ⟨s1, s2, s3, by rw [s4]; exact Nat.le_refl _, fun k _ hk => setCells_far seg _ k (fun he => hk (by rw [he]))⟩
    rw [h3]
    have : cur' = seg.toArray := by
      apply Array.toList_inj.1
      rw [h5]; simp
      omega
    rw [this]
end
/-- The same, cell by cell. -/
theorem box_set {W : World} {g : Nat} {cur : Array Value} {e : TypeId} {a b c : Value} (hh : W.heap[g]? = some (.cells cur e (0, 0))) (hl : cur.size = 3) :
    (((W.setCell ⟨g, 0, none⟩ a).setCell ⟨g, 1, none⟩ b).setCell ⟨g, 2, none⟩ c).heap[g]? = some (.cells #[a, b, c] e (0, 0)) ∧ W.grownBy (((W.setCell ⟨g, 0, none⟩ a).setCell ⟨g, 1, none⟩ b).setCell ⟨g, 2, none⟩ c) (some g) := by
  obtain ⟨cur', h3, h4, h5⟩ := setCells_row [a, b, c] 0 W cur hh (by simp [hl])
  obtain ⟨s1, s2, s3, s4⟩ := setCells_same g [a, b, c] 0 W
  have he : W.setCells g 0 [a, b, c] = ((W.setCell ⟨g, 0, none⟩ a).setCell ⟨g, 1, none⟩ b).setCell ⟨g, 2, none⟩ c := rfl
  rw [he] at h3 s1 s2 s3 s4
  refine ⟨?_, s1, s2, s3, by rw [s4]; exact Nat.le_refl _, fun k _ hk => by rw [← he]; exact setCells_far _ _ k (fun he => hk (by rw [he]))⟩
  rw [h3]
  have : cur' = #[a, b, c] := by
    apply Array.toList_inj.1
    rw [h5]; simp [hl]
  rw [this]
theorem box_cell {w : World} {g : Nat} {e : TypeId} {cur : Array Value} (hh : w.heap[g]? = some (.cells cur e (0, 0))) (i : Nat) {v : Value} (hi : cur[i]? = some v) : w.cell? ⟨g, i, none⟩ = some v ∧ w.frozen? ⟨g, i, none⟩ = false :=
  ⟨(cell_of_row w g i cur e (0, 0) hh).trans hi, blk_frozen hh _⟩
theorem size_alloc' (w : World) (o : Obj) : (w.alloc o).heap.size = w.heap.size + 1 := by simp [go_sem]
end Go.Proofs.Ytplkmbdoecepeaa
