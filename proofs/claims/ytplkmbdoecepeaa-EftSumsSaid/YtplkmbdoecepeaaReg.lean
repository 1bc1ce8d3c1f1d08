/- A region that draws its order, by what each of its operations keeps. -/
import Derived.Deep.RegionHeld
import Derived.Orders
namespace Go.Proofs.Ytplkmbdoecepeaa
open Go
section
variable {P : Program} {ops : Array Oper} {Q : Exit → Act → World → Prop}

theorem count_set {l : List Bool} {i : Nat} (h : l[i]? = some false) : (l.set i true).count false + 1 = l.count false := by
  induction l generalizing i with
  | nil => simp at h
  | cons x l ih =>
    cases i with
    | zero => simp at h; subst h; simp
    | succ i =>
      simp at h
      have := ih h
      simp only [List.set_cons_succ, List.count_cons]
      omega
theorem count_zero {l : List Bool} (h : l.count false = 0) {i : Nat} (hi : i < l.length) : l[i]? = some true := by
  have := List.count_eq_zero.1 h
  rw [List.getElem?_eq_getElem hi]
  cases hx : l[i] with
  | true => rfl
  | false => exact absurd (hx ▸ List.getElem_mem hi) this

def Acyclic (ops : Array Oper) : Bool := (List.range ops.size).all fun i => ((ops[i]?).map (·.after.all fun e => decide (e.on < i))).getD true

theorem ready_all (hac : Acyclic ops = true) {listed : Array Bool} (hs : listed.size = ops.size) (hr : Region.ready .any ops listed = []) : ∀ i, i < ops.size → listed.getD i false = true := by
  intro i
  induction i using Nat.strongRecOn with
  | _ i ih =>
    intro hi
    refine Classical.byContradiction fun hf => ?_
    have hf' : listed.getD i true = false := by
      have h1 : listed.getD i false = listed.getD i true := by simp [Array.getD, hs, hi]
      rw [← h1]; simpa using hf
    have : i ∈ Region.ready .any ops listed := by
      unfold Region.ready
      rw [List.mem_filter]
      refine ⟨List.mem_range.2 hi, ?_⟩
      rw [hf']
      have ho : ops[i]? = some ops[i] := Array.getElem?_eq_getElem hi
      have ha := List.all_eq_true.1 hac i (List.mem_range.2 hi)
      rw [ho] at ha ⊢
      simp only [Option.map_some, Option.getD_some, Bool.not_false, Bool.true_and] at ha ⊢
      rw [Array.all_eq_true'] at ha ⊢
      intro e he
      have h2 := ha e he
      have h3 : e.on < i := by simpa using h2
      rw [ih e.on h3 (by omega)]
      simp
    rw [hr] at this
    cases this

theorem wpAny_inv (hac : Acyclic ops = true) (I : Array Bool → Act → World → Prop)
    (hstep : ∀ i o, ops[i]? = some o → ∀ (listed : Array Bool) a w, listed.size = ops.size → listed.getD i true = false → (o.after.all fun e => !Region.binds .any e || listed.getD e.on false) = true → I listed a w → ∀ K : Act → World → Prop, Shut (∀ a' w', I (listed.setIfInBounds i true) a' w' → K a' w') → if Region.wanted o (yielded ops a.tmps) = true then Oper.wp P o a w K Q else K (a.put o.dst undef) w)
    (hend : ∀ listed a w, (∀ i, i < ops.size → listed.getD i false = true) → I listed a w → Q .normal a w) :
    ∀ (fuel : Nat) (listed : Array Bool) a w, listed.size = ops.size → listed.toList.count false ≤ fuel → I listed a w → wpAny P .any ops Q fuel listed a w
  | 0, listed, a, w, hs, hc, hI => by
    have hall : ∀ i, i < ops.size → listed.getD i false = true := by
      intro i hi
      have := count_zero (l := listed.toList) (by omega) (i := i) (by simp [hs, hi])
      simp only [Array.getElem?_toList] at this
      simp [this]
    refine ⟨?_, hend _ _ _ hall hI⟩
    unfold Region.ready
    rw [List.filter_eq_nil_iff]
    intro i hi
    have := hall i (List.mem_range.1 hi)
    have h1 : listed.getD i true = true := by
      have h2 : listed.getD i true = listed.getD i false := by simp [Array.getD, hs, List.mem_range.1 hi]
      rw [h2]; exact this
    rw [h1]; simp
  | fuel + 1, listed, a, w, hs, hc, hI => by
    refine ⟨fun hr => hend _ _ _ (ready_all hac hs hr) hI, fun i hi => ?_⟩
    unfold Region.ready at hi
    obtain ⟨hi1, hi2⟩ := List.mem_filter.1 hi
    have hil := List.mem_range.1 hi1
    rw [Bool.and_eq_true] at hi2
    have ho : ops[i]? = some ops[i] := Array.getElem?_eq_getElem hil
    rw [ho] at hi2
    simp only [Option.map_some, Option.getD_some, Bool.not_eq_true'] at hi2
    refine wpOp_step ho fun K' hK => ?_
    refine hstep i _ ho listed a w hs hi2.1 hi2.2 hI K' (fun a' w' hI' => hK a' w' ?_)
    refine wpAny_inv hac I hstep hend fuel _ a' w' (by simp [hs]) ?_ hI'
    have h1 : listed.toList[i]? = some false := by
      have h2 := hi2.1
      rw [Array.getElem?_toList]
      have h3 : i < listed.size := by omega
      rw [Array.getElem?_eq_getElem h3]
      simp [Array.getD, h3] at h2
      rw [h2]
    have h2 := count_set h1
    rw [Array.toList_setIfInBounds]
    omega

theorem wp_region_inv {id : Nat} {a : Act} {w : World} (hm : P.follows .mixedOrders = true) (hac : Acyclic ops = true) (I : Array Bool → Act → World → Prop) (h0 : I (Array.replicate ops.size false) a w.drew)
    (hstep : ∀ i o, ops[i]? = some o → ∀ (listed : Array Bool) a w, listed.size = ops.size → listed.getD i true = false → (o.after.all fun e => !Region.binds .any e || listed.getD e.on false) = true → I listed a w → ∀ K : Act → World → Prop, Shut (∀ a' w', I (listed.setIfInBounds i true) a' w' → K a' w') → if Region.wanted o (yielded ops a.tmps) = true then Oper.wp P o a w K Q else K (a.put o.dst undef) w)
    (hend : ∀ listed a w, (∀ i, i < ops.size → listed.getD i false = true) → I listed a w → Q .normal a w) : (Code.region id ops true).wp P Q a w :=
  wp_region_any hm (wpAny_inv hac I hstep hend ops.size _ a _ (by simp) (by
    refine Nat.le_trans List.count_le_length ?_
    simp) h0)
end
end Go.Proofs.Ytplkmbdoecepeaa
