/- A region that draws its order: each operation has its value, whatever came up before it. -/
import Derived.Test.YtplkmbdoecepeaaReg
import Derived.Test.YtplkmbdoecepeaaOneOne
namespace Go.Proofs.Ytplkmbdoecepeaa
open Go
set_option linter.unusedVariables false
set_option linter.unusedSimpArgs false
section
variable {P : Program} {ops : Array Oper} {Q : Exit → Act → World → Prop}

def upd (v : Nat → Value) (k : Nat) (x : Value) : Nat → Value := fun n => if n = k then x else v n
theorem upd_eq (v : Nat → Value) (k : Nat) (x : Value) : upd v k x k = x := by simp [upd]
theorem upd_ne (v : Nat → Value) {k n : Nat} (x : Value) (h : n ≠ k) : upd v k x n = v n := by simp [upd, h]

/-- F: what is known of an operation's value once it has come up; J: what holds of the world throughout. -/
theorem wp_region_vals {id : Nat} {w : World} (hm : P.follows .mixedOrders = true) (hac : Acyclic ops = true) (T : (Nat → Value) → Array Value) (v0 : Nat → Value) (F : Nat → Value → World → Prop) (J : World → Prop) (hJ : J w.drew)
    (hstep : ∀ k o, ops[k]? = some o → ∀ (v : Nat → Value) (W : World) (L : Nat → Prop), J W → (∀ j, L j → F j (v j) W) → ¬ L k → (o.after.all fun e => !Region.binds .any e || decide (e.on < ops.size)) = true → (∀ e ∈ o.after, Region.binds .any e = true → L e.on) →
      ∀ K : Act → World → Prop, Shut (∀ x W', J W' → (∀ j, L j → F j (v j) W → F j (v j) W') → F k x W' → K { tmps := T (upd v k x), defers := [] } W') →
        if Region.wanted o (yielded ops (T v)) = true then Oper.wp P o { tmps := T v, defers := [] } W K Q else K (Act.put { tmps := T v, defers := [] } o.dst undef) W)
    (hend : ∀ v W, J W → (∀ j, j < ops.size → F j (v j) W) → Q .normal { tmps := T v, defers := [] } W) : (Code.region id ops true).wp P Q { tmps := T v0, defers := [] } w := by
  refine wp_region_inv hm hac (I := fun L a W => L.size = ops.size ∧ J W ∧ ∃ v, a = { tmps := T v, defers := [] } ∧ ∀ j, L.getD j false = true → F j (v j) W) ?_ ?_ ?_
  · refine ⟨by simp, hJ, v0, rfl, ?_⟩
    intro j hj
    by_cases hj2 : j < ops.size
    · simp [Array.getD, hj2] at hj
    · simp [Array.getD, hj2] at hj
  · intro k o ho L a W hs hl haft hI K hK
    obtain ⟨hsz, hJW, v, rfl, hF⟩ := hI
    have hk : k < ops.size := by
      refine Classical.byContradiction fun hc => ?_
      rw [Array.getElem?_eq_none (by omega)] at ho
      cases ho
    have hafter : ∀ e ∈ o.after, Region.binds .any e = true → L.getD e.on false = true := by
      intro e he hb
      rw [Array.all_eq_true'] at haft
      have := haft e he
      rw [hb] at this
      simpa using this
    refine hstep k o ho v W (fun j => L.getD j false = true) hJW hF ?_ ?_ hafter K ?_
    · have := not_listed hl
      rw [this]; simp
    · have hac' := List.all_eq_true.1 hac k (List.mem_range.2 hk)
      rw [ho] at hac'
      simp only [Option.map_some, Option.getD_some] at hac'
      rw [Array.all_eq_true'] at hac' ⊢
      intro e he
      have := hac' e he
      have h3 : e.on < k := by simpa using this
      simp; right; omega
    · intro x W' hJ' hmono hx
      refine hK.out _ _ ⟨by simp [hsz], hJ', upd v k x, rfl, ?_⟩
      intro j hj
      by_cases hjk : j = k
      · subst hjk
        rw [upd_eq]; exact hx
      · rw [get_ne (Ne.symm hjk)] at hj
        rw [upd_ne v x hjk]
        exact hmono j hj (hF j hj)
  · intro L a W hall hI
    obtain ⟨hsz, hJW, v, rfl, hF⟩ := hI
    exact hend v W hJW (fun j hj => hF j (hall j hj))
end

/-- The frame, each operation's slot holding its value. -/
def setAll : List Nat → Nat → (Nat → Value) → Array Value → Array Value
  | [], _, _, fr => fr
  | s :: r, k, v, fr => setAll r (k + 1) v (fr.setIfInBounds s (v k))
theorem setAll_self (fr : Array Value) : ∀ (slots : List Nat) (k : Nat) (v : Nat → Value), (∀ j s, slots[j]? = some s → v (k + j) = fr.getD s undef) → setAll slots k v fr = fr
  | [], _, _, _ => rfl
  | s :: r, k, v, h => by
    have h0 : v k = fr.getD s undef := h 0 s rfl
    have he : fr.setIfInBounds s (v k) = fr := by
      rw [h0]
      apply Array.ext_getElem?
      intro i
      rw [Array.getElem?_setIfInBounds]
      split
      · rename_i h1
        subst h1
        split
        · rename_i h2
          simp [Array.getD, h2]
        · rename_i h2
          rw [Array.getElem?_eq_none (by omega)]
      · rfl
    rw [setAll, he]
    refine setAll_self fr r (k + 1) v (fun j s' hj => ?_)
    have := h (j + 1) s' (by simpa using hj)
    rw [← this]; congr 1; omega
section
variable {P : Program} {ops : Array Oper} {Q : Exit → Act → World → Prop}
/-- The same, the frame as it stands: 'slots' are the operations' slots, in order; what stores comes last. -/
theorem wp_region_slots {id : Nat} {w : World} {fr : Array Value} (slots : List Nat) (hm : P.follows .mixedOrders = true) (hac : Acyclic ops = true) (F : Nat → Value → World → Prop) (J : World → Prop) (hJ : J w.drew)
    (hstep : ∀ k o, ops[k]? = some o → ∀ (v : Nat → Value) (W : World) (L : Nat → Prop), J W → (∀ j, L j → F j (v j) W) → ¬ L k → (∀ e ∈ o.after, Region.binds .any e = true → L e.on) →
      ∀ K : Act → World → Prop, Shut (∀ x W', J W' → (∀ j, L j → F j (v j) W → F j (v j) W') → F k x W' → K { tmps := setAll slots 0 (upd v k x) fr, defers := [] } W') →
        if Region.wanted o (yielded ops (setAll slots 0 v fr)) = true then Oper.wp P o { tmps := setAll slots 0 v fr, defers := [] } W K Q else K (Act.put { tmps := setAll slots 0 v fr, defers := [] } o.dst undef) W)
    (hend : ∀ v W, J W → (∀ j, j < ops.size → F j (v j) W) → Q .normal { tmps := setAll slots 0 v fr, defers := [] } W) : (Code.region id ops true).wp P Q { tmps := fr, defers := [] } w := by
  have h0 := setAll_self fr slots 0 (fun k => fr.getD (slots.getD k 0) undef) (fun j s hj => by simp [List.getD_eq_getElem?_getD, hj])
  have := wp_region_vals (id := id) hm hac (T := fun v => setAll slots 0 v fr) (v0 := fun k => fr.getD (slots.getD k 0) undef) F J hJ (fun k o ho v W L h1 h2 h3 _ h5 K hK => hstep k o ho v W L h1 h2 h3 h5 K hK) hend
  rw [h0] at this
  exact this
end
end Go.Proofs.Ytplkmbdoecepeaa
