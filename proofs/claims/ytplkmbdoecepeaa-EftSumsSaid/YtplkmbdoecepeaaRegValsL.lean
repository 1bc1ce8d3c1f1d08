/- A region that draws its order and stores: what holds of the world may depend on what has come up; what has come up is closed under 'after'. -/
import Derived.Test.YtplkmbdoecepeaaRegVals
namespace Go.Proofs.Ytplkmbdoecepeaa
open Go
set_option linter.unusedVariables false
set_option linter.unusedSimpArgs false
section
variable {P : Program} {ops : Array Oper} {Q : Exit → Act → World → Prop}

theorem wp_region_valsL {id : Nat} {w : World} (hm : P.follows .mixedOrders = true) (hac : Acyclic ops = true) (T : (Nat → Value) → Array Value) (v0 : Nat → Value) (F : Nat → Value → World → Prop) (J : (Nat → Prop) → World → Prop) (hJ : J (fun _ => False) w.drew)
    (hstep : ∀ k o, ops[k]? = some o → ∀ (v : Nat → Value) (W : World) (L : Nat → Prop), J L W → (∀ j, L j → F j (v j) W) → ¬ L k → (∀ e ∈ o.after, Region.binds .any e = true → L e.on) → (∀ j p, ops[j]? = some p → L j → ∀ e ∈ p.after, Region.binds .any e = true → L e.on) →
      ∀ K : Act → World → Prop, Shut (∀ x W', J (fun j => L j ∨ j = k) W' → (∀ j, L j → F j (v j) W → F j (v j) W') → F k x W' → K { tmps := T (upd v k x), defers := [] } W') →
        if Region.wanted o (yielded ops (T v)) = true then Oper.wp P o { tmps := T v, defers := [] } W K Q else K (Act.put { tmps := T v, defers := [] } o.dst undef) W)
    (hend : ∀ v W L, (∀ j, j < ops.size → L j) → J L W → (∀ j, j < ops.size → F j (v j) W) → Q .normal { tmps := T v, defers := [] } W) : (Code.region id ops true).wp P Q { tmps := T v0, defers := [] } w := by
  refine wp_region_inv hm hac (I := fun L a W => L.size = ops.size ∧ (∃ L' : Nat → Prop, (∀ j, L' j ↔ L.getD j false = true) ∧ J L' W ∧ (∀ j p, ops[j]? = some p → L' j → ∀ e ∈ p.after, Region.binds .any e = true → L' e.on)) ∧ ∃ v, a = { tmps := T v, defers := [] } ∧ ∀ j, L.getD j false = true → F j (v j) W) ?_ ?_ ?_
  · refine ⟨by simp, ⟨fun _ => False, ?_, hJ, fun _ _ _ h => h.elim⟩, v0, rfl, ?_⟩
    · intro j
      by_cases hj2 : j < ops.size
      · simp [Array.getD, hj2]
      · simp [Array.getD, hj2]
    · intro j hj
      by_cases hj2 : j < ops.size
      · simp [Array.getD, hj2] at hj
      · simp [Array.getD, hj2] at hj
  · intro k o ho L a W hs hl haft hI K hK
    obtain ⟨hsz, ⟨L', hL', hJW, hcl⟩, v, rfl, hF⟩ := hI
    have hk : k < ops.size := by
      refine Classical.byContradiction fun hc => ?_
      rw [Array.getElem?_eq_none (by omega)] at ho
      cases ho
    have hafter : ∀ e ∈ o.after, Region.binds .any e = true → L' e.on := by
      intro e he hb
      rw [Array.all_eq_true'] at haft
      have := haft e he
      rw [hb] at this
      rw [hL']
      simpa using this
    refine hstep k o ho v W L' hJW (fun j h => hF j ((hL' j).1 h)) ?_ hafter hcl K ?_
    · have := not_listed hl
      rw [hL', this]; simp
    · intro x W' hJ' hmono hx
      refine hK.out _ _ ⟨by simp [hsz], ⟨_, ?_, hJ', ?_⟩, upd v k x, rfl, ?_⟩
      · intro j
        by_cases hjk : j = k
        · subst hjk
          rw [get_eq (by omega)]; simp
        · rw [get_ne (Ne.symm hjk), ← hL']; simp [hjk]
      · intro j p hp hLj e he hb
        rcases hLj with h | h
        · exact .inl (hcl j p hp h e he hb)
        · subst h
          rw [ho] at hp
          cases hp
          exact .inl (hafter e he hb)
      · intro j hj
        by_cases hjk : j = k
        · subst hjk
          rw [upd_eq]; exact hx
        · rw [get_ne (Ne.symm hjk)] at hj
          rw [upd_ne v x hjk]
          exact hmono j ((hL' j).2 hj) (hF j hj)
  · intro L a W hall hI
    obtain ⟨hsz, ⟨L', hL', hJW, _⟩, v, rfl, hF⟩ := hI
    exact hend v W L' (fun j hj => (hL' j).2 (hall j hj)) hJW (fun j hj => hF j (hall j hj))

theorem wp_region_slotsL {id : Nat} {w : World} {fr : Array Value} (slots : List Nat) (hm : P.follows .mixedOrders = true) (hac : Acyclic ops = true) (F : Nat → Value → World → Prop) (J : (Nat → Prop) → World → Prop) (hJ : J (fun _ => False) w.drew)
    (hstep : ∀ k o, ops[k]? = some o → ∀ (v : Nat → Value) (W : World) (L : Nat → Prop), J L W → (∀ j, L j → F j (v j) W) → ¬ L k → (∀ e ∈ o.after, Region.binds .any e = true → L e.on) → (∀ j p, ops[j]? = some p → L j → ∀ e ∈ p.after, Region.binds .any e = true → L e.on) →
      ∀ K : Act → World → Prop, Shut (∀ x W', J (fun j => L j ∨ j = k) W' → (∀ j, L j → F j (v j) W → F j (v j) W') → F k x W' → K { tmps := setAll slots 0 (upd v k x) fr, defers := [] } W') →
        if Region.wanted o (yielded ops (setAll slots 0 v fr)) = true then Oper.wp P o { tmps := setAll slots 0 v fr, defers := [] } W K Q else K (Act.put { tmps := setAll slots 0 v fr, defers := [] } o.dst undef) W)
    (hend : ∀ v W L, (∀ j, j < ops.size → L j) → J L W → (∀ j, j < ops.size → F j (v j) W) → Q .normal { tmps := setAll slots 0 v fr, defers := [] } W) : (Code.region id ops true).wp P Q { tmps := fr, defers := [] } w := by
  have h0 := setAll_self fr slots 0 (fun k => fr.getD (slots.getD k 0) undef) (fun j s hj => by simp [List.getD_eq_getElem?_getD, hj])
  have := wp_region_valsL (id := id) hm hac (T := fun v => setAll slots 0 v fr) (v0 := fun k => fr.getD (slots.getD k 0) undef) F J hJ hstep hend
  rw [h0] at this
  exact this
end
end Go.Proofs.Ytplkmbdoecepeaa
