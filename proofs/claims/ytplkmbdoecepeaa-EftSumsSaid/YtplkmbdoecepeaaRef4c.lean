/- The document's dyadic numbers (ulpref04): Zero, Sign, Same. -/
import Derived.Test.YtplkmbdoecepeaaRef4b
namespace Go.Proofs.Ytplkmbdoecepeaa
open Go.RowKit Go.Proofs.YtplkmbdoecepeaaW.PrintWords Limb
set_option linter.unusedVariables false
set_option linter.unusedSimpArgs false

set_option maxHeartbeats 1000000 in
theorem zero_any (v : Value) (z e : Int) (w : World) (h : CDy w v z e) (hl : (limbs (cman z)).length ≤ 1073741824) :
    Calls Try.prog 54 #[v] w fun en w' => en = .returned (.bool (decide (z = 0))) ∧ Below w.heap.size w w' := by
  obtain ⟨A, n, c, rfl, hC, hn, hc⟩ := h
  have QN := Aside0.mk (fun (m : World) (hm : Below w.heap.size w m) => norm_any (limbs (cman z)) A c m (by rw [hn]; exact Kd.C_below hC hm) (by omega) (wf_limbs _) (by omega))
  rw [hn, nv_limbs] at QN
  obtain ⟨n1, hn1⟩ : ∃ k, k = (limbs (cman z)).length := ⟨_, rfl⟩
  obtain ⟨x, hx⟩ : ∃ x, x = cexp z e := ⟨_, rfl⟩
  obtain ⟨b, hb⟩ : ∃ x, x = cneg z := ⟨_, rfl⟩
  have hz : ((n1 : Int) == 0) = decide (z = 0) := by
    rw [Bool.eq_iff_iff]
    simp only [beq_iff_eq, decide_eq_true_eq]
    rw [hn1]
    constructor
    · intro h
      exact cman_eq_zero.1 (limbs_eq_nil.1 (List.length_eq_zero_iff.1 (by omega)))
    · rintro rfl
      rw [cman_zero, limbs_zero]; rfl
  have HN := Aside0.mk hn1.symm
  rw [← hx, ← hb]
  clear hC hn1 hn hx hb
  go_enter Try.func54, Try.ntmps54
  go_wp2_with (go_at_call 45; go_must (refine (QN.out _ (below_alloc (Below.refl _ _) _)).mono ?_; rintro e w1 ⟨v, rfl, ho, hb⟩; obtain ⟨A1, c1, rfl, hc1, hC1⟩ := Kd.R_reads ho; rw [HN.out]; have HB : Aside0 (Below w.heap.size w w1) := ⟨(by exact below_of_alloc hb)⟩; clear hb ho hC1 hc1))
  go_ret
  exact ⟨ret_bool (by first | rfl | exact hz), HB.out⟩

def sgnI (z : Int) : Int := if z = 0 then 0 else if z < 0 then -1 else 1

set_option maxHeartbeats 1000000 in
theorem sign_any' (v : Value) (z e : Int) (w : World) (h : CDy w v z e) (hl : (limbs (cman z)).length ≤ 1073741824) :
    Calls Try.prog 39 #[v] w fun en w' => en = .returned (.int .i64 (sgnI z)) ∧ Below w.heap.size w w' := by
  have QZ := Aside0.mk (fun (m : World) (hm : Below w.heap.size w m) => zero_any v z e m (h.below hm) hl)
  obtain ⟨A, n, c, rfl, hC, hn, hc⟩ := h
  obtain ⟨x, hx⟩ : ∃ x, x = cexp z e := ⟨_, rfl⟩
  obtain ⟨b, hb⟩ : ∃ x, x = cneg z := ⟨_, rfl⟩
  rw [← hx, ← hb] at QZ
  rw [← hx, ← hb]
  obtain ⟨d, hd⟩ : ∃ d, d = decide (z = 0) := ⟨_, rfl⟩
  rw [← hd] at QZ
  have HS := Aside0.mk (show sgnI z = if d then 0 else if b then -1 else 1 by
    rw [hd, hb]; unfold sgnI cneg
    by_cases h0 : z = 0
    · simp [h0]
    · simp [h0])
  clear hC hx hb hd
  cases d
  all_goals cases b
  all_goals
    go_enter Try.func39, Try.ntmps39
    go_wp2_with (go_at_call 54; go_must (refine (QZ.out _ (below_alloc (Below.refl _ _) _)).mono ?_; rintro e w1 ⟨rfl, hb⟩; have HB : Aside0 (Below w.heap.size w w1) := ⟨(by exact below_of_alloc hb)⟩; have hh : w1.heap[w.heap.size]? = some (.cells #[.bool _, .slice A n c, .int .i64 x] 30 (0, 0)) := (by exact blk_below (blk_new _ _) hb); have c0 := (cell_of_row w1 _ 0 _ _ _ hh).trans rfl; clear hb hh))
    go_ret
    exact ⟨ret_int (by rw [HS.out]; rfl), HB.out⟩

set_option maxHeartbeats 1000000 in
/-- Two numbers of one unit: the same fields where they are one. -/
theorem same_any' (u v : Value) (y z e e' : Int) (w : World) (h : CDy w u y e) (h' : CDy w v z e') (hl : (limbs (cman y)).length ≤ 1073741824) (le : -1099511627776 ≤ cexp y e) (le2 : cexp y e ≤ 1099511627776) :
    Calls Try.prog 24 #[u, v] w fun en w' => en = .returned (.bool (decide (cneg y = cneg z ∧ cexp y e = cexp z e' ∧ cman y = cman z))) ∧ Below w.heap.size w w' := by
  obtain ⟨A, n, c, rfl, hC, hn, hc⟩ := h
  obtain ⟨A', n', c', rfl, hC', hn', hc'⟩ := h'
  obtain ⟨x, hx⟩ : ∃ x, x = cexp y e := ⟨_, rfl⟩
  obtain ⟨x', hx'⟩ : ∃ x, x = cexp z e' := ⟨_, rfl⟩
  obtain ⟨b, hb⟩ : ∃ x, x = cneg y := ⟨_, rfl⟩
  obtain ⟨b', hb'⟩ : ∃ x, x = cneg z := ⟨_, rfl⟩
  have QS := Aside0.mk (fun (m : World) (hm : Below w.heap.size w m) => same_nat (limbs (cman y)) (limbs (cman z)) A A' c c' m (by rw [hn]; exact Kd.C_below hC hm) (by rw [hn']; exact Kd.C_below hC' hm) (by omega) (by omega) (by omega))
  rw [hn, hn'] at QS
  obtain ⟨s, hs⟩ : ∃ s, s = decide (limbs (cman y) = limbs (cman z)) := ⟨_, rfl⟩
  rw [← hs] at QS
  rw [← hx, ← hx', ← hb, ← hb']
  have HD := Aside0.mk (show decide (b = b' ∧ x = x' ∧ cman y = cman z) = ((b == b') && ((x == x') && s)) by
    rw [hs, Bool.eq_iff_iff]
    simp only [decide_eq_true_eq, Bool.and_eq_true, beq_iff_eq]
    constructor
    · rintro ⟨h1, h2, h3⟩; exact ⟨h1, h2, by rw [h3]⟩
    · rintro ⟨h1, h2, h3⟩; exact ⟨h1, h2, limbs_inj h3⟩)
  clear hC hC' hx hx' hb hb' hs
  obtain ⟨p, hp⟩ : ∃ p, p = (b == b') := ⟨_, rfl⟩
  obtain ⟨q, hq⟩ : ∃ q, q = (x == x') := ⟨_, rfl⟩
  rw [← hp, ← hq] at HD
  have hp' := hp.symm
  have hq' := hq.symm
  clear hp hq
  cases p
  case false =>
    go_enter Try.func24, Try.ntmps24
    go_wp2
    go_ret
    exact ⟨ret_bool (by rw [HD.out]; rfl), below_alloc (below_alloc (Below.refl _ _) _) _⟩
  case true =>
    cases q
    case false =>
      go_enter Try.func24, Try.ntmps24
      go_wp2
      go_ret
      exact ⟨ret_bool (by rw [HD.out]; rfl), below_alloc (below_alloc (Below.refl _ _) _) _⟩
    case true =>
      go_enter Try.func24, Try.ntmps24
      go_wp2_with (go_at_call 46; go_must (refine (QS.out _ (below_alloc (below_alloc (Below.refl _ _) _) _)).mono ?_; rintro en w1 ⟨rfl, n1, rfl⟩))
      go_ret
      exact ⟨ret_bool (by rw [HD.out]; rfl), pw_below_drewN (below_alloc (below_alloc (Below.refl _ _) _) _) n1⟩
end Go.Proofs.Ytplkmbdoecepeaa
