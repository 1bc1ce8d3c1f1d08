/- EftSteps: the walk. -/
import Derived.Test.YtplkmbdoecepeaaLaw0
namespace Go.Proofs.Ytplkmbdoecepeaa
open Go.RowKit Go.Proofs.YtplkmbdoecepeaaW.PrintWords EftPure
set_option linter.unusedVariables false
set_option linter.unusedSimpArgs false

theorem below_after {w W1 : World} {n : Nat} (h : Below (w.drewN n).heap.size (w.drewN n) W1) : Below w.heap.size w W1 := below_then (pw_below_drewN (Below.refl _ _) n) (Nat.le_refl _) h

set_option maxRecDepth 100000 in
set_option maxHeartbeats 1000000 in
theorem steps_any (a b : Nat) (w : World) :
    Calls Try.prog 4 #[.float .f64 a, .float .f64 b] w fun e w' => e = .returned (.bool true) ∧ Below w.heap.size w w' := by
  cases ha : modB a
  · go_enter Try.func4, Try.ntmps4
    go_wp2_with (first | (go_at_call 11; refine (two_sum _ _ _).mono ?_; rintro e w' ⟨s, t, n1, rfl, _, rfl⟩) | (go_at_call 17; refine (fast_two_sum _ _ _).mono ?_; rintro e w' ⟨u, v, n2, rfl, _, rfl⟩) | (go_at_call 18; refine (split _ _).mono ?_; rintro e w' ⟨h, l, n3, rfl, _, rfl⟩) | (go_at_call 12; refine (two_prod _ _ _).mono ?_; rintro e w' ⟨p, q, n4, rfl, _, rfl⟩) | (go_at_call 9; refine (lives_any _).mono ?_; rintro e W1 ⟨rfl, hb⟩; have HB := Aside0.mk (below_after hb); clear hb) | (go_at_call 10; refine (moderate_any _ _).mono ?_; rintro e w' ⟨rfl, n5, rfl⟩))
    go_ret
    exact ⟨rfl, pw_below_drewN HB.out _⟩
  · cases hb : modB b
    · go_enter Try.func4, Try.ntmps4
      go_wp2_with (first | (go_at_call 11; refine (two_sum _ _ _).mono ?_; rintro e w' ⟨s, t, n1, rfl, _, rfl⟩) | (go_at_call 17; refine (fast_two_sum _ _ _).mono ?_; rintro e w' ⟨u, v, n2, rfl, _, rfl⟩) | (go_at_call 18; refine (split _ _).mono ?_; rintro e w' ⟨h, l, n3, rfl, _, rfl⟩) | (go_at_call 12; refine (two_prod _ _ _).mono ?_; rintro e w' ⟨p, q, n4, rfl, _, rfl⟩) | (go_at_call 9; refine (lives_any _).mono ?_; rintro e W1 ⟨rfl, hb⟩; have HB := Aside0.mk (below_after hb); clear hb) | (go_at_call 10; refine (moderate_any _ _).mono ?_; rintro e w' ⟨rfl, n5, rfl⟩))
      go_ret
      exact ⟨rfl, pw_below_drewN HB.out _⟩
    · obtain ⟨s0, t0, u0, v0, h0, l0, p0, q0, d1, d2, d3, d4, q1, q2, q3, q4, q5, q6, q7, q8⟩ := steps_mod ha hb
      have D1 := Aside0.mk d1
      have D2 := Aside0.mk d2
      have D3 := Aside0.mk d3
      have D4 := Aside0.mk d4
      clear d1 d2 d3 d4
      go_enter Try.func4, Try.ntmps4
      go_wp2_with (first | (go_at_call 11; refine (two_sum _ _ _).mono ?_; rintro e w' ⟨s, t, n1, rfl, hh_, rfl⟩; obtain ⟨rfl, rfl⟩ := D1.out _ _ hh_; clear hh_) | (go_at_call 17; refine (fast_two_sum _ _ _).mono ?_; rintro e w' ⟨u, v, n2, rfl, hh_, rfl⟩; obtain ⟨rfl, rfl⟩ := D2.out _ _ hh_; clear hh_) | (go_at_call 18; refine (split _ _).mono ?_; rintro e w' ⟨h, l, n3, rfl, hh_, rfl⟩; obtain ⟨rfl, rfl⟩ := D3.out _ _ hh_; clear hh_) | (go_at_call 12; refine (two_prod _ _ _).mono ?_; rintro e w' ⟨p, q, n4, rfl, hh_, rfl⟩; obtain ⟨rfl, rfl⟩ := D4.out _ _ hh_; clear hh_) | (go_at_call 19; refine (two_sum_ref _ _ _).mono ?_; rintro e w' ⟨s, t, n1, rfl, hh_, rfl⟩; obtain ⟨rfl, rfl⟩ := D1.out _ _ hh_; clear hh_) | (go_at_call 20; refine (fast_two_sum_ref _ _ _).mono ?_; rintro e w' ⟨u, v, n2, rfl, hh_, rfl⟩; obtain ⟨rfl, rfl⟩ := D2.out _ _ hh_; clear hh_) | (go_at_call 21; refine (split_ref _ _).mono ?_; rintro e w' ⟨h, l, n3, rfl, hh_, rfl⟩; obtain ⟨rfl, rfl⟩ := D3.out _ _ hh_; clear hh_) | (go_at_call 22; refine (two_prod_ref _ _ _).mono ?_; rintro e w' ⟨p, q, n4, rfl, hh_, rfl⟩; obtain ⟨rfl, rfl⟩ := D4.out _ _ hh_; clear hh_) | (go_at_call 9; refine (lives_any _).mono ?_; rintro e W1 ⟨rfl, hb⟩; have HB := Aside0.mk (below_after hb); clear hb) | (go_at_call 10; refine (moderate_any _ _).mono ?_; rintro e w' ⟨rfl, n5, rfl⟩))
      go_ret
      exact ⟨rfl, pw_below_drewN HB.out _⟩
end Go.Proofs.Ytplkmbdoecepeaa
