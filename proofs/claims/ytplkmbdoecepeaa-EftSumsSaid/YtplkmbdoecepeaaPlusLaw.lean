/- The laws' own sum of two floats, and the amount of a float. -/
import Derived.Test.YtplkmbdoecepeaaNumber
import Derived.Test.YtplkmbdoecepeaaEftPlain2
import Derived.Test.YtplkmbdoecepeaaOrder
namespace Go.Proofs.Ytplkmbdoecepeaa
open Go.RowKit Go.Proofs.YtplkmbdoecepeaaW.PrintWords Limb Ieee EftPure
set_option linter.unusedVariables false
set_option linter.unusedSimpArgs false

set_option maxHeartbeats 2000000 in
theorem plus_law (x y : Nat) (a b : Int) (ha : IsF x a) (hb : IsF y b) (hx : x < 18446744073709551616) (hy : y < 18446744073709551616) {c : Nat} (la : a.natAbs < 2 ^ c) (lb : b.natAbs < 2 ^ c) (hc : c ≤ 6400) (w : World) :
    Calls Try.prog 23 #[.float .f64 x, .float .f64 y] w fun e w' => ∃ v, e = .returned v ∧ RDy w' w.heap.size v (a + b) (-1074) ∧ Below w.heap.size w w' := by
  obtain ⟨l1, x1⟩ := form_small (e := -1074) (k := 100) la (by omega)
  obtain ⟨l2, x2⟩ := form_small (e := -1074) (k := 100) lb (by omega)
  have NA := Aside0.mk (fun (m : World) => number_any x a ha hx m)
  have NB := Aside0.mk (fun (m : World) => number_any y b hb hy m)
  have QP := Aside0.mk (fun (u v : Value) (m : World) (h : CDy m u a (-1074)) (h' : CDy m v b (-1074)) => plus_dy u v a b (-1074) m h h' (by omega) (by omega) (by omega) (by omega) (by omega) (by omega))
  clear ha hb l1 l2 x1 x2 la lb
  go_enter Try.func23, Try.ntmps23
  go_wp2_with (first
    | (go_at_call 14; first
       | (with_reducible refine (NA.out _).mono ?_; rintro e w2 ⟨va, rfl, hra, hb⟩; have RA := Aside0.mk hra; have B2 := Aside0.mk (below_of_alloc hb); have HH2 := Aside0.mk (blk_below (blk_new w _) hb); clear hra hb)
       | (with_reducible refine (NB.out _).mono ?_; rintro e w3 ⟨vb, rfl, hrb, hb⟩; have RB := Aside0.mk hrb; have RA3 := Aside0.mk (RA.out.below hb); have B3 := Aside0.mk (below_then B2.out B2.out.size hb); have HH3 := Aside0.mk (blk_below HH2.out hb); clear hrb hb))
    | (go_at_call 38; go_must (refine (QP.out va vb _ RA3.out.c RB.out.c).mono ?_; rintro e w4 ⟨vp, rfl, ⟨Ap, np, cp, rfl, hrp⟩, hb⟩; have RP := Aside0.mk hrp; have B4 := Aside0.mk (below_then B3.out B3.out.size hb); have HH4 := Aside0.mk (blk_below HH3.out hb); clear hrp hb))
    | ((with_reducible refine gate_store (p := 4) rfl ?_); go_must (refine store_box 30 4 (.tmp 9) rfl rfl rfl (g := w.heap.size) (e := 30) (.agg #[.bool (cneg (a + b)), .slice Ap np cp, .int .i64 (cexp (a + b) (-1074))]) ([.bool (cneg (a + b)), .slice Ap np cp, .int .i64 (cexp (a + b) (-1074))]) rfl rfl rfl info_dyad ?b1 HH4.out rfl ?_; (case b1 => intro q hq; simp at hq; rcases hq with rfl | rfl | rfl <;> rfl); intro wb hbx hgx; have HX := Aside0.mk hbx; have HG := Aside0.mk hgx; clear hbx hgx)))
  refine bodyPost_ret (results_dyad rfl _ _ w.heap.size _ rfl HX.out rfl) rfl ?_
  refine ⟨_, rfl, ?_, B4.out.grown HG.out B4.out.size (fun k hk => by cases hk; exact Nat.le_refl _)⟩
  exact RDy.lower (RDy.typed ⟨Ap, np, cp, rfl, RP.out⟩ HH4.out HG.out) B3.out.size

/-- Two forms of one number are the same. -/
theorem same_self (u v : Value) (y e : Int) (w : World) (h : CDy w u y e) (h' : CDy w v y e) (hl : (limbs (cman y)).length ≤ 1073741824) (le : -1099511627776 ≤ cexp y e) (le2 : cexp y e ≤ 1099511627776) :
    Calls Try.prog 24 #[u, v] w fun en w' => en = .returned (.bool true) ∧ Below w.heap.size w w' := by
  refine (same_any' u v y y e e w h h' hl le le2).mono ?_
  rintro en w' ⟨rfl, hb⟩
  exact ⟨by simp, hb⟩
end Go.Proofs.Ytplkmbdoecepeaa
