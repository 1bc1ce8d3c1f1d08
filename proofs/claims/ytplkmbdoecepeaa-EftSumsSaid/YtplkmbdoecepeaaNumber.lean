/- What the layer's laws share: a float as the document's dyadic number. -/
import Derived.Test.YtplkmbdoecepeaaLaw0
import Derived.Test.YtplkmbdoecepeaaFrom
import Derived.Test.YtplkmbdoecepeaaRef4d
import Derived.Test.YtplkmbdoecepeaaRef4e
import Derived.Test.YtplkmbdoecepeaaEftPlain
namespace Go.Proofs.Ytplkmbdoecepeaa
open Go.RowKit Go.Proofs.YtplkmbdoecepeaaW.PrintWords Limb Ieee EftPure
set_option linter.unusedVariables false
set_option linter.unusedSimpArgs false

set_option maxHeartbeats 2000000 in
theorem number_any (x : Nat) (a : Int) (h : IsF x a) (hx : x < 18446744073709551616) (w : World) :
    Calls Try.prog 14 #[.float .f64 x] w fun e w' => ∃ v, e = .returned v ∧ RDy w' w.heap.size v a (-1074) ∧ Below w.heap.size w w' := by
  have hbits : ∀ (b : Nat) (w : World), (callFunc 40 #[.float .f64 b]).run Try.prog w = .ok (.value (.int .u64 b)) w := fun b w => by rw [run_callFunc_extern Try.func40 (by kernel_rfl) (by kernel_rfl) (by kernel_rfl) (e := Extern.MathFloatBits.float64bits) (by kernel_rfl)]; rfl
  have QF := Aside0.mk (fun (m : World) => from_any x a h hx m)
  clear h
  go_enter Try.func14, Try.ntmps14
  go_wp2_with (first
    | (go_at_call 44; refine (QF.out _).mono ?_; rintro e w1 ⟨v, rfl, ⟨A1, n1, c1, rfl, hr⟩, hb⟩; have HR := Aside0.mk hr; have HB := Aside0.mk (below_of_alloc hb); have HH := Aside0.mk (blk_below (blk_new w _) hb); clear hr hb)
    | ((with_reducible refine gate_store (p := 2) rfl ?_); go_must (refine store_box 30 2 (.tmp 11) rfl rfl rfl (g := w.heap.size) (e := 30) (.agg #[.bool (cneg a), .slice A1 n1 c1, .int .i64 (cexp a (-1074))]) ([.bool (cneg a), .slice A1 n1 c1, .int .i64 (cexp a (-1074))]) rfl rfl rfl info_dyad ?b1 (blk_alloc HH.out _) rfl ?_; (case b1 => intro q hq; simp at hq; rcases hq with rfl | rfl | rfl <;> rfl); intro wb hbx hgx; have HX := Aside0.mk hbx; have HG := Aside0.mk hgx; clear hbx hgx)))
  refine bodyPost_ret (results_dyad rfl _ _ w.heap.size _ rfl HX.out rfl) rfl ?_
  refine ⟨_, rfl, ?_, (below_alloc HB.out _).grown HG.out (below_alloc HB.out _).size (fun k hk => by cases hk; exact Nat.le_refl _)⟩
  have hR0 := Kd.R_lower (base' := w.heap.size) HR.out (by rw [size_alloc']; omega)
  exact RDy.typed (RDy.below ⟨A1, n1, c1, rfl, hR0⟩ (below_alloc (Below.refl _ _) _)) (blk_alloc HH.out _) HG.out
end Go.Proofs.Ytplkmbdoecepeaa
