/- What every statement of the layer asks first. -/
import Derived.Test.YtplkmbdoecepeaaLst
namespace Go.Proofs.Ytplkmbdoecepeaa
open Go.RowKit Go.Proofs.YtplkmbdoecepeaaW.PrintWords EftPure
set_option linter.unusedVariables false
set_option linter.unusedSimpArgs false

theorem C_lit (W : World) (cs : List Nat) (t : TypeId) {g : Nat} (hg : g = W.heap.size) (hn : cs.length ≤ 9223372036854775807) : kF.C (W.alloc (.cells (cs.map (fun b => Value.float .f64 b)).toArray t)) (some ⟨g, 0, none⟩) cs.length cs := by
  subst hg
  have hR : kF.R t _ W.heap.size (fun _ => True) _ cs := Kd.R_of_own (own_lit_of (enc := fun b => Value.float .f64 b) W W.heap.size t cs (Nat.le_refl _) hn) (fun _ _ => trivial)
  exact (Kd.R_reads' hR).2.2

set_option maxRecDepth 100000 in
set_option maxHeartbeats 1000000 in
theorem lives_any (w : World) :
    Calls Try.prog 9 #[] w fun e w' => e = .returned (.bool true) ∧ Below w.heap.size w w' := by
  go_enter Try.func9, Try.ntmps9
  go_wp2_with (first | (go_at_call 11; refine (two_sum _ _ _).mono ?_; rintro e w' ⟨s, t, n, rfl, hh_, rfl⟩; obtain ⟨rfl, rfl⟩ := lives1 hh_; clear hh_) | (go_at_call 12; refine (two_prod _ _ _).mono ?_; rintro e w' ⟨p, q, m, rfl, hh_, rfl⟩; obtain ⟨rfl, rfl⟩ := lives2 hh_; clear hh_) | (go_at_call 28; go_must (refine (sum_any [4607182418800017408, 4877398396442247168, 14100770433297022976] _ 3 _ (C_lit (w.drewN (n + m)) [4607182418800017408, 4877398396442247168, 14100770433297022976] 22 rfl (by decide)) (by decide) (by decide)).mono ?_; rintro e W1 ⟨v', out, rfl, hs, _, ho, hb⟩; obtain rfl := lives3 hs; obtain ⟨Ao, co, rfl, hco0, hC0⟩ := Kd.R_reads ho; obtain ⟨ad, x, rfl, hx, hcell⟩ := at_float hC0 rfl 0 (by decide); obtain rfl : 4607182418800017408 = x := Option.some.inj hx; rw [Addr.add_zero'] at hcell; have HCO := Aside0.mk hco0; have HC := Aside0.mk hC0; have HB := Aside0.mk (below_then (below_alloc (pw_below_drewN (Below.refl w.heap.size w) (n + m)) (.cells #[.float .f64 4607182418800017408, .float .f64 4877398396442247168, .float .f64 14100770433297022976] 22)) (below_alloc (pw_below_drewN (Below.refl w.heap.size w) (n + m)) (.cells #[.float .f64 4607182418800017408, .float .f64 4877398396442247168, .float .f64 14100770433297022976] 22)).size hb); clear hs ho hb hco0 hC0 hx)) | (go_at_call 30; go_must (have h := sign_any [4607182418800017408] (some ad) co W1 HC.out HCO.out (by decide); rw [show signL [4607182418800017408] = 1 by kernel_rfl] at h; refine h.mono ?_; rintro e w' ⟨rfl, nq, rfl⟩)))
  go_ret
  exact ⟨rfl, pw_below_drewN HB.out _⟩
end Go.Proofs.Ytplkmbdoecepeaa
