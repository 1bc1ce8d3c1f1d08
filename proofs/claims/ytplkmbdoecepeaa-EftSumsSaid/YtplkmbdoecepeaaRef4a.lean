/- The document's dyadic numbers (ulpref04): Form. -/
import Derived.Test.YtplkmbdoecepeaaRef3h
import Derived.Test.YtplkmbdoecepeaaBox
import Derived.Test.YtplkmbdoecepeaaDy
namespace Go.Proofs.Ytplkmbdoecepeaa
open Go.RowKit Go.Proofs.YtplkmbdoecepeaaW.PrintWords Limb
set_option linter.unusedVariables false
set_option linter.unusedSimpArgs false

theorem info_dyad : (Try.prog.info? 30).map (·.size) = some 3 := by kernel_rfl
theorem any_dyad : (Try.prog.underlying 30).any (fun d => match d with | .struct _ | .array _ _ => true | _ => false) = true := by kernel_rfl
theorem under_dyad : ∃ d, Try.prog.underlying 30 = some d ∧ (match d with | .struct _ | .array _ _ => true | _ => false) = true := by
  have h := any_dyad
  cases hd : Try.prog.underlying 30 with
  | none => rw [hd] at h; cases h
  | some d => rw [hd] at h; exact ⟨d, rfl, h⟩

theorem results_dyad {fn : Func} {p : Tmp} (h : fn.results = #[.cell p 30]) (tmps : Array Value) (w : World) (g : Nat) (cs : Array Value) (hp : tmps.getD p undef = .pointer (some ⟨g, 0, none⟩)) (hg : w.heap[g]? = some (.cells cs 30 (0, 0))) (hs : cs.size = 3) :
    (results fn tmps).run Try.prog w = .ok (.agg cs) w := by
  obtain ⟨d, hu, hd⟩ := under_dyad
  refine results_single h (.cell g _ cs (0, 0) d hp hg hu ?_ (by rw [hs]; exact info_dyad) .nil)
  revert hu hd
  cases d <;> intro hu hd <;> first | rfl | cases hd

/-- A dyadic number of the call's own: z * 2^e in its one form. -/
def RDy (w : World) (base : Nat) (v : Value) (z e : Int) : Prop :=
  ∃ A n c, v = .agg #[.bool (cneg z), .slice A n c, .int .i64 (cexp z e)] ∧ kU.R 48 w base (fun _ => True) (.slice A n c) (limbs (cman z))
/-- The same, to be read. -/
def CDy (w : World) (v : Value) (z e : Int) : Prop :=
  ∃ A n c, v = .agg #[.bool (cneg z), .slice A n c, .int .i64 (cexp z e)] ∧ kU.C w A n (limbs (cman z)) ∧ (limbs (cman z)).length = n ∧ n ≤ c
theorem RDy.c {w : World} {base : Nat} {v : Value} {z e : Int} (h : RDy w base v z e) : CDy w v z e := by
  obtain ⟨A, n, c, rfl, hr⟩ := h
  obtain ⟨h1, h2, h3⟩ := Kd.R_reads' hr
  exact ⟨A, n, c, rfl, by rw [h1]; exact h3, h1.symm, h2⟩
theorem RDy.lower {w : World} {b b' : Nat} {v : Value} {z e : Int} (h : RDy w b v z e) (hb : b' ≤ b) : RDy w b' v z e := by
  obtain ⟨A, n, c, rfl, hr⟩ := h
  exact ⟨A, n, c, rfl, Kd.R_lower hr hb⟩
theorem RDy.below {w w1 : World} {b : Nat} {v : Value} {z e : Int} (h : RDy w b v z e) (hb : Below w.heap.size w w1) : RDy w1 b v z e := by
  obtain ⟨A, n, c, rfl, hr⟩ := h
  exact ⟨A, n, c, rfl, Kd.R_below hr hb⟩
theorem CDy.below {w w1 : World} {v : Value} {z e : Int} (h : CDy w v z e) (hb : Below w.heap.size w w1) : CDy w1 v z e := by
  obtain ⟨A, n, c, rfl, hr, h1, h2⟩ := h
  exact ⟨A, n, c, rfl, Kd.C_below hr hb, h1, h2⟩
/-- A box is written that lies under all of its words. -/
theorem RDy.grown {w w1 : World} {b g : Nat} {v : Value} {z e : Int} (h : RDy w b v z e) (hg : w.grownBy w1 (some g)) (hgb : g < b) : RDy w1 b v z e := by
  obtain ⟨A, n, c, rfl, hr⟩ := h
  refine ⟨A, n, c, rfl, Kd.R_mono (Kd.R_grown (Kd.R_bound hr) hg ?_) (fun _ _ => trivial)⟩
  rintro k ⟨_, hk, _⟩ he
  cases he
  omega

theorem RDy.scale {w : World} {b : Nat} {v : Value} {z e : Int} (k : Nat) (h : RDy w b v z (e + k)) : RDy w b v (z * 2 ^ k) e := by
  obtain ⟨A, n, c, rfl, hr⟩ := h
  exact ⟨A, n, c, by rw [cneg_mul, cexp_mul], by rw [cman_mul]; exact hr⟩

set_option maxHeartbeats 1000000 in
theorem form_any (neg : Bool) (l : List Nat) (A : Option Addr) (n c : Nat) (ex : Int) (hn : l.length = n) (w : World) (hl : kU.C w A n l) (hc : n ≤ c) (wl : Wf l) (ln : n ≤ 1073741824) (le1 : -1099511627776 ≤ ex) (le2 : ex ≤ 1099511627776) :
    Calls Try.prog 42 #[.bool neg, .slice A n c, .int .i64 ex] w fun e w' => ∃ v, e = .returned v ∧ RDy w' w.heap.size v (sgn neg (nv l)) ex ∧ Below w.heap.size w w' := by
  have QN := Aside0.mk (fun (m : World) (hm : Below w.heap.size w m) => norm_any l A c m (by rw [hn]; exact Kd.C_below hl hm) (by omega) wl (by omega))
  rw [hn] at QN
  by_cases h0 : nv l = 0
  · have HZ := Aside0.mk (show limbs (nv l) = [] by rw [h0]; exact limbs_zero)
    have HV := Aside0.mk (show sgn neg (nv l) = 0 by rw [h0]; exact sgn_zero neg)
    clear hl h0
    go_enter Try.func42, Try.ntmps42
    go_wp2_with (first
      | (go_at_call 45; go_must (refine (QN.out _ (below_alloc (Below.refl _ _) _)).mono ?_; rintro e w1 ⟨v, rfl, ho, hb⟩; obtain ⟨A1, c1, rfl, hc1, hC1⟩ := Kd.R_reads ho; rw [HZ.out] at hC1 hc1 ho ⊢; have HB := Aside0.mk hb; have HH := Aside0.mk (blk_below (blk_new w _) hb); clear hb ho hC1 hc1))
      | ((with_reducible refine gate_store (p := 6) rfl ?_); go_must (refine store_box 30 6 (.tmp 16) rfl rfl rfl (g := w.heap.size) (e := 30) (.agg #[.bool false, .slice none 0 0, .int .i64 0]) ([.bool false, .slice none 0 0, .int .i64 0]) rfl rfl rfl info_dyad ?b1 HH.out rfl ?_; (case b1 => intro q hq; simp at hq; rcases hq with rfl | rfl | rfl <;> rfl); intro wb hbx hgx; have HX := Aside0.mk hbx; have HG := Aside0.mk hgx; clear hbx hgx)))
    refine bodyPost_ret (results_dyad rfl _ _ w.heap.size _ rfl HX.out rfl) rfl ?_
    refine ⟨_, rfl, ⟨none, 0, 0, by rw [HV.out]; rfl, by rw [HV.out, cman_zero, limbs_zero]; exact Kd.R_nil _ _ _ _ _⟩, ?_⟩
    exact (below_then (below_alloc (Below.refl _ _) _) (below_alloc (Below.refl w.heap.size w) _).size HB.out).grown HG.out (below_then (below_alloc (Below.refl _ _) _) (below_alloc (Below.refl w.heap.size w) _).size HB.out).size (fun k hk => by cases hk; exact Nat.le_refl _)
  · obtain ⟨L, hL⟩ : ∃ L, L = limbs (nv l) := ⟨_, rfl⟩
    obtain ⟨n1, hn1⟩ : ∃ n, n = L.length := ⟨_, rfl⟩
    obtain ⟨k, hk⟩ : ∃ k, k = tz (nv l) := ⟨_, rfl⟩
    have hn0 : n1 ≠ 0 := by
      rw [hn1, hL]; intro h; exact h0 (limbs_eq_nil.1 (List.length_eq_zero_iff.1 h))
    have hnn : n1 ≤ n := by have := limbs_nv_len wl; rw [hn1, hL]; omega
    have hkb : k ≤ 68719476736 := by
      have h1 := tz_lt_bl h0
      have h2 : bl (nv l) ≤ 64 * l.length := bl_le_iff.2 (nv_lt wl)
      omega
    have WL := Aside0.mk (show Wf L by rw [hL]; exact wf_limbs _)
    have VL := Aside0.mk (show nv L = nv l by rw [hL, nv_limbs])
    have NL := Aside0.mk hn1.symm
    have HK := Aside0.mk hk
    have HN0 := Aside0.mk h0
    have HL := Aside0.mk hL
    clear hl h0 hL hn1 hk
    have hz : ((n1 : Int) == 0) = false := by simp; omega
    go_enter Try.func42, Try.ntmps42
    go_wp2_with (first
      | (go_at_call 45; go_must (refine (QN.out _ (below_alloc (Below.refl _ _) _)).mono ?_; rintro e w1 ⟨v, rfl, ho, hb⟩; rw [← HL.out] at ho; obtain ⟨A1, c1, rfl, hc1, hC1⟩ := Kd.R_reads ho; rw [NL.out] at hC1 hc1 ho ⊢; have C1 := Aside0.mk hC1; have HB := Aside0.mk hb; have HH := Aside0.mk (blk_below (blk_new w _) hb); clear hb ho hC1))
      | (go_at_call 47; go_must (have QL := low_any L A1 c1 w1 (by rw [NL.out]; exact C1.out) (by rw [NL.out]; exact hc1) WL.out (by rw [NL.out]; omega); rw [NL.out, VL.out, ← HK.out] at QL; refine QL.mono ?_; rintro e w2 ⟨rfl, hb⟩; have C2 := Aside0.mk (Kd.C_below C1.out hb); have HB2 := Aside0.mk hb; have HH2 := Aside0.mk (blk_below HH.out hb); clear hb QL))
      | (go_at_call 55; go_must (have QS := shr_any L A1 n1 c1 k NL.out w2 C2.out hc1 WL.out (by omega) (by omega); rw [VL.out] at QS; refine QS.mono ?_; rintro e w3 ⟨v, rfl, ho, hb⟩; obtain ⟨A2, c2, rfl, hc2, hC2⟩ := Kd.R_reads ho; have HO := Aside0.mk ho; have HB3 := Aside0.mk hb; have HH3 := Aside0.mk (blk_below HH2.out hb); clear hb QS ho hC2))
      | ((with_reducible refine gate_store (p := 6) rfl ?_); go_must (refine store_box 30 6 (.tmp 30) rfl rfl rfl (g := w.heap.size) (e := 30) (.agg #[.bool neg, .slice A2 (limbs (nv l / 2 ^ k)).length c2, .int .i64 (ex + k)]) ([.bool neg, .slice A2 (limbs (nv l / 2 ^ k)).length c2, .int .i64 (ex + k)]) rfl rfl rfl info_dyad ?b1 HH3.out rfl ?_; (case b1 => intro q hq; simp at hq; rcases hq with rfl | rfl | rfl <;> rfl); intro wb hbx hgx; have HX := Aside0.mk hbx; have HG := Aside0.mk hgx; clear hbx hgx)))
    refine bodyPost_ret (results_dyad rfl _ _ w.heap.size _ rfl HX.out rfl) rfl ?_
    have b0 : Below w.heap.size w w1 := below_then (below_alloc (Below.refl _ _) _) (below_alloc (Below.refl w.heap.size w) _).size HB.out
    have b1 := below_then b0 b0.size HB2.out
    have b2 := below_then b1 b1.size HB3.out
    refine ⟨_, rfl, ?_, b2.grown HG.out b2.size (fun k hk => by cases hk; exact Nat.le_refl _)⟩
    refine RDy.lower (b := w2.heap.size) ?_ b1.size
    refine RDy.grown (w := w3) ?_ HG.out ?_
    · refine ⟨A2, (limbs (nv l / 2 ^ k)).length, c2, ?_, ?_⟩
      · rw [cneg_sgn HN0.out, cexp_sgn HN0.out, ← HK.out]
      · rw [cman_sgn, ← HK.out]; exact HO.out
    · exact blk_lt HH2.out
end Go.Proofs.Ytplkmbdoecepeaa
