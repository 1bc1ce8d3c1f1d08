/- Part 5 of the library of this claim: what the program and the document compute, as contracts of their functions. -/
import Derived.Test.YtgpjplelgffocaaDoorP4
import Derived.KernelRfl
namespace Go.Proofs.YtgpjplelgffocaaDoor
open Go.RowKit Go.Proofs.YtgpjplelgffocaaDoorW.PrintWords Limb
set_option linter.unusedVariables false
set_option linter.unusedSimpArgs false

theorem tabs_step {T : List (Option Value)} {L : Nat → Prop} {v : Nat → Value} {k : Nat} {x : Value} (h : ∀ j c, L j → T[j]? = some (some c) → v j = c) (hk : ∀ c, T[k]? = some (some c) → x = c) : ∀ j c, (L j ∨ j = k) → T[j]? = some (some c) → upd v k x j = c := by
  intro j c hj ht
  by_cases he : j = k
  · subst he; rw [upd_eq]; exact hk c ht
  · rw [upd_ne v _ he]; exact h j c (hj.resolve_right he) ht
theorem RDy.ex {w : World} {b : Nat} {v : Value} {z e : Int} (h : RDy w b v z e) : ∃ bb A n c x, v = .agg #[.bool bb, .slice A n c, .int .i64 x] := by
  obtain ⟨A, n, c, rfl, hr⟩ := h
  exact ⟨_, _, _, _, _, rfl⟩
theorem RDy.grown_box {w w1 : World} {b g : Nat} {v : Value} {z e : Int} {t : TypeId} {cells : Array Value} (h : RDy w b v z e) (hb : w.heap[g]? = some (.cells cells t (0, 0))) (ht : 23 ≠ t) (hg : w.grownBy w1 (some g)) : RDy w1 b v z e := by
  obtain ⟨A, n, c, rfl, hr⟩ := h
  refine ⟨A, n, c, rfl, Kd.R_mono (Kd.R_grown (Kd.R_types hr hb ?_) hg ?_) (fun _ _ => trivial)⟩
  · intro q hq
    rcases List.mem_cons.1 hq with rfl | hq
    · exact ht
    · cases hq
  · rintro k ⟨_, hk⟩ he
    cases he
    exact hk rfl
theorem CDy.lit {w : World} {g : Nat} {b : Bool} {m : Nat} {e : Int} (h : w.heap[g]? = some (.cells #[.int .u64 (m : Int)] 23 (0, 0))) (hC : kU.C w (some ⟨g, 0, none⟩) 1 [m]) (hl : limbs (cman (sgn b m)) = [m]) (h1 : cneg (sgn b m) = b) (h2 : cexp (sgn b m) e = e) :
    CDy w (.agg #[.bool b, .slice (some ⟨g, 0, none⟩) 1 1, .int .i64 e]) (sgn b m) e := ⟨some ⟨g, 0, none⟩, 1, 1, by rw [h1, h2], by rw [hl]; exact hC, by rw [hl]; rfl, Nat.le_refl _⟩
theorem row_c (w : World) (x : Nat) : kU.C (w.alloc (.cells #[.int .u64 (x : Int)] 23)) (some ⟨w.heap.size, 0, none⟩) 1 [x] := by
  obtain ⟨A, c, he, _, hC⟩ := Kd.R_reads (row_one w x)
  injection he with h1 h2 h3
  subst h1 h3
  exact hC
set_option maxRecDepth 100000 in
set_option maxHeartbeats 8000000 in
theorem dint_neg {n : Int} (w : World) (hn : n < 0) (h1 : -9223372036854775808 ≤ n) (h2 : n < 9223372036854775808) :
    Calls Tryd.prog 14 #[.int .i64 n] w fun en w' => ∃ v', en = .returned v' ∧ RDy w' w.heap.size v' n 0 ∧ Below w.heap.size w w' := by
  obtain ⟨m, hm⟩ : ∃ m, m = n.natAbs := ⟨_, rfl⟩
  have hm64 : m < 18446744073709551616 := by omega
  have QO := Aside0.mk (fun (W : World) => of_any m hm64 W)
  have QF := Aside0.mk (fun (A : Option Addr) (c : Nat) (W : World) (hC : kU.C W A (limbs m).length (limbs m)) (hc : (limbs m).length ≤ c) => (by
    have hl : (limbs m).length ≤ 1 := limbs_len_le (by omega)
    have q := form_any (decide (n < 0)) (limbs m) A _ c 0 rfl W hC hc (wf_limbs _) (by omega) (by omega) (by omega)
    rw [nv_limbs, hm, show sgn (decide (n < 0)) n.natAbs = n from sgn_self n, ← hm] at q
    exact q : Calls Tryd.prog 35 #[.bool (decide (n < 0)), .slice A (limbs m).length c, .int .i64 0] W fun en w' => ∃ v', en = .returned v' ∧ RDy w' W.heap.size v' n 0 ∧ Below W.heap.size W w'))
  obtain ⟨a0, e1, e2⟩ : ∃ a0 : Nat, IntKind.u64.wrap n = (a0 : Int) ∧ IntKind.u64.wrap (-(a0 : Int)) = (m : Int) := ⟨(n % 18446744073709551616).toNat, by unfold IntKind.wrap; simp [IntKind.bits, IntKind.signed]; omega, by unfold IntKind.wrap; simp [IntKind.bits, IntKind.signed]; omega⟩
  have e3 : IntKind.u64.wrap (0 - (a0 : Int)) = (m : Int) := by rw [Int.zero_sub]; exact e2
  have hd : decide (n < 0) = true := decide_eq_true hn
  rw [hd] at QF
  clear hm h1 h2
  go_enter Tryd.func14, Tryd.ntmps14
  have BEL : Aside0 (BelN w 1 (w.alloc (.cells #[.bool false, .slice none 0 0, .int .i64 0] 27))) := ⟨((BelN.zero w).alloc _).less (by decide)⟩
  have XR : Aside0 ((w.alloc (.cells #[.bool false, .slice none 0 0, .int .i64 0] 27)).heap[w.heap.size]? = some (.cells #[.bool false, .slice none 0 0, .int .i64 0] 27 (0, 0))) := ⟨by have h := blk_new w (.cells #[.bool false, .slice none 0 0, .int .i64 0] 27); exact h⟩
  go_wp2_with fail
  go_at_call 36
  refine (QO.out _).mono ?_
  rintro en1 w1 ⟨v1, rfl, ho, hb⟩
  replace BEL := Aside0.mk (BEL.out.next hb)
  replace XR := Aside0.mk (blk_below XR.out hb)
  obtain ⟨A1, c1, rfl, hc1, hC1⟩ := Kd.R_reads ho
  have HC := Aside0.mk hC1
  have HCC := Aside0.mk hc1
  clear ho hb hC1 hc1
  go_wp2_with fail
  go_at_call 35
  refine (QF.out _ _ _ HC.out HCC.out).mono ?_
  have BL0 := BEL
  rintro en2 w2 ⟨v2, rfl, hr, hb⟩
  replace BEL := Aside0.mk (BEL.out.next hb)
  replace XR := Aside0.mk (blk_below XR.out hb)
  have P2 := Aside0.mk hr
  obtain ⟨b2, A2, n2, c2, x2, rfl⟩ := hr.ex
  clear hr hb
  go_wp2_with (((with_reducible refine gate_store (p := 2) rfl ?_); go_must (refine store_box 27 2 (.tmp 9) rfl rfl rfl (g := w.heap.size) (e := 27) (.agg #[.bool b2, .slice A2 n2 c2, .int .i64 x2]) ([.bool b2, .slice A2 n2 c2, .int .i64 x2]) rfl rfl rfl info_dyad ?b1 XR.out rfl ?_; (case b1 => intro q hq; simp at hq; rcases hq with rfl | rfl | rfl <;> rfl); intro wb hbx hgx; have HX := Aside0.mk hbx; have HG := Aside0.mk hgx; clear hbx hgx)); replace P2 := Aside0.mk (P2.out.grown_box XR.out (by decide) HG.out); replace BEL := Aside0.mk (BEL.out.grown HG.out (by omega)); replace XR := HX; clear HG)
  refine bodyPost_ret (results_dyad rfl _ _ (w.heap.size) _ rfl XR.out rfl) rfl ?_
  exact ⟨_, rfl, P2.out.lower BL0.out.1.size, BEL.out.1⟩

set_option maxRecDepth 100000 in
set_option maxHeartbeats 8000000 in
theorem dint_pos {n : Int} (w : World) (hn : ¬ n < 0) (h1 : -9223372036854775808 ≤ n) (h2 : n < 9223372036854775808) :
    Calls Tryd.prog 14 #[.int .i64 n] w fun en w' => ∃ v', en = .returned v' ∧ RDy w' w.heap.size v' n 0 ∧ Below w.heap.size w w' := by
  obtain ⟨m, hm⟩ : ∃ m, m = n.natAbs := ⟨_, rfl⟩
  have hm64 : m < 18446744073709551616 := by omega
  have QO := Aside0.mk (fun (W : World) => of_any m hm64 W)
  have QF := Aside0.mk (fun (A : Option Addr) (c : Nat) (W : World) (hC : kU.C W A (limbs m).length (limbs m)) (hc : (limbs m).length ≤ c) => (by
    have hl : (limbs m).length ≤ 1 := limbs_len_le (by omega)
    have q := form_any (decide (n < 0)) (limbs m) A _ c 0 rfl W hC hc (wf_limbs _) (by omega) (by omega) (by omega)
    rw [nv_limbs, hm, show sgn (decide (n < 0)) n.natAbs = n from sgn_self n, ← hm] at q
    exact q : Calls Tryd.prog 35 #[.bool (decide (n < 0)), .slice A (limbs m).length c, .int .i64 0] W fun en w' => ∃ v', en = .returned v' ∧ RDy w' W.heap.size v' n 0 ∧ Below W.heap.size W w'))
  have e1 : IntKind.u64.wrap n = (m : Int) := by unfold IntKind.wrap; simp [IntKind.bits, IntKind.signed]; omega
  have hd : decide (n < 0) = false := decide_eq_false hn
  have hn2 : 0 ≤ n := by omega
  rw [hd] at QF
  clear hm h1 h2 hn
  go_enter Tryd.func14, Tryd.ntmps14
  have BEL : Aside0 (BelN w 1 (w.alloc (.cells #[.bool false, .slice none 0 0, .int .i64 0] 27))) := ⟨((BelN.zero w).alloc _).less (by decide)⟩
  have XR : Aside0 ((w.alloc (.cells #[.bool false, .slice none 0 0, .int .i64 0] 27)).heap[w.heap.size]? = some (.cells #[.bool false, .slice none 0 0, .int .i64 0] 27 (0, 0))) := ⟨by have h := blk_new w (.cells #[.bool false, .slice none 0 0, .int .i64 0] 27); exact h⟩
  go_wp2_with fail
  go_at_call 36
  refine (QO.out _).mono ?_
  rintro en1 w1 ⟨v1, rfl, ho, hb⟩
  replace BEL := Aside0.mk (BEL.out.next hb)
  replace XR := Aside0.mk (blk_below XR.out hb)
  obtain ⟨A1, c1, rfl, hc1, hC1⟩ := Kd.R_reads ho
  have HC := Aside0.mk hC1
  have HCC := Aside0.mk hc1
  clear ho hb hC1 hc1
  go_wp2_with fail
  go_at_call 35
  refine (QF.out _ _ _ HC.out HCC.out).mono ?_
  have BL0 := BEL
  rintro en2 w2 ⟨v2, rfl, hr, hb⟩
  replace BEL := Aside0.mk (BEL.out.next hb)
  replace XR := Aside0.mk (blk_below XR.out hb)
  have P2 := Aside0.mk hr
  obtain ⟨b2, A2, n2, c2, x2, rfl⟩ := hr.ex
  clear hr hb
  go_wp2_with (((with_reducible refine gate_store (p := 2) rfl ?_); go_must (refine store_box 27 2 (.tmp 13) rfl rfl rfl (g := w.heap.size) (e := 27) (.agg #[.bool b2, .slice A2 n2 c2, .int .i64 x2]) ([.bool b2, .slice A2 n2 c2, .int .i64 x2]) rfl rfl rfl info_dyad ?b1 XR.out rfl ?_; (case b1 => intro q hq; simp at hq; rcases hq with rfl | rfl | rfl <;> rfl); intro wb hbx hgx; have HX := Aside0.mk hbx; have HG := Aside0.mk hgx; clear hbx hgx)); replace P2 := Aside0.mk (P2.out.grown_box XR.out (by decide) HG.out); replace BEL := Aside0.mk (BEL.out.grown HG.out (by omega)); replace XR := HX; clear HG)
  refine bodyPost_ret (results_dyad rfl _ _ (w.heap.size) _ rfl XR.out rfl) rfl ?_
  exact ⟨_, rfl, P2.out.lower BL0.out.1.size, BEL.out.1⟩

theorem dint_any (n : Int) (w : World) (h1 : -9223372036854775808 ≤ n) (h2 : n < 9223372036854775808) :
    Calls Tryd.prog 14 #[.int .i64 n] w fun en w' => ∃ v', en = .returned v' ∧ RDy w' w.heap.size v' n 0 ∧ Below w.heap.size w w' := by
  by_cases hn : n < 0
  · exact dint_neg w hn h1 h2
  · exact dint_pos w hn h1 h2
theorem same_ok {u v : Value} {y z e e' : Int} {w : World} (h : CDy w u y e) (h' : CDy w v z e') (o : Ok y e) :
    Calls Tryd.prog 10 #[u, v] w fun en w' => en = .returned (.bool (decide (cneg y = cneg z ∧ cexp y e = cexp z e' ∧ cman y = cman z))) ∧ Below w.heap.size w w' := same_any' u v y z e e' w h h' o.len30 (Int.le_trans (by decide) o.lo) (Int.le_trans o.hi (by decide))
theorem same_self {u v : Value} {y e : Int} {w : World} (h : CDy w u y e) (h' : CDy w v y e) (o : Ok y e) :
    Calls Tryd.prog 10 #[u, v] w fun en w' => en = .returned (.bool true) ∧ Below w.heap.size w w' := by
  have q := same_ok h h' o
  rw [decide_eq_true (⟨rfl, rfl, rfl⟩ : cneg y = cneg y ∧ cexp y e = cexp y e ∧ cman y = cman y)] at q
  exact q
theorem live1a : exE 9 4652007308841189376 = 0 := (Prod.mk.inj live1).1
theorem live1b : exO 9 4652007308841189376 = some (3, 0) := (Prod.mk.inj live1).2
theorem live2a : exE 18 4598175219545276416 = 0 := (Prod.mk.inj live2).1
theorem live2b : exO 18 4598175219545276416 = some (1, 0) := (Prod.mk.inj live2).2
theorem live3b : exO 18 4602678819172646912 = none := by kernel_rfl
theorem live4a : exE2 34 4607182418800017408 13830554455654793216 = 0 := (Prod.mk.inj live4).1
theorem live4b : exO2 34 4607182418800017408 13830554455654793216 = some (3, -2) := (Prod.mk.inj live4).2

set_option maxRecDepth 100000 in
set_option maxHeartbeats 8000000 in
theorem lives_any (w : World) (hT : TabAt 0 Lib.deBruijn64tab w) :
    Calls Tryd.prog 9 #[] w fun en w' => en = .returned (.bool true) ∧ Below w.heap.size w w' := by
  have HT := Aside0.mk hT
  have BEL := Aside0.mk (BelN.zero w)
  have Q1 := Aside0.mk (fun (W : World) (ht : TabAt 0 Lib.deBruijn64tab W) => (by
    have q := exact_any 9 4652007308841189376 (by decide) (by decide) W ht
    rw [live1a, live1b] at q
    exact q : Calls Tryd.prog 11 #[.int .u8 9, .int .u64 4652007308841189376] W fun en w' => ∃ v', en = .returned (.tuple #[v', .bool true, .int .i64 0]) ∧ PDy w' W.heap.size v' (3) (0) ∧ Below W.heap.size W w'))
  have Q2 := Aside0.mk (fun (W : World) (ht : TabAt 0 Lib.deBruijn64tab W) => (by
    have q := exact_any 18 4598175219545276416 (by decide) (by decide) W ht
    rw [live2a, live2b] at q
    exact q : Calls Tryd.prog 11 #[.int .u8 18, .int .u64 4598175219545276416] W fun en w' => ∃ v', en = .returned (.tuple #[v', .bool true, .int .i64 0]) ∧ PDy w' W.heap.size v' (1) (0) ∧ Below W.heap.size W w'))
  have Q3 := Aside0.mk (fun (W : World) (ht : TabAt 0 Lib.deBruijn64tab W) => (by
    have q := exact_any 18 4602678819172646912 (by decide) (by decide) W ht
    rw [live3, live3b] at q
    exact q : Calls Tryd.prog 11 #[.int .u8 18, .int .u64 4602678819172646912] W fun en w' => ∃ v', en = .returned (.tuple #[v', .bool false, .int .i64 5]) ∧ PDy w' W.heap.size v' (0) (0) ∧ Below W.heap.size W w'))
  have Q4 := Aside0.mk (fun (W : World) (ht : TabAt 0 Lib.deBruijn64tab W) => (by
    have q := exact2_any 34 4607182418800017408 13830554455654793216 (by decide) (by decide) (by decide) W ht
    rw [live4a, live4b] at q
    exact q : Calls Tryd.prog 7 #[.int .u8 34, .int .u64 4607182418800017408, .int .u64 13830554455654793216] W fun en w' => ∃ v', en = .returned (.tuple #[v', .bool true, .int .i64 0]) ∧ PDy w' W.heap.size v' (3) (-2) ∧ Below W.heap.size W w'))
  have QD := Aside0.mk (fun (W : World) (ht : TabAt 0 Lib.deBruijn64tab W) => (by
    have q := domain_any 7 4607182418800017408 (by decide) (by decide) W ht
    rw [live5] at q
    exact q : Calls Tryd.prog 28 #[.int .u8 7, .int .u64 4607182418800017408] W fun en w' => en = .returned (.bool true) ∧ Below W.heap.size W w'))
  clear hT
  go_enter Tryd.func9, Tryd.ntmps9
  go_wp2_with fail
  go_at_call 11
  refine (Q1.out _ (tab_below HT.out BEL.out.1)).mono ?_
  rintro en1 w1 ⟨v1, rfl, hr, hb⟩
  replace BEL := Aside0.mk (BEL.out.next hb)
  have P1 := Aside0.mk hr
  obtain ⟨b1, A1, n1, c1, x1, rfl⟩ := hr.ex
  clear hr hb
  have BELo := BEL
  go_wp2_with (replace BEL := Aside0.mk ((BEL.out.alloc (.cells #[.bool false, .slice none 0 0, .int .i64 0] 27)).less (j := 0) (by omega)); have HN := Aside0.mk (blk_new w1 (.cells #[.bool false, .slice none 0 0, .int .i64 0] 27)); replace P1 := Aside0.mk (P1.out.below (below_alloc (Below.refl _ _) (.cells #[.bool false, .slice none 0 0, .int .i64 0] 27))); ((with_reducible refine gate_store (p := 1) rfl ?_); go_must (refine store_box 27 1 (.tmp 15) rfl rfl rfl (g := w1.heap.size) (e := 27) (.agg #[.bool b1, .slice A1 n1 c1, .int .i64 x1]) ([.bool b1, .slice A1 n1 c1, .int .i64 x1]) rfl rfl rfl info_dyad ?b1 HN.out rfl ?_; (case b1 => intro q hq; simp at hq; rcases hq with rfl | rfl | rfl <;> rfl); intro wb hbx hgx; have HX := Aside0.mk hbx; have HG := Aside0.mk hgx; clear hbx hgx)); replace P1 := Aside0.mk (P1.out.grown_box HN.out (by decide) HG.out); have LB_X1 := BELo.out.2; replace BEL := Aside0.mk (BEL.out.grown HG.out (Nat.le_trans (Nat.le_add_right _ _) LB_X1)); have LL_X1 := Aside0.mk LB_X1; clear LB_X1; have X1 := HX; clear HG HN HX)
  go_at_call 11
  refine (Q2.out _ (tab_below HT.out BEL.out.1)).mono ?_
  rintro en2 w2 ⟨v2, rfl, hr, hb⟩
  replace BEL := Aside0.mk (BEL.out.next hb)
  replace X1 := Aside0.mk (blk_below X1.out hb)
  replace P1 := Aside0.mk (P1.out.below hb)
  have P2 := Aside0.mk hr
  obtain ⟨b2, A2, n2, c2, x2, rfl⟩ := hr.ex
  clear hr hb
  have BELo := BEL
  go_wp2_with (replace BEL := Aside0.mk ((BEL.out.alloc (.cells #[.bool false, .slice none 0 0, .int .i64 0] 27)).less (j := 0) (by omega)); have HN := Aside0.mk (blk_new w2 (.cells #[.bool false, .slice none 0 0, .int .i64 0] 27)); have L_X1 := lt_blk X1.out; replace X1 := Aside0.mk (blk_alloc X1.out (.cells #[.bool false, .slice none 0 0, .int .i64 0] 27)); replace P1 := Aside0.mk (P1.out.below (below_alloc (Below.refl _ _) (.cells #[.bool false, .slice none 0 0, .int .i64 0] 27))); replace P2 := Aside0.mk (P2.out.below (below_alloc (Below.refl _ _) (.cells #[.bool false, .slice none 0 0, .int .i64 0] 27))); ((with_reducible refine gate_store (p := 4) rfl ?_); go_must (refine store_box 27 4 (.tmp 20) rfl rfl rfl (g := w2.heap.size) (e := 27) (.agg #[.bool b2, .slice A2 n2 c2, .int .i64 x2]) ([.bool b2, .slice A2 n2 c2, .int .i64 x2]) rfl rfl rfl info_dyad ?b1 HN.out rfl ?_; (case b1 => intro q hq; simp at hq; rcases hq with rfl | rfl | rfl <;> rfl); intro wb hbx hgx; have HX := Aside0.mk hbx; have HG := Aside0.mk hgx; clear hbx hgx)); replace P1 := Aside0.mk (P1.out.grown_box HN.out (by decide) HG.out); replace P2 := Aside0.mk (P2.out.grown_box HN.out (by decide) HG.out); have LB_X2 := BELo.out.2; replace BEL := Aside0.mk (BEL.out.grown HG.out (Nat.le_trans (Nat.le_add_right _ _) LB_X2)); replace X1 := Aside0.mk (blk_grown X1.out HG.out (Nat.ne_of_lt L_X1)); have NE_X1_X2 := Aside0.mk (Nat.ne_of_lt L_X1); clear L_X1; have LL_X2 := Aside0.mk LB_X2; clear LB_X2; have X2 := HX; clear HG HN HX)
  go_at_call 11
  refine (Q3.out _ (tab_below HT.out BEL.out.1)).mono ?_
  rintro en3 w3 ⟨v3, rfl, hr, hb⟩
  replace BEL := Aside0.mk (BEL.out.next hb)
  replace X1 := Aside0.mk (blk_below X1.out hb)
  replace X2 := Aside0.mk (blk_below X2.out hb)
  replace P1 := Aside0.mk (P1.out.below hb)
  replace P2 := Aside0.mk (P2.out.below hb)
  have P3 := Aside0.mk hr
  obtain ⟨b3, A3, n3, c3, x3, rfl⟩ := hr.ex
  clear hr hb
  have BELo := BEL
  go_wp2_with (replace BEL := Aside0.mk ((BEL.out.alloc (.cells #[.bool false, .slice none 0 0, .int .i64 0] 27)).less (j := 0) (by omega)); have HN := Aside0.mk (blk_new w3 (.cells #[.bool false, .slice none 0 0, .int .i64 0] 27)); have L_X1 := lt_blk X1.out; replace X1 := Aside0.mk (blk_alloc X1.out (.cells #[.bool false, .slice none 0 0, .int .i64 0] 27)); have L_X2 := lt_blk X2.out; replace X2 := Aside0.mk (blk_alloc X2.out (.cells #[.bool false, .slice none 0 0, .int .i64 0] 27)); replace P1 := Aside0.mk (P1.out.below (below_alloc (Below.refl _ _) (.cells #[.bool false, .slice none 0 0, .int .i64 0] 27))); replace P2 := Aside0.mk (P2.out.below (below_alloc (Below.refl _ _) (.cells #[.bool false, .slice none 0 0, .int .i64 0] 27))); replace P3 := Aside0.mk (P3.out.below (below_alloc (Below.refl _ _) (.cells #[.bool false, .slice none 0 0, .int .i64 0] 27))); ((with_reducible refine gate_store (p := 7) rfl ?_); go_must (refine store_box 27 7 (.tmp 25) rfl rfl rfl (g := w3.heap.size) (e := 27) (.agg #[.bool b3, .slice A3 n3 c3, .int .i64 x3]) ([.bool b3, .slice A3 n3 c3, .int .i64 x3]) rfl rfl rfl info_dyad ?b1 HN.out rfl ?_; (case b1 => intro q hq; simp at hq; rcases hq with rfl | rfl | rfl <;> rfl); intro wb hbx hgx; have HX := Aside0.mk hbx; have HG := Aside0.mk hgx; clear hbx hgx)); replace P1 := Aside0.mk (P1.out.grown_box HN.out (by decide) HG.out); replace P2 := Aside0.mk (P2.out.grown_box HN.out (by decide) HG.out); replace P3 := Aside0.mk (P3.out.grown_box HN.out (by decide) HG.out); have LB_X3 := BELo.out.2; replace BEL := Aside0.mk (BEL.out.grown HG.out (Nat.le_trans (Nat.le_add_right _ _) LB_X3)); replace X1 := Aside0.mk (blk_grown X1.out HG.out (Nat.ne_of_lt L_X1)); replace X2 := Aside0.mk (blk_grown X2.out HG.out (Nat.ne_of_lt L_X2)); have NE_X1_X3 := Aside0.mk (Nat.ne_of_lt L_X1); have NE_X2_X3 := Aside0.mk (Nat.ne_of_lt L_X2); clear L_X1; clear L_X2; have LL_X3 := Aside0.mk LB_X3; clear LB_X3; have X3 := HX; clear HG HN HX)
  go_at_call 7
  refine (Q4.out _ (tab_below HT.out BEL.out.1)).mono ?_
  rintro en4 w4 ⟨v4, rfl, hr, hb⟩
  replace BEL := Aside0.mk (BEL.out.next hb)
  replace X1 := Aside0.mk (blk_below X1.out hb)
  replace X2 := Aside0.mk (blk_below X2.out hb)
  replace X3 := Aside0.mk (blk_below X3.out hb)
  replace P1 := Aside0.mk (P1.out.below hb)
  replace P2 := Aside0.mk (P2.out.below hb)
  replace P3 := Aside0.mk (P3.out.below hb)
  have P4 := Aside0.mk hr
  obtain ⟨b4, A4, n4, c4, x4, rfl⟩ := hr.ex
  clear hr hb
  have BELo := BEL
  go_wp2_with (replace BEL := Aside0.mk ((BEL.out.alloc (.cells #[.bool false, .slice none 0 0, .int .i64 0] 27)).less (j := 0) (by omega)); have HN := Aside0.mk (blk_new w4 (.cells #[.bool false, .slice none 0 0, .int .i64 0] 27)); have L_X1 := lt_blk X1.out; replace X1 := Aside0.mk (blk_alloc X1.out (.cells #[.bool false, .slice none 0 0, .int .i64 0] 27)); have L_X2 := lt_blk X2.out; replace X2 := Aside0.mk (blk_alloc X2.out (.cells #[.bool false, .slice none 0 0, .int .i64 0] 27)); have L_X3 := lt_blk X3.out; replace X3 := Aside0.mk (blk_alloc X3.out (.cells #[.bool false, .slice none 0 0, .int .i64 0] 27)); replace P1 := Aside0.mk (P1.out.below (below_alloc (Below.refl _ _) (.cells #[.bool false, .slice none 0 0, .int .i64 0] 27))); replace P2 := Aside0.mk (P2.out.below (below_alloc (Below.refl _ _) (.cells #[.bool false, .slice none 0 0, .int .i64 0] 27))); replace P3 := Aside0.mk (P3.out.below (below_alloc (Below.refl _ _) (.cells #[.bool false, .slice none 0 0, .int .i64 0] 27))); replace P4 := Aside0.mk (P4.out.below (below_alloc (Below.refl _ _) (.cells #[.bool false, .slice none 0 0, .int .i64 0] 27))); ((with_reducible refine gate_store (p := 10) rfl ?_); go_must (refine store_box 27 10 (.tmp 30) rfl rfl rfl (g := w4.heap.size) (e := 27) (.agg #[.bool b4, .slice A4 n4 c4, .int .i64 x4]) ([.bool b4, .slice A4 n4 c4, .int .i64 x4]) rfl rfl rfl info_dyad ?b1 HN.out rfl ?_; (case b1 => intro q hq; simp at hq; rcases hq with rfl | rfl | rfl <;> rfl); intro wb hbx hgx; have HX := Aside0.mk hbx; have HG := Aside0.mk hgx; clear hbx hgx)); replace P1 := Aside0.mk (P1.out.grown_box HN.out (by decide) HG.out); replace P2 := Aside0.mk (P2.out.grown_box HN.out (by decide) HG.out); replace P3 := Aside0.mk (P3.out.grown_box HN.out (by decide) HG.out); replace P4 := Aside0.mk (P4.out.grown_box HN.out (by decide) HG.out); have LB_X4 := BELo.out.2; replace BEL := Aside0.mk (BEL.out.grown HG.out (Nat.le_trans (Nat.le_add_right _ _) LB_X4)); replace X1 := Aside0.mk (blk_grown X1.out HG.out (Nat.ne_of_lt L_X1)); replace X2 := Aside0.mk (blk_grown X2.out HG.out (Nat.ne_of_lt L_X2)); replace X3 := Aside0.mk (blk_grown X3.out HG.out (Nat.ne_of_lt L_X3)); have NE_X1_X4 := Aside0.mk (Nat.ne_of_lt L_X1); have NE_X2_X4 := Aside0.mk (Nat.ne_of_lt L_X2); have NE_X3_X4 := Aside0.mk (Nat.ne_of_lt L_X3); clear L_X1; clear L_X2; clear L_X3; have LL_X4 := Aside0.mk LB_X4; clear LB_X4; have X4 := HX; clear HG HN HX)
  obtain ⟨ws, hws⟩ : ∃ ws : World, ws = wb := ⟨_, rfl⟩
  obtain ⟨TM, hTM⟩ : ∃ T : List (Option Value), T = [some (.bool true), some (.bool true), some (.int .i64 0), some (.bool true), some (.bool true), some (.bool true), some (.agg #[.bool b1, .slice A1 n1 c1, .int .i64 x1]), none, none, some (.bool true), some (.bool true), some (.bool true), some (.bool true), some (.bool true), some (.int .i64 0), some (.bool true), some (.bool true), some (.bool true), some (.agg #[.bool b2, .slice A2 n2 c2, .int .i64 x2]), none, none, some (.bool true), some (.bool true), some (.int .i64 5), some (.bool true), some (.bool true), some (.bool true), some (.bool true), some (.bool true), some (.bool true), some (.int .i64 0), some (.bool true), some (.bool true), some (.bool true), some (.agg #[.bool b4, .slice A4 n4 c4, .int .i64 x4]), none, none, none, some (.bool true), some (.bool true), none, some (.bool true), some (.bool true)] := ⟨_, rfl⟩
  obtain ⟨GM, hGM⟩ : ∃ G : (Nat → Prop) → (Nat → Value) → World → Prop, G = fun L v W => BelN w 0 W ∧ W.heap[w1.heap.size]? = some (.cells #[.bool b1, .slice A1 n1 c1, .int .i64 x1] 27 (0, 0)) ∧ W.heap[w2.heap.size]? = some (.cells #[.bool b2, .slice A2 n2 c2, .int .i64 x2] 27 (0, 0)) ∧ W.heap[w4.heap.size]? = some (.cells #[.bool b4, .slice A4 n4 c4, .int .i64 x4] 27 (0, 0)) ∧ PDy W 0 (.agg #[.bool b1, .slice A1 n1 c1, .int .i64 x1]) 3 0 ∧ PDy W 0 (.agg #[.bool b2, .slice A2 n2 c2, .int .i64 x2]) 1 0 ∧ PDy W 0 (.agg #[.bool b4, .slice A4 n4 c4, .int .i64 x4]) 3 (-2) ∧ (∀ j c, L j → TM[j]? = some (some c) → v j = c) ∧ (L 7 → CDy W (v 7) 3 0) ∧ (L 8 → (v 8) = .bool true) ∧ (L 19 → CDy W (v 19) 1 0) ∧ (L 20 → (v 20) = .bool true) ∧ (L 35 → ∃ g, (v 35) = .slice (some ⟨g, 0, none⟩) 1 1 ∧ W.heap[g]? = some (.cells #[.int .u64 3] 23 (0, 0)) ∧ kU.C W (some ⟨g, 0, none⟩) 1 [3]) ∧ (L 36 → CDy W (v 36) 3 (-2)) ∧ (L 37 → (v 37) = .bool true) ∧ (L 40 → (v 40) = .bool true) := ⟨_, rfl⟩
  refine wp_region_slotsV [33, 34, 35, 36, 37, 38, 39, 40, 41, 42, 43, 44, 45, 46, 47, 48, 49, 50, 51, 52, 53, 54, 55, 56, 57, 58, 59, 60, 61, 62, 63, 64, 65, 66, 67, 68, 69, 70, 71, 72, 73, 74, 0] (by kernel_rfl) (by kernel_rfl) (G := GM) ?h0M ?hstepM ?hendM
  case h0M =>
    intro v; rw [hGM]
    exact ⟨BEL.out.next (below_drew (Below.refl _ _)), blk_drew X1.out, blk_drew X2.out, blk_drew X4.out, (P1.out.below (below_drew (Below.refl _ _))).lower (Nat.zero_le _), (P2.out.below (below_drew (Below.refl _ _))).lower (Nat.zero_le _), (P4.out.below (below_drew (Below.refl _ _))).lower (Nat.zero_le _), fun _ _ h => h.elim, fun h => h.elim, fun h => h.elim, fun h => h.elim, fun h => h.elim, fun h => h.elim, fun h => h.elim, fun h => h.elim, fun h => h.elim⟩
  case hstepM =>
    intro k o ho v W L hGv hnk haft hcl K hK
    rw [hGM] at hGv
    obtain ⟨hB, hb0, hb1, hb2, hk0, hk1, hk2, fT, f7, f8, f19, f20, f35, f36, f37, f40⟩ := hGv
    rcases k with _ | _ | _ | _ | _ | _ | _ | _ | _ | _ | _ | _ | _ | _ | _ | _ | _ | _ | _ | _ | _ | _ | _ | _ | _ | _ | _ | _ | _ | _ | _ | _ | _ | _ | _ | _ | _ | _ | _ | _ | _ | _ | _ | k
    all_goals first
      | (cases ho; done)
      | (obtain rfl := (Option.some.inj ho).symm
         clear ho
         simp only [setAll, List.setIfInBounds_toArray, List.set_cons_zero, List.set_cons_succ, List.set_nil, List.getElem_toArray, List.getElem_cons_zero, List.getElem_cons_succ, Nat.reduceAdd] at haft hK ⊢)
    case zero =>
      rw [if_pos (by rfl)]
      have hb := Below.refl W.heap.size W
      have key := hK.out (.bool true) W (by rw [hGM]; exact ⟨hB.next hb, blk_below hb0 hb, blk_below hb1 hb, blk_below hb2 hb, hk0.below hb, hk1.below hb, hk2.below hb, tabs_step fT (fun c h => by rw [hTM] at h; exact Option.some.inj (Option.some.inj h)), (fun h0 => by rw [upd_ne v _ (by decide)]; have h := f7 (h0.resolve_right (by decide)); exact (h.below hb)), (kv f8 (by decide)), (fun h0 => by rw [upd_ne v _ (by decide)]; have h := f19 (h0.resolve_right (by decide)); exact (h.below hb)), (kv f20 (by decide)), (fun h0 => by rw [upd_ne v _ (by decide)]; have h := f35 (h0.resolve_right (by decide)); exact (let ⟨g, a1, a2, a3⟩ := h; ⟨g, a1, blk_below a2 hb, Kd.C_below a3 hb⟩)), (fun h0 => by rw [upd_ne v _ (by decide)]; have h := f36 (h0.resolve_right (by decide)); exact (h.below hb)), (kv f37 (by decide)), (kv f40 (by decide))⟩)
      clear hb0 hb1 hb2 hk0 hk1 hk2 fT f7 f8 f19 f20 f35 f36 f37 f40 hK hb
      go_simp
      simpa [upd] using key
    case succ.zero =>
      have d0 := fT 0 _ (haft { on := 0, ground := .data } (by simp) rfl) (by rw [hTM]; rfl)
      rw [if_pos (by rfl)]
      have hb := Below.refl W.heap.size W
      have key := hK.out (.bool true) W (by rw [hGM]; exact ⟨hB.next hb, blk_below hb0 hb, blk_below hb1 hb, blk_below hb2 hb, hk0.below hb, hk1.below hb, hk2.below hb, tabs_step fT (fun c h => by rw [hTM] at h; exact Option.some.inj (Option.some.inj h)), (fun h0 => by rw [upd_ne v _ (by decide)]; have h := f7 (h0.resolve_right (by decide)); exact (h.below hb)), (kv f8 (by decide)), (fun h0 => by rw [upd_ne v _ (by decide)]; have h := f19 (h0.resolve_right (by decide)); exact (h.below hb)), (kv f20 (by decide)), (fun h0 => by rw [upd_ne v _ (by decide)]; have h := f35 (h0.resolve_right (by decide)); exact (let ⟨g, a1, a2, a3⟩ := h; ⟨g, a1, blk_below a2 hb, Kd.C_below a3 hb⟩)), (fun h0 => by rw [upd_ne v _ (by decide)]; have h := f36 (h0.resolve_right (by decide)); exact (h.below hb)), (kv f37 (by decide)), (kv f40 (by decide))⟩)
      clear hb0 hb1 hb2 hk0 hk1 hk2 fT f7 f8 f19 f20 f35 f36 f37 f40 hK hb
      go_simp
      simpa [upd, d0] using key
    case succ.succ.zero =>
      have dg := fT 1 _ (haft { on := 1, ground := .guard } (by simp) rfl) (by rw [hTM]; rfl)
      rw [if_pos (by simp [Region.wanted, yielded, dg])]
      have hb := Below.refl W.heap.size W
      have key := hK.out (.int .i64 0) W (by rw [hGM]; exact ⟨hB.next hb, blk_below hb0 hb, blk_below hb1 hb, blk_below hb2 hb, hk0.below hb, hk1.below hb, hk2.below hb, tabs_step fT (fun c h => by rw [hTM] at h; exact Option.some.inj (Option.some.inj h)), (fun h0 => by rw [upd_ne v _ (by decide)]; have h := f7 (h0.resolve_right (by decide)); exact (h.below hb)), (kv f8 (by decide)), (fun h0 => by rw [upd_ne v _ (by decide)]; have h := f19 (h0.resolve_right (by decide)); exact (h.below hb)), (kv f20 (by decide)), (fun h0 => by rw [upd_ne v _ (by decide)]; have h := f35 (h0.resolve_right (by decide)); exact (let ⟨g, a1, a2, a3⟩ := h; ⟨g, a1, blk_below a2 hb, Kd.C_below a3 hb⟩)), (fun h0 => by rw [upd_ne v _ (by decide)]; have h := f36 (h0.resolve_right (by decide)); exact (h.below hb)), (kv f37 (by decide)), (kv f40 (by decide))⟩)
      clear hb0 hb1 hb2 hk0 hk1 hk2 fT f7 f8 f19 f20 f35 f36 f37 f40 hK hb
      go_simp
      simpa [upd, dg] using key
    case succ.succ.succ.zero =>
      have d2 := fT 2 _ (haft { on := 2, ground := .data } (by simp) rfl) (by rw [hTM]; rfl)
      have dg := fT 1 _ (haft { on := 1, ground := .guard } (by simp) rfl) (by rw [hTM]; rfl)
      rw [if_pos (by simp [Region.wanted, yielded, dg])]
      have hb := Below.refl W.heap.size W
      have key := hK.out (.bool true) W (by rw [hGM]; exact ⟨hB.next hb, blk_below hb0 hb, blk_below hb1 hb, blk_below hb2 hb, hk0.below hb, hk1.below hb, hk2.below hb, tabs_step fT (fun c h => by rw [hTM] at h; exact Option.some.inj (Option.some.inj h)), (fun h0 => by rw [upd_ne v _ (by decide)]; have h := f7 (h0.resolve_right (by decide)); exact (h.below hb)), (kv f8 (by decide)), (fun h0 => by rw [upd_ne v _ (by decide)]; have h := f19 (h0.resolve_right (by decide)); exact (h.below hb)), (kv f20 (by decide)), (fun h0 => by rw [upd_ne v _ (by decide)]; have h := f35 (h0.resolve_right (by decide)); exact (let ⟨g, a1, a2, a3⟩ := h; ⟨g, a1, blk_below a2 hb, Kd.C_below a3 hb⟩)), (fun h0 => by rw [upd_ne v _ (by decide)]; have h := f36 (h0.resolve_right (by decide)); exact (h.below hb)), (kv f37 (by decide)), (kv f40 (by decide))⟩)
      clear hb0 hb1 hb2 hk0 hk1 hk2 fT f7 f8 f19 f20 f35 f36 f37 f40 hK hb
      go_simp
      simpa [upd, d2, dg] using key
    case succ.succ.succ.succ.zero =>
      have d1 := fT 1 _ (haft { on := 1, ground := .data } (by simp) rfl) (by rw [hTM]; rfl)
      have d3 := fT 3 _ (haft { on := 3, ground := .data } (by simp) rfl) (by rw [hTM]; rfl)
      rw [if_pos (by rfl)]
      have hb := Below.refl W.heap.size W
      have key := hK.out (.bool true) W (by rw [hGM]; exact ⟨hB.next hb, blk_below hb0 hb, blk_below hb1 hb, blk_below hb2 hb, hk0.below hb, hk1.below hb, hk2.below hb, tabs_step fT (fun c h => by rw [hTM] at h; exact Option.some.inj (Option.some.inj h)), (fun h0 => by rw [upd_ne v _ (by decide)]; have h := f7 (h0.resolve_right (by decide)); exact (h.below hb)), (kv f8 (by decide)), (fun h0 => by rw [upd_ne v _ (by decide)]; have h := f19 (h0.resolve_right (by decide)); exact (h.below hb)), (kv f20 (by decide)), (fun h0 => by rw [upd_ne v _ (by decide)]; have h := f35 (h0.resolve_right (by decide)); exact (let ⟨g, a1, a2, a3⟩ := h; ⟨g, a1, blk_below a2 hb, Kd.C_below a3 hb⟩)), (fun h0 => by rw [upd_ne v _ (by decide)]; have h := f36 (h0.resolve_right (by decide)); exact (h.below hb)), (kv f37 (by decide)), (kv f40 (by decide))⟩)
      clear hb0 hb1 hb2 hk0 hk1 hk2 fT f7 f8 f19 f20 f35 f36 f37 f40 hK hb
      go_simp
      simpa [upd, d1, d3] using key
    case succ.succ.succ.succ.succ.zero =>
      have d4 := fT 4 _ (haft { on := 4, ground := .data } (by simp) rfl) (by rw [hTM]; rfl)
      rw [if_pos (by rfl)]
      have hb := Below.refl W.heap.size W
      have key := hK.out (.bool true) W (by rw [hGM]; exact ⟨hB.next hb, blk_below hb0 hb, blk_below hb1 hb, blk_below hb2 hb, hk0.below hb, hk1.below hb, hk2.below hb, tabs_step fT (fun c h => by rw [hTM] at h; exact Option.some.inj (Option.some.inj h)), (fun h0 => by rw [upd_ne v _ (by decide)]; have h := f7 (h0.resolve_right (by decide)); exact (h.below hb)), (kv f8 (by decide)), (fun h0 => by rw [upd_ne v _ (by decide)]; have h := f19 (h0.resolve_right (by decide)); exact (h.below hb)), (kv f20 (by decide)), (fun h0 => by rw [upd_ne v _ (by decide)]; have h := f35 (h0.resolve_right (by decide)); exact (let ⟨g, a1, a2, a3⟩ := h; ⟨g, a1, blk_below a2 hb, Kd.C_below a3 hb⟩)), (fun h0 => by rw [upd_ne v _ (by decide)]; have h := f36 (h0.resolve_right (by decide)); exact (h.below hb)), (kv f37 (by decide)), (kv f40 (by decide))⟩)
      clear hb0 hb1 hb2 hk0 hk1 hk2 fT f7 f8 f19 f20 f35 f36 f37 f40 hK hb
      go_simp
      simpa [upd, d4] using key
    case succ.succ.succ.succ.succ.succ.zero =>
      have dg := fT 5 _ (haft { on := 5, ground := .guard } (by simp) rfl) (by rw [hTM]; rfl)
      rw [if_pos (by simp [Region.wanted, yielded, dg])]
      have cc0 := (box_cell (v := .bool b1) hb0 0 rfl).1
      have cc1 := (box_cell (v := .slice A1 n1 c1) hb0 1 rfl).1
      have cc2 := (box_cell (v := .int .i64 x1) hb0 2 rfl).1
      have hb := Below.refl W.heap.size W
      have key := hK.out (.agg #[.bool b1, .slice A1 n1 c1, .int .i64 x1]) W (by rw [hGM]; exact ⟨hB.next hb, blk_below hb0 hb, blk_below hb1 hb, blk_below hb2 hb, hk0.below hb, hk1.below hb, hk2.below hb, tabs_step fT (fun c h => by rw [hTM] at h; exact Option.some.inj (Option.some.inj h)), (fun h0 => by rw [upd_ne v _ (by decide)]; have h := f7 (h0.resolve_right (by decide)); exact (h.below hb)), (kv f8 (by decide)), (fun h0 => by rw [upd_ne v _ (by decide)]; have h := f19 (h0.resolve_right (by decide)); exact (h.below hb)), (kv f20 (by decide)), (fun h0 => by rw [upd_ne v _ (by decide)]; have h := f35 (h0.resolve_right (by decide)); exact (let ⟨g, a1, a2, a3⟩ := h; ⟨g, a1, blk_below a2 hb, Kd.C_below a3 hb⟩)), (fun h0 => by rw [upd_ne v _ (by decide)]; have h := f36 (h0.resolve_right (by decide)); exact (h.below hb)), (kv f37 (by decide)), (kv f40 (by decide))⟩)
      clear hb0 hb1 hb2 hk0 hk1 hk2 fT f7 f8 f19 f20 f35 f36 f37 f40 hK hb
      go_simp
      simpa [upd, dg] using key
    case succ.succ.succ.succ.succ.succ.succ.zero =>
      have dg := fT 5 _ (haft { on := 5, ground := .guard } (by simp) rfl) (by rw [hTM]; rfl)
      rw [if_pos (by simp [Region.wanted, yielded, dg])]
      have HALL := Aside0.mk (And.intro hK (And.intro hB (And.intro hb0 ( And.intro hb1 ( And.intro hb2 ( And.intro hk0 ( And.intro hk1 ( And.intro hk2 ( And.intro fT ( And.intro f7 ( And.intro f8 ( And.intro f19 ( And.intro f20 ( And.intro f35 ( And.intro f36 ( And.intro f37 ( And.intro f40 (True.intro))))))))))))))))))
      clear hK hb0 hb1 hb2 hk0 hk1 hk2 fT f7 f8 f19 f20 f35 f36 f37 f40
      go_simp
      go_at_call 14
      refine (dint_any 3 _ (by decide) (by decide)).mono ?_
      rintro en w4 ⟨v1, rfl, hr, hb⟩
      obtain ⟨hK, hB, hb0, hb1, hb2, hk0, hk1, hk2, fT, f7, f8, f19, f20, f35, f36, f37, f40, _⟩ := HALL.out
      have key := hK.out (v1) w4 (by rw [hGM]; exact ⟨hB.next hb, blk_below hb0 hb, blk_below hb1 hb, blk_below hb2 hb, hk0.below hb, hk1.below hb, hk2.below hb, tabs_step fT (fun c h => by rw [hTM] at h; cases h), fun _ => by rw [upd_eq]; exact hr.c, (kv f8 (by decide)), (fun h0 => by rw [upd_ne v _ (by decide)]; have h := f19 (h0.resolve_right (by decide)); exact (h.below hb)), (kv f20 (by decide)), (fun h0 => by rw [upd_ne v _ (by decide)]; have h := f35 (h0.resolve_right (by decide)); exact (let ⟨g, a1, a2, a3⟩ := h; ⟨g, a1, blk_below a2 hb, Kd.C_below a3 hb⟩)), (fun h0 => by rw [upd_ne v _ (by decide)]; have h := f36 (h0.resolve_right (by decide)); exact (h.below hb)), (kv f37 (by decide)), (kv f40 (by decide))⟩)
      clear hb0 hb1 hb2 hk0 hk1 hk2 fT f7 f8 f19 f20 f35 f36 f37 f40 hK HALL
      simpa [upd, dg] using key
    case succ.succ.succ.succ.succ.succ.succ.succ.zero =>
      have d6 := fT 6 _ (haft { on := 6, ground := .data } (by simp) rfl) (by rw [hTM]; rfl)
      have d7 := f7 (haft { on := 7, ground := .data } (by simp) rfl)
      have dg := fT 5 _ (haft { on := 5, ground := .guard } (by simp) rfl) (by rw [hTM]; rfl)
      rw [if_pos (by simp [Region.wanted, yielded, dg])]
      have K1 := hk0
      have HALL := Aside0.mk (And.intro hK (And.intro hB (And.intro hb0 ( And.intro hb1 ( And.intro hb2 ( And.intro hk0 ( And.intro hk1 ( And.intro hk2 ( And.intro fT ( And.intro f7 ( And.intro f8 ( And.intro f19 ( And.intro f20 ( And.intro f35 ( And.intro f36 ( And.intro f37 ( And.intro f40 (True.intro))))))))))))))))))
      clear hK hb0 hb1 hb2 hk0 hk1 hk2 fT f7 f8 f19 f20 f35 f36 f37 f40
      go_simp
      go_at_call 10
      refine (same_self K1.c d7 (Ok.of 2 (by decide) (by decide) (by decide) (by decide))).mono ?_
      rintro en w4 ⟨rfl, hb⟩
      obtain ⟨hK, hB, hb0, hb1, hb2, hk0, hk1, hk2, fT, f7, f8, f19, f20, f35, f36, f37, f40, _⟩ := HALL.out
      have key := hK.out (.bool true) w4 (by rw [hGM]; exact ⟨hB.next hb, blk_below hb0 hb, blk_below hb1 hb, blk_below hb2 hb, hk0.below hb, hk1.below hb, hk2.below hb, tabs_step fT (fun c h => by rw [hTM] at h; cases h), (fun h0 => by rw [upd_ne v _ (by decide)]; have h := f7 (h0.resolve_right (by decide)); exact (h.below hb)), fun _ => by rw [upd_eq], (fun h0 => by rw [upd_ne v _ (by decide)]; have h := f19 (h0.resolve_right (by decide)); exact (h.below hb)), (kv f20 (by decide)), (fun h0 => by rw [upd_ne v _ (by decide)]; have h := f35 (h0.resolve_right (by decide)); exact (let ⟨g, a1, a2, a3⟩ := h; ⟨g, a1, blk_below a2 hb, Kd.C_below a3 hb⟩)), (fun h0 => by rw [upd_ne v _ (by decide)]; have h := f36 (h0.resolve_right (by decide)); exact (h.below hb)), (kv f37 (by decide)), (kv f40 (by decide))⟩)
      clear hb0 hb1 hb2 hk0 hk1 hk2 fT f7 f8 f19 f20 f35 f36 f37 f40 hK HALL
      simpa [upd, d6, dg] using key
    case succ.succ.succ.succ.succ.succ.succ.succ.succ.zero =>
      have d5 := fT 5 _ (haft { on := 5, ground := .data } (by simp) rfl) (by rw [hTM]; rfl)
      have d8 := f8 (haft { on := 8, ground := .data } (by simp) rfl)
      rw [if_pos (by rfl)]
      have hb := Below.refl W.heap.size W
      have key := hK.out (.bool true) W (by rw [hGM]; exact ⟨hB.next hb, blk_below hb0 hb, blk_below hb1 hb, blk_below hb2 hb, hk0.below hb, hk1.below hb, hk2.below hb, tabs_step fT (fun c h => by rw [hTM] at h; exact Option.some.inj (Option.some.inj h)), (fun h0 => by rw [upd_ne v _ (by decide)]; have h := f7 (h0.resolve_right (by decide)); exact (h.below hb)), (kv f8 (by decide)), (fun h0 => by rw [upd_ne v _ (by decide)]; have h := f19 (h0.resolve_right (by decide)); exact (h.below hb)), (kv f20 (by decide)), (fun h0 => by rw [upd_ne v _ (by decide)]; have h := f35 (h0.resolve_right (by decide)); exact (let ⟨g, a1, a2, a3⟩ := h; ⟨g, a1, blk_below a2 hb, Kd.C_below a3 hb⟩)), (fun h0 => by rw [upd_ne v _ (by decide)]; have h := f36 (h0.resolve_right (by decide)); exact (h.below hb)), (kv f37 (by decide)), (kv f40 (by decide))⟩)
      clear hb0 hb1 hb2 hk0 hk1 hk2 fT f7 f8 f19 f20 f35 f36 f37 f40 hK hb
      go_simp
      simpa [upd, d5, d8] using key
    case succ.succ.succ.succ.succ.succ.succ.succ.succ.succ.zero =>
      have d9 := fT 9 _ (haft { on := 9, ground := .data } (by simp) rfl) (by rw [hTM]; rfl)
      rw [if_pos (by rfl)]
      have hb := Below.refl W.heap.size W
      have key := hK.out (.bool true) W (by rw [hGM]; exact ⟨hB.next hb, blk_below hb0 hb, blk_below hb1 hb, blk_below hb2 hb, hk0.below hb, hk1.below hb, hk2.below hb, tabs_step fT (fun c h => by rw [hTM] at h; exact Option.some.inj (Option.some.inj h)), (fun h0 => by rw [upd_ne v _ (by decide)]; have h := f7 (h0.resolve_right (by decide)); exact (h.below hb)), (kv f8 (by decide)), (fun h0 => by rw [upd_ne v _ (by decide)]; have h := f19 (h0.resolve_right (by decide)); exact (h.below hb)), (kv f20 (by decide)), (fun h0 => by rw [upd_ne v _ (by decide)]; have h := f35 (h0.resolve_right (by decide)); exact (let ⟨g, a1, a2, a3⟩ := h; ⟨g, a1, blk_below a2 hb, Kd.C_below a3 hb⟩)), (fun h0 => by rw [upd_ne v _ (by decide)]; have h := f36 (h0.resolve_right (by decide)); exact (h.below hb)), (kv f37 (by decide)), (kv f40 (by decide))⟩)
      clear hb0 hb1 hb2 hk0 hk1 hk2 fT f7 f8 f19 f20 f35 f36 f37 f40 hK hb
      go_simp
      simpa [upd, d9] using key
    case succ.succ.succ.succ.succ.succ.succ.succ.succ.succ.succ.zero =>
      have dg := fT 10 _ (haft { on := 10, ground := .guard } (by simp) rfl) (by rw [hTM]; rfl)
      rw [if_pos (by simp [Region.wanted, yielded, dg])]
      have hb := Below.refl W.heap.size W
      have key := hK.out (.bool true) W (by rw [hGM]; exact ⟨hB.next hb, blk_below hb0 hb, blk_below hb1 hb, blk_below hb2 hb, hk0.below hb, hk1.below hb, hk2.below hb, tabs_step fT (fun c h => by rw [hTM] at h; exact Option.some.inj (Option.some.inj h)), (fun h0 => by rw [upd_ne v _ (by decide)]; have h := f7 (h0.resolve_right (by decide)); exact (h.below hb)), (kv f8 (by decide)), (fun h0 => by rw [upd_ne v _ (by decide)]; have h := f19 (h0.resolve_right (by decide)); exact (h.below hb)), (kv f20 (by decide)), (fun h0 => by rw [upd_ne v _ (by decide)]; have h := f35 (h0.resolve_right (by decide)); exact (let ⟨g, a1, a2, a3⟩ := h; ⟨g, a1, blk_below a2 hb, Kd.C_below a3 hb⟩)), (fun h0 => by rw [upd_ne v _ (by decide)]; have h := f36 (h0.resolve_right (by decide)); exact (h.below hb)), (kv f37 (by decide)), (kv f40 (by decide))⟩)
      clear hb0 hb1 hb2 hk0 hk1 hk2 fT f7 f8 f19 f20 f35 f36 f37 f40 hK hb
      go_simp
      simpa [upd, dg] using key
    case succ.succ.succ.succ.succ.succ.succ.succ.succ.succ.succ.succ.zero =>
      have d10 := fT 10 _ (haft { on := 10, ground := .data } (by simp) rfl) (by rw [hTM]; rfl)
      have d11 := fT 11 _ (haft { on := 11, ground := .data } (by simp) rfl) (by rw [hTM]; rfl)
      rw [if_pos (by rfl)]
      have hb := Below.refl W.heap.size W
      have key := hK.out (.bool true) W (by rw [hGM]; exact ⟨hB.next hb, blk_below hb0 hb, blk_below hb1 hb, blk_below hb2 hb, hk0.below hb, hk1.below hb, hk2.below hb, tabs_step fT (fun c h => by rw [hTM] at h; exact Option.some.inj (Option.some.inj h)), (fun h0 => by rw [upd_ne v _ (by decide)]; have h := f7 (h0.resolve_right (by decide)); exact (h.below hb)), (kv f8 (by decide)), (fun h0 => by rw [upd_ne v _ (by decide)]; have h := f19 (h0.resolve_right (by decide)); exact (h.below hb)), (kv f20 (by decide)), (fun h0 => by rw [upd_ne v _ (by decide)]; have h := f35 (h0.resolve_right (by decide)); exact (let ⟨g, a1, a2, a3⟩ := h; ⟨g, a1, blk_below a2 hb, Kd.C_below a3 hb⟩)), (fun h0 => by rw [upd_ne v _ (by decide)]; have h := f36 (h0.resolve_right (by decide)); exact (h.below hb)), (kv f37 (by decide)), (kv f40 (by decide))⟩)
      clear hb0 hb1 hb2 hk0 hk1 hk2 fT f7 f8 f19 f20 f35 f36 f37 f40 hK hb
      go_simp
      simpa [upd, d10, d11] using key
    case succ.succ.succ.succ.succ.succ.succ.succ.succ.succ.succ.succ.succ.zero =>
      have d12 := fT 12 _ (haft { on := 12, ground := .data } (by simp) rfl) (by rw [hTM]; rfl)
      rw [if_pos (by rfl)]
      have hb := Below.refl W.heap.size W
      have key := hK.out (.bool true) W (by rw [hGM]; exact ⟨hB.next hb, blk_below hb0 hb, blk_below hb1 hb, blk_below hb2 hb, hk0.below hb, hk1.below hb, hk2.below hb, tabs_step fT (fun c h => by rw [hTM] at h; exact Option.some.inj (Option.some.inj h)), (fun h0 => by rw [upd_ne v _ (by decide)]; have h := f7 (h0.resolve_right (by decide)); exact (h.below hb)), (kv f8 (by decide)), (fun h0 => by rw [upd_ne v _ (by decide)]; have h := f19 (h0.resolve_right (by decide)); exact (h.below hb)), (kv f20 (by decide)), (fun h0 => by rw [upd_ne v _ (by decide)]; have h := f35 (h0.resolve_right (by decide)); exact (let ⟨g, a1, a2, a3⟩ := h; ⟨g, a1, blk_below a2 hb, Kd.C_below a3 hb⟩)), (fun h0 => by rw [upd_ne v _ (by decide)]; have h := f36 (h0.resolve_right (by decide)); exact (h.below hb)), (kv f37 (by decide)), (kv f40 (by decide))⟩)
      clear hb0 hb1 hb2 hk0 hk1 hk2 fT f7 f8 f19 f20 f35 f36 f37 f40 hK hb
      go_simp
      simpa [upd, d12] using key
    case succ.succ.succ.succ.succ.succ.succ.succ.succ.succ.succ.succ.succ.succ.zero =>
      have dg := fT 13 _ (haft { on := 13, ground := .guard } (by simp) rfl) (by rw [hTM]; rfl)
      rw [if_pos (by simp [Region.wanted, yielded, dg])]
      have hb := Below.refl W.heap.size W
      have key := hK.out (.int .i64 0) W (by rw [hGM]; exact ⟨hB.next hb, blk_below hb0 hb, blk_below hb1 hb, blk_below hb2 hb, hk0.below hb, hk1.below hb, hk2.below hb, tabs_step fT (fun c h => by rw [hTM] at h; exact Option.some.inj (Option.some.inj h)), (fun h0 => by rw [upd_ne v _ (by decide)]; have h := f7 (h0.resolve_right (by decide)); exact (h.below hb)), (kv f8 (by decide)), (fun h0 => by rw [upd_ne v _ (by decide)]; have h := f19 (h0.resolve_right (by decide)); exact (h.below hb)), (kv f20 (by decide)), (fun h0 => by rw [upd_ne v _ (by decide)]; have h := f35 (h0.resolve_right (by decide)); exact (let ⟨g, a1, a2, a3⟩ := h; ⟨g, a1, blk_below a2 hb, Kd.C_below a3 hb⟩)), (fun h0 => by rw [upd_ne v _ (by decide)]; have h := f36 (h0.resolve_right (by decide)); exact (h.below hb)), (kv f37 (by decide)), (kv f40 (by decide))⟩)
      clear hb0 hb1 hb2 hk0 hk1 hk2 fT f7 f8 f19 f20 f35 f36 f37 f40 hK hb
      go_simp
      simpa [upd, dg] using key
    case succ.succ.succ.succ.succ.succ.succ.succ.succ.succ.succ.succ.succ.succ.succ.zero =>
      have d14 := fT 14 _ (haft { on := 14, ground := .data } (by simp) rfl) (by rw [hTM]; rfl)
      have dg := fT 13 _ (haft { on := 13, ground := .guard } (by simp) rfl) (by rw [hTM]; rfl)
      rw [if_pos (by simp [Region.wanted, yielded, dg])]
      have hb := Below.refl W.heap.size W
      have key := hK.out (.bool true) W (by rw [hGM]; exact ⟨hB.next hb, blk_below hb0 hb, blk_below hb1 hb, blk_below hb2 hb, hk0.below hb, hk1.below hb, hk2.below hb, tabs_step fT (fun c h => by rw [hTM] at h; exact Option.some.inj (Option.some.inj h)), (fun h0 => by rw [upd_ne v _ (by decide)]; have h := f7 (h0.resolve_right (by decide)); exact (h.below hb)), (kv f8 (by decide)), (fun h0 => by rw [upd_ne v _ (by decide)]; have h := f19 (h0.resolve_right (by decide)); exact (h.below hb)), (kv f20 (by decide)), (fun h0 => by rw [upd_ne v _ (by decide)]; have h := f35 (h0.resolve_right (by decide)); exact (let ⟨g, a1, a2, a3⟩ := h; ⟨g, a1, blk_below a2 hb, Kd.C_below a3 hb⟩)), (fun h0 => by rw [upd_ne v _ (by decide)]; have h := f36 (h0.resolve_right (by decide)); exact (h.below hb)), (kv f37 (by decide)), (kv f40 (by decide))⟩)
      clear hb0 hb1 hb2 hk0 hk1 hk2 fT f7 f8 f19 f20 f35 f36 f37 f40 hK hb
      go_simp
      simpa [upd, d14, dg] using key
    case succ.succ.succ.succ.succ.succ.succ.succ.succ.succ.succ.succ.succ.succ.succ.succ.zero =>
      have d13 := fT 13 _ (haft { on := 13, ground := .data } (by simp) rfl) (by rw [hTM]; rfl)
      have d15 := fT 15 _ (haft { on := 15, ground := .data } (by simp) rfl) (by rw [hTM]; rfl)
      rw [if_pos (by rfl)]
      have hb := Below.refl W.heap.size W
      have key := hK.out (.bool true) W (by rw [hGM]; exact ⟨hB.next hb, blk_below hb0 hb, blk_below hb1 hb, blk_below hb2 hb, hk0.below hb, hk1.below hb, hk2.below hb, tabs_step fT (fun c h => by rw [hTM] at h; exact Option.some.inj (Option.some.inj h)), (fun h0 => by rw [upd_ne v _ (by decide)]; have h := f7 (h0.resolve_right (by decide)); exact (h.below hb)), (kv f8 (by decide)), (fun h0 => by rw [upd_ne v _ (by decide)]; have h := f19 (h0.resolve_right (by decide)); exact (h.below hb)), (kv f20 (by decide)), (fun h0 => by rw [upd_ne v _ (by decide)]; have h := f35 (h0.resolve_right (by decide)); exact (let ⟨g, a1, a2, a3⟩ := h; ⟨g, a1, blk_below a2 hb, Kd.C_below a3 hb⟩)), (fun h0 => by rw [upd_ne v _ (by decide)]; have h := f36 (h0.resolve_right (by decide)); exact (h.below hb)), (kv f37 (by decide)), (kv f40 (by decide))⟩)
      clear hb0 hb1 hb2 hk0 hk1 hk2 fT f7 f8 f19 f20 f35 f36 f37 f40 hK hb
      go_simp
      simpa [upd, d13, d15] using key
    case succ.succ.succ.succ.succ.succ.succ.succ.succ.succ.succ.succ.succ.succ.succ.succ.succ.zero =>
      have d16 := fT 16 _ (haft { on := 16, ground := .data } (by simp) rfl) (by rw [hTM]; rfl)
      rw [if_pos (by rfl)]
      have hb := Below.refl W.heap.size W
      have key := hK.out (.bool true) W (by rw [hGM]; exact ⟨hB.next hb, blk_below hb0 hb, blk_below hb1 hb, blk_below hb2 hb, hk0.below hb, hk1.below hb, hk2.below hb, tabs_step fT (fun c h => by rw [hTM] at h; exact Option.some.inj (Option.some.inj h)), (fun h0 => by rw [upd_ne v _ (by decide)]; have h := f7 (h0.resolve_right (by decide)); exact (h.below hb)), (kv f8 (by decide)), (fun h0 => by rw [upd_ne v _ (by decide)]; have h := f19 (h0.resolve_right (by decide)); exact (h.below hb)), (kv f20 (by decide)), (fun h0 => by rw [upd_ne v _ (by decide)]; have h := f35 (h0.resolve_right (by decide)); exact (let ⟨g, a1, a2, a3⟩ := h; ⟨g, a1, blk_below a2 hb, Kd.C_below a3 hb⟩)), (fun h0 => by rw [upd_ne v _ (by decide)]; have h := f36 (h0.resolve_right (by decide)); exact (h.below hb)), (kv f37 (by decide)), (kv f40 (by decide))⟩)
      clear hb0 hb1 hb2 hk0 hk1 hk2 fT f7 f8 f19 f20 f35 f36 f37 f40 hK hb
      go_simp
      simpa [upd, d16] using key
    case succ.succ.succ.succ.succ.succ.succ.succ.succ.succ.succ.succ.succ.succ.succ.succ.succ.succ.zero =>
      have dg := fT 17 _ (haft { on := 17, ground := .guard } (by simp) rfl) (by rw [hTM]; rfl)
      rw [if_pos (by simp [Region.wanted, yielded, dg])]
      have cc0 := (box_cell (v := .bool b2) hb1 0 rfl).1
      have cc1 := (box_cell (v := .slice A2 n2 c2) hb1 1 rfl).1
      have cc2 := (box_cell (v := .int .i64 x2) hb1 2 rfl).1
      have hb := Below.refl W.heap.size W
      have key := hK.out (.agg #[.bool b2, .slice A2 n2 c2, .int .i64 x2]) W (by rw [hGM]; exact ⟨hB.next hb, blk_below hb0 hb, blk_below hb1 hb, blk_below hb2 hb, hk0.below hb, hk1.below hb, hk2.below hb, tabs_step fT (fun c h => by rw [hTM] at h; exact Option.some.inj (Option.some.inj h)), (fun h0 => by rw [upd_ne v _ (by decide)]; have h := f7 (h0.resolve_right (by decide)); exact (h.below hb)), (kv f8 (by decide)), (fun h0 => by rw [upd_ne v _ (by decide)]; have h := f19 (h0.resolve_right (by decide)); exact (h.below hb)), (kv f20 (by decide)), (fun h0 => by rw [upd_ne v _ (by decide)]; have h := f35 (h0.resolve_right (by decide)); exact (let ⟨g, a1, a2, a3⟩ := h; ⟨g, a1, blk_below a2 hb, Kd.C_below a3 hb⟩)), (fun h0 => by rw [upd_ne v _ (by decide)]; have h := f36 (h0.resolve_right (by decide)); exact (h.below hb)), (kv f37 (by decide)), (kv f40 (by decide))⟩)
      clear hb0 hb1 hb2 hk0 hk1 hk2 fT f7 f8 f19 f20 f35 f36 f37 f40 hK hb
      go_simp
      simpa [upd, dg] using key
    case succ.succ.succ.succ.succ.succ.succ.succ.succ.succ.succ.succ.succ.succ.succ.succ.succ.succ.succ.zero =>
      have dg := fT 17 _ (haft { on := 17, ground := .guard } (by simp) rfl) (by rw [hTM]; rfl)
      rw [if_pos (by simp [Region.wanted, yielded, dg])]
      have HALL := Aside0.mk (And.intro hK (And.intro hB (And.intro hb0 ( And.intro hb1 ( And.intro hb2 ( And.intro hk0 ( And.intro hk1 ( And.intro hk2 ( And.intro fT ( And.intro f7 ( And.intro f8 ( And.intro f19 ( And.intro f20 ( And.intro f35 ( And.intro f36 ( And.intro f37 ( And.intro f40 (True.intro))))))))))))))))))
      clear hK hb0 hb1 hb2 hk0 hk1 hk2 fT f7 f8 f19 f20 f35 f36 f37 f40
      go_simp
      go_at_call 14
      refine (dint_any 1 _ (by decide) (by decide)).mono ?_
      rintro en w4 ⟨v1, rfl, hr, hb⟩
      obtain ⟨hK, hB, hb0, hb1, hb2, hk0, hk1, hk2, fT, f7, f8, f19, f20, f35, f36, f37, f40, _⟩ := HALL.out
      have key := hK.out (v1) w4 (by rw [hGM]; exact ⟨hB.next hb, blk_below hb0 hb, blk_below hb1 hb, blk_below hb2 hb, hk0.below hb, hk1.below hb, hk2.below hb, tabs_step fT (fun c h => by rw [hTM] at h; cases h), (fun h0 => by rw [upd_ne v _ (by decide)]; have h := f7 (h0.resolve_right (by decide)); exact (h.below hb)), (kv f8 (by decide)), fun _ => by rw [upd_eq]; exact hr.c, (kv f20 (by decide)), (fun h0 => by rw [upd_ne v _ (by decide)]; have h := f35 (h0.resolve_right (by decide)); exact (let ⟨g, a1, a2, a3⟩ := h; ⟨g, a1, blk_below a2 hb, Kd.C_below a3 hb⟩)), (fun h0 => by rw [upd_ne v _ (by decide)]; have h := f36 (h0.resolve_right (by decide)); exact (h.below hb)), (kv f37 (by decide)), (kv f40 (by decide))⟩)
      clear hb0 hb1 hb2 hk0 hk1 hk2 fT f7 f8 f19 f20 f35 f36 f37 f40 hK HALL
      simpa [upd, dg] using key
    case succ.succ.succ.succ.succ.succ.succ.succ.succ.succ.succ.succ.succ.succ.succ.succ.succ.succ.succ.succ.zero =>
      have d18 := fT 18 _ (haft { on := 18, ground := .data } (by simp) rfl) (by rw [hTM]; rfl)
      have d19 := f19 (haft { on := 19, ground := .data } (by simp) rfl)
      have dg := fT 17 _ (haft { on := 17, ground := .guard } (by simp) rfl) (by rw [hTM]; rfl)
      rw [if_pos (by simp [Region.wanted, yielded, dg])]
      have K2 := hk1
      have HALL := Aside0.mk (And.intro hK (And.intro hB (And.intro hb0 ( And.intro hb1 ( And.intro hb2 ( And.intro hk0 ( And.intro hk1 ( And.intro hk2 ( And.intro fT ( And.intro f7 ( And.intro f8 ( And.intro f19 ( And.intro f20 ( And.intro f35 ( And.intro f36 ( And.intro f37 ( And.intro f40 (True.intro))))))))))))))))))
      clear hK hb0 hb1 hb2 hk0 hk1 hk2 fT f7 f8 f19 f20 f35 f36 f37 f40
      go_simp
      go_at_call 10
      refine (same_self K2.c d19 (Ok.of 2 (by decide) (by decide) (by decide) (by decide))).mono ?_
      rintro en w4 ⟨rfl, hb⟩
      obtain ⟨hK, hB, hb0, hb1, hb2, hk0, hk1, hk2, fT, f7, f8, f19, f20, f35, f36, f37, f40, _⟩ := HALL.out
      have key := hK.out (.bool true) w4 (by rw [hGM]; exact ⟨hB.next hb, blk_below hb0 hb, blk_below hb1 hb, blk_below hb2 hb, hk0.below hb, hk1.below hb, hk2.below hb, tabs_step fT (fun c h => by rw [hTM] at h; cases h), (fun h0 => by rw [upd_ne v _ (by decide)]; have h := f7 (h0.resolve_right (by decide)); exact (h.below hb)), (kv f8 (by decide)), (fun h0 => by rw [upd_ne v _ (by decide)]; have h := f19 (h0.resolve_right (by decide)); exact (h.below hb)), fun _ => by rw [upd_eq], (fun h0 => by rw [upd_ne v _ (by decide)]; have h := f35 (h0.resolve_right (by decide)); exact (let ⟨g, a1, a2, a3⟩ := h; ⟨g, a1, blk_below a2 hb, Kd.C_below a3 hb⟩)), (fun h0 => by rw [upd_ne v _ (by decide)]; have h := f36 (h0.resolve_right (by decide)); exact (h.below hb)), (kv f37 (by decide)), (kv f40 (by decide))⟩)
      clear hb0 hb1 hb2 hk0 hk1 hk2 fT f7 f8 f19 f20 f35 f36 f37 f40 hK HALL
      simpa [upd, d18, dg] using key
    case succ.succ.succ.succ.succ.succ.succ.succ.succ.succ.succ.succ.succ.succ.succ.succ.succ.succ.succ.succ.succ.zero =>
      have d17 := fT 17 _ (haft { on := 17, ground := .data } (by simp) rfl) (by rw [hTM]; rfl)
      have d20 := f20 (haft { on := 20, ground := .data } (by simp) rfl)
      rw [if_pos (by rfl)]
      have hb := Below.refl W.heap.size W
      have key := hK.out (.bool true) W (by rw [hGM]; exact ⟨hB.next hb, blk_below hb0 hb, blk_below hb1 hb, blk_below hb2 hb, hk0.below hb, hk1.below hb, hk2.below hb, tabs_step fT (fun c h => by rw [hTM] at h; exact Option.some.inj (Option.some.inj h)), (fun h0 => by rw [upd_ne v _ (by decide)]; have h := f7 (h0.resolve_right (by decide)); exact (h.below hb)), (kv f8 (by decide)), (fun h0 => by rw [upd_ne v _ (by decide)]; have h := f19 (h0.resolve_right (by decide)); exact (h.below hb)), (kv f20 (by decide)), (fun h0 => by rw [upd_ne v _ (by decide)]; have h := f35 (h0.resolve_right (by decide)); exact (let ⟨g, a1, a2, a3⟩ := h; ⟨g, a1, blk_below a2 hb, Kd.C_below a3 hb⟩)), (fun h0 => by rw [upd_ne v _ (by decide)]; have h := f36 (h0.resolve_right (by decide)); exact (h.below hb)), (kv f37 (by decide)), (kv f40 (by decide))⟩)
      clear hb0 hb1 hb2 hk0 hk1 hk2 fT f7 f8 f19 f20 f35 f36 f37 f40 hK hb
      go_simp
      simpa [upd, d17, d20] using key
    case succ.succ.succ.succ.succ.succ.succ.succ.succ.succ.succ.succ.succ.succ.succ.succ.succ.succ.succ.succ.succ.succ.zero =>
      have d21 := fT 21 _ (haft { on := 21, ground := .data } (by simp) rfl) (by rw [hTM]; rfl)
      rw [if_pos (by rfl)]
      have hb := Below.refl W.heap.size W
      have key := hK.out (.bool true) W (by rw [hGM]; exact ⟨hB.next hb, blk_below hb0 hb, blk_below hb1 hb, blk_below hb2 hb, hk0.below hb, hk1.below hb, hk2.below hb, tabs_step fT (fun c h => by rw [hTM] at h; exact Option.some.inj (Option.some.inj h)), (fun h0 => by rw [upd_ne v _ (by decide)]; have h := f7 (h0.resolve_right (by decide)); exact (h.below hb)), (kv f8 (by decide)), (fun h0 => by rw [upd_ne v _ (by decide)]; have h := f19 (h0.resolve_right (by decide)); exact (h.below hb)), (kv f20 (by decide)), (fun h0 => by rw [upd_ne v _ (by decide)]; have h := f35 (h0.resolve_right (by decide)); exact (let ⟨g, a1, a2, a3⟩ := h; ⟨g, a1, blk_below a2 hb, Kd.C_below a3 hb⟩)), (fun h0 => by rw [upd_ne v _ (by decide)]; have h := f36 (h0.resolve_right (by decide)); exact (h.below hb)), (kv f37 (by decide)), (kv f40 (by decide))⟩)
      clear hb0 hb1 hb2 hk0 hk1 hk2 fT f7 f8 f19 f20 f35 f36 f37 f40 hK hb
      go_simp
      simpa [upd, d21] using key
    case succ.succ.succ.succ.succ.succ.succ.succ.succ.succ.succ.succ.succ.succ.succ.succ.succ.succ.succ.succ.succ.succ.succ.zero =>
      have dg := fT 22 _ (haft { on := 22, ground := .guard } (by simp) rfl) (by rw [hTM]; rfl)
      rw [if_pos (by simp [Region.wanted, yielded, dg])]
      have hb := Below.refl W.heap.size W
      have key := hK.out (.int .i64 5) W (by rw [hGM]; exact ⟨hB.next hb, blk_below hb0 hb, blk_below hb1 hb, blk_below hb2 hb, hk0.below hb, hk1.below hb, hk2.below hb, tabs_step fT (fun c h => by rw [hTM] at h; exact Option.some.inj (Option.some.inj h)), (fun h0 => by rw [upd_ne v _ (by decide)]; have h := f7 (h0.resolve_right (by decide)); exact (h.below hb)), (kv f8 (by decide)), (fun h0 => by rw [upd_ne v _ (by decide)]; have h := f19 (h0.resolve_right (by decide)); exact (h.below hb)), (kv f20 (by decide)), (fun h0 => by rw [upd_ne v _ (by decide)]; have h := f35 (h0.resolve_right (by decide)); exact (let ⟨g, a1, a2, a3⟩ := h; ⟨g, a1, blk_below a2 hb, Kd.C_below a3 hb⟩)), (fun h0 => by rw [upd_ne v _ (by decide)]; have h := f36 (h0.resolve_right (by decide)); exact (h.below hb)), (kv f37 (by decide)), (kv f40 (by decide))⟩)
      clear hb0 hb1 hb2 hk0 hk1 hk2 fT f7 f8 f19 f20 f35 f36 f37 f40 hK hb
      go_simp
      simpa [upd, dg] using key
    case succ.succ.succ.succ.succ.succ.succ.succ.succ.succ.succ.succ.succ.succ.succ.succ.succ.succ.succ.succ.succ.succ.succ.succ.zero =>
      have d23 := fT 23 _ (haft { on := 23, ground := .data } (by simp) rfl) (by rw [hTM]; rfl)
      have dg := fT 22 _ (haft { on := 22, ground := .guard } (by simp) rfl) (by rw [hTM]; rfl)
      rw [if_pos (by simp [Region.wanted, yielded, dg])]
      have hb := Below.refl W.heap.size W
      have key := hK.out (.bool true) W (by rw [hGM]; exact ⟨hB.next hb, blk_below hb0 hb, blk_below hb1 hb, blk_below hb2 hb, hk0.below hb, hk1.below hb, hk2.below hb, tabs_step fT (fun c h => by rw [hTM] at h; exact Option.some.inj (Option.some.inj h)), (fun h0 => by rw [upd_ne v _ (by decide)]; have h := f7 (h0.resolve_right (by decide)); exact (h.below hb)), (kv f8 (by decide)), (fun h0 => by rw [upd_ne v _ (by decide)]; have h := f19 (h0.resolve_right (by decide)); exact (h.below hb)), (kv f20 (by decide)), (fun h0 => by rw [upd_ne v _ (by decide)]; have h := f35 (h0.resolve_right (by decide)); exact (let ⟨g, a1, a2, a3⟩ := h; ⟨g, a1, blk_below a2 hb, Kd.C_below a3 hb⟩)), (fun h0 => by rw [upd_ne v _ (by decide)]; have h := f36 (h0.resolve_right (by decide)); exact (h.below hb)), (kv f37 (by decide)), (kv f40 (by decide))⟩)
      clear hb0 hb1 hb2 hk0 hk1 hk2 fT f7 f8 f19 f20 f35 f36 f37 f40 hK hb
      go_simp
      simpa [upd, d23, dg] using key
    case succ.succ.succ.succ.succ.succ.succ.succ.succ.succ.succ.succ.succ.succ.succ.succ.succ.succ.succ.succ.succ.succ.succ.succ.succ.zero =>
      have d22 := fT 22 _ (haft { on := 22, ground := .data } (by simp) rfl) (by rw [hTM]; rfl)
      have d24 := fT 24 _ (haft { on := 24, ground := .data } (by simp) rfl) (by rw [hTM]; rfl)
      rw [if_pos (by rfl)]
      have hb := Below.refl W.heap.size W
      have key := hK.out (.bool true) W (by rw [hGM]; exact ⟨hB.next hb, blk_below hb0 hb, blk_below hb1 hb, blk_below hb2 hb, hk0.below hb, hk1.below hb, hk2.below hb, tabs_step fT (fun c h => by rw [hTM] at h; exact Option.some.inj (Option.some.inj h)), (fun h0 => by rw [upd_ne v _ (by decide)]; have h := f7 (h0.resolve_right (by decide)); exact (h.below hb)), (kv f8 (by decide)), (fun h0 => by rw [upd_ne v _ (by decide)]; have h := f19 (h0.resolve_right (by decide)); exact (h.below hb)), (kv f20 (by decide)), (fun h0 => by rw [upd_ne v _ (by decide)]; have h := f35 (h0.resolve_right (by decide)); exact (let ⟨g, a1, a2, a3⟩ := h; ⟨g, a1, blk_below a2 hb, Kd.C_below a3 hb⟩)), (fun h0 => by rw [upd_ne v _ (by decide)]; have h := f36 (h0.resolve_right (by decide)); exact (h.below hb)), (kv f37 (by decide)), (kv f40 (by decide))⟩)
      clear hb0 hb1 hb2 hk0 hk1 hk2 fT f7 f8 f19 f20 f35 f36 f37 f40 hK hb
      go_simp
      simpa [upd, d22, d24] using key
    case succ.succ.succ.succ.succ.succ.succ.succ.succ.succ.succ.succ.succ.succ.succ.succ.succ.succ.succ.succ.succ.succ.succ.succ.succ.succ.zero =>
      have d25 := fT 25 _ (haft { on := 25, ground := .data } (by simp) rfl) (by rw [hTM]; rfl)
      rw [if_pos (by rfl)]
      have hb := Below.refl W.heap.size W
      have key := hK.out (.bool true) W (by rw [hGM]; exact ⟨hB.next hb, blk_below hb0 hb, blk_below hb1 hb, blk_below hb2 hb, hk0.below hb, hk1.below hb, hk2.below hb, tabs_step fT (fun c h => by rw [hTM] at h; exact Option.some.inj (Option.some.inj h)), (fun h0 => by rw [upd_ne v _ (by decide)]; have h := f7 (h0.resolve_right (by decide)); exact (h.below hb)), (kv f8 (by decide)), (fun h0 => by rw [upd_ne v _ (by decide)]; have h := f19 (h0.resolve_right (by decide)); exact (h.below hb)), (kv f20 (by decide)), (fun h0 => by rw [upd_ne v _ (by decide)]; have h := f35 (h0.resolve_right (by decide)); exact (let ⟨g, a1, a2, a3⟩ := h; ⟨g, a1, blk_below a2 hb, Kd.C_below a3 hb⟩)), (fun h0 => by rw [upd_ne v _ (by decide)]; have h := f36 (h0.resolve_right (by decide)); exact (h.below hb)), (kv f37 (by decide)), (kv f40 (by decide))⟩)
      clear hb0 hb1 hb2 hk0 hk1 hk2 fT f7 f8 f19 f20 f35 f36 f37 f40 hK hb
      go_simp
      simpa [upd, d25] using key
    case succ.succ.succ.succ.succ.succ.succ.succ.succ.succ.succ.succ.succ.succ.succ.succ.succ.succ.succ.succ.succ.succ.succ.succ.succ.succ.succ.zero =>
      have dg := fT 26 _ (haft { on := 26, ground := .guard } (by simp) rfl) (by rw [hTM]; rfl)
      rw [if_pos (by simp [Region.wanted, yielded, dg])]
      have hb := Below.refl W.heap.size W
      have key := hK.out (.bool true) W (by rw [hGM]; exact ⟨hB.next hb, blk_below hb0 hb, blk_below hb1 hb, blk_below hb2 hb, hk0.below hb, hk1.below hb, hk2.below hb, tabs_step fT (fun c h => by rw [hTM] at h; exact Option.some.inj (Option.some.inj h)), (fun h0 => by rw [upd_ne v _ (by decide)]; have h := f7 (h0.resolve_right (by decide)); exact (h.below hb)), (kv f8 (by decide)), (fun h0 => by rw [upd_ne v _ (by decide)]; have h := f19 (h0.resolve_right (by decide)); exact (h.below hb)), (kv f20 (by decide)), (fun h0 => by rw [upd_ne v _ (by decide)]; have h := f35 (h0.resolve_right (by decide)); exact (let ⟨g, a1, a2, a3⟩ := h; ⟨g, a1, blk_below a2 hb, Kd.C_below a3 hb⟩)), (fun h0 => by rw [upd_ne v _ (by decide)]; have h := f36 (h0.resolve_right (by decide)); exact (h.below hb)), (kv f37 (by decide)), (kv f40 (by decide))⟩)
      clear hb0 hb1 hb2 hk0 hk1 hk2 fT f7 f8 f19 f20 f35 f36 f37 f40 hK hb
      go_simp
      simpa [upd, dg] using key
    case succ.succ.succ.succ.succ.succ.succ.succ.succ.succ.succ.succ.succ.succ.succ.succ.succ.succ.succ.succ.succ.succ.succ.succ.succ.succ.succ.succ.zero =>
      have d26 := fT 26 _ (haft { on := 26, ground := .data } (by simp) rfl) (by rw [hTM]; rfl)
      have d27 := fT 27 _ (haft { on := 27, ground := .data } (by simp) rfl) (by rw [hTM]; rfl)
      rw [if_pos (by rfl)]
      have hb := Below.refl W.heap.size W
      have key := hK.out (.bool true) W (by rw [hGM]; exact ⟨hB.next hb, blk_below hb0 hb, blk_below hb1 hb, blk_below hb2 hb, hk0.below hb, hk1.below hb, hk2.below hb, tabs_step fT (fun c h => by rw [hTM] at h; exact Option.some.inj (Option.some.inj h)), (fun h0 => by rw [upd_ne v _ (by decide)]; have h := f7 (h0.resolve_right (by decide)); exact (h.below hb)), (kv f8 (by decide)), (fun h0 => by rw [upd_ne v _ (by decide)]; have h := f19 (h0.resolve_right (by decide)); exact (h.below hb)), (kv f20 (by decide)), (fun h0 => by rw [upd_ne v _ (by decide)]; have h := f35 (h0.resolve_right (by decide)); exact (let ⟨g, a1, a2, a3⟩ := h; ⟨g, a1, blk_below a2 hb, Kd.C_below a3 hb⟩)), (fun h0 => by rw [upd_ne v _ (by decide)]; have h := f36 (h0.resolve_right (by decide)); exact (h.below hb)), (kv f37 (by decide)), (kv f40 (by decide))⟩)
      clear hb0 hb1 hb2 hk0 hk1 hk2 fT f7 f8 f19 f20 f35 f36 f37 f40 hK hb
      go_simp
      simpa [upd, d26, d27] using key
    case succ.succ.succ.succ.succ.succ.succ.succ.succ.succ.succ.succ.succ.succ.succ.succ.succ.succ.succ.succ.succ.succ.succ.succ.succ.succ.succ.succ.succ.zero =>
      have d28 := fT 28 _ (haft { on := 28, ground := .data } (by simp) rfl) (by rw [hTM]; rfl)
      rw [if_pos (by rfl)]
      have hb := Below.refl W.heap.size W
      have key := hK.out (.bool true) W (by rw [hGM]; exact ⟨hB.next hb, blk_below hb0 hb, blk_below hb1 hb, blk_below hb2 hb, hk0.below hb, hk1.below hb, hk2.below hb, tabs_step fT (fun c h => by rw [hTM] at h; exact Option.some.inj (Option.some.inj h)), (fun h0 => by rw [upd_ne v _ (by decide)]; have h := f7 (h0.resolve_right (by decide)); exact (h.below hb)), (kv f8 (by decide)), (fun h0 => by rw [upd_ne v _ (by decide)]; have h := f19 (h0.resolve_right (by decide)); exact (h.below hb)), (kv f20 (by decide)), (fun h0 => by rw [upd_ne v _ (by decide)]; have h := f35 (h0.resolve_right (by decide)); exact (let ⟨g, a1, a2, a3⟩ := h; ⟨g, a1, blk_below a2 hb, Kd.C_below a3 hb⟩)), (fun h0 => by rw [upd_ne v _ (by decide)]; have h := f36 (h0.resolve_right (by decide)); exact (h.below hb)), (kv f37 (by decide)), (kv f40 (by decide))⟩)
      clear hb0 hb1 hb2 hk0 hk1 hk2 fT f7 f8 f19 f20 f35 f36 f37 f40 hK hb
      go_simp
      simpa [upd, d28] using key
    case succ.succ.succ.succ.succ.succ.succ.succ.succ.succ.succ.succ.succ.succ.succ.succ.succ.succ.succ.succ.succ.succ.succ.succ.succ.succ.succ.succ.succ.succ.zero =>
      have dg := fT 29 _ (haft { on := 29, ground := .guard } (by simp) rfl) (by rw [hTM]; rfl)
      rw [if_pos (by simp [Region.wanted, yielded, dg])]
      have hb := Below.refl W.heap.size W
      have key := hK.out (.int .i64 0) W (by rw [hGM]; exact ⟨hB.next hb, blk_below hb0 hb, blk_below hb1 hb, blk_below hb2 hb, hk0.below hb, hk1.below hb, hk2.below hb, tabs_step fT (fun c h => by rw [hTM] at h; exact Option.some.inj (Option.some.inj h)), (fun h0 => by rw [upd_ne v _ (by decide)]; have h := f7 (h0.resolve_right (by decide)); exact (h.below hb)), (kv f8 (by decide)), (fun h0 => by rw [upd_ne v _ (by decide)]; have h := f19 (h0.resolve_right (by decide)); exact (h.below hb)), (kv f20 (by decide)), (fun h0 => by rw [upd_ne v _ (by decide)]; have h := f35 (h0.resolve_right (by decide)); exact (let ⟨g, a1, a2, a3⟩ := h; ⟨g, a1, blk_below a2 hb, Kd.C_below a3 hb⟩)), (fun h0 => by rw [upd_ne v _ (by decide)]; have h := f36 (h0.resolve_right (by decide)); exact (h.below hb)), (kv f37 (by decide)), (kv f40 (by decide))⟩)
      clear hb0 hb1 hb2 hk0 hk1 hk2 fT f7 f8 f19 f20 f35 f36 f37 f40 hK hb
      go_simp
      simpa [upd, dg] using key
    case succ.succ.succ.succ.succ.succ.succ.succ.succ.succ.succ.succ.succ.succ.succ.succ.succ.succ.succ.succ.succ.succ.succ.succ.succ.succ.succ.succ.succ.succ.succ.zero =>
      have d30 := fT 30 _ (haft { on := 30, ground := .data } (by simp) rfl) (by rw [hTM]; rfl)
      have dg := fT 29 _ (haft { on := 29, ground := .guard } (by simp) rfl) (by rw [hTM]; rfl)
      rw [if_pos (by simp [Region.wanted, yielded, dg])]
      have hb := Below.refl W.heap.size W
      have key := hK.out (.bool true) W (by rw [hGM]; exact ⟨hB.next hb, blk_below hb0 hb, blk_below hb1 hb, blk_below hb2 hb, hk0.below hb, hk1.below hb, hk2.below hb, tabs_step fT (fun c h => by rw [hTM] at h; exact Option.some.inj (Option.some.inj h)), (fun h0 => by rw [upd_ne v _ (by decide)]; have h := f7 (h0.resolve_right (by decide)); exact (h.below hb)), (kv f8 (by decide)), (fun h0 => by rw [upd_ne v _ (by decide)]; have h := f19 (h0.resolve_right (by decide)); exact (h.below hb)), (kv f20 (by decide)), (fun h0 => by rw [upd_ne v _ (by decide)]; have h := f35 (h0.resolve_right (by decide)); exact (let ⟨g, a1, a2, a3⟩ := h; ⟨g, a1, blk_below a2 hb, Kd.C_below a3 hb⟩)), (fun h0 => by rw [upd_ne v _ (by decide)]; have h := f36 (h0.resolve_right (by decide)); exact (h.below hb)), (kv f37 (by decide)), (kv f40 (by decide))⟩)
      clear hb0 hb1 hb2 hk0 hk1 hk2 fT f7 f8 f19 f20 f35 f36 f37 f40 hK hb
      go_simp
      simpa [upd, d30, dg] using key
    case succ.succ.succ.succ.succ.succ.succ.succ.succ.succ.succ.succ.succ.succ.succ.succ.succ.succ.succ.succ.succ.succ.succ.succ.succ.succ.succ.succ.succ.succ.succ.succ.zero =>
      have d29 := fT 29 _ (haft { on := 29, ground := .data } (by simp) rfl) (by rw [hTM]; rfl)
      have d31 := fT 31 _ (haft { on := 31, ground := .data } (by simp) rfl) (by rw [hTM]; rfl)
      rw [if_pos (by rfl)]
      have hb := Below.refl W.heap.size W
      have key := hK.out (.bool true) W (by rw [hGM]; exact ⟨hB.next hb, blk_below hb0 hb, blk_below hb1 hb, blk_below hb2 hb, hk0.below hb, hk1.below hb, hk2.below hb, tabs_step fT (fun c h => by rw [hTM] at h; exact Option.some.inj (Option.some.inj h)), (fun h0 => by rw [upd_ne v _ (by decide)]; have h := f7 (h0.resolve_right (by decide)); exact (h.below hb)), (kv f8 (by decide)), (fun h0 => by rw [upd_ne v _ (by decide)]; have h := f19 (h0.resolve_right (by decide)); exact (h.below hb)), (kv f20 (by decide)), (fun h0 => by rw [upd_ne v _ (by decide)]; have h := f35 (h0.resolve_right (by decide)); exact (let ⟨g, a1, a2, a3⟩ := h; ⟨g, a1, blk_below a2 hb, Kd.C_below a3 hb⟩)), (fun h0 => by rw [upd_ne v _ (by decide)]; have h := f36 (h0.resolve_right (by decide)); exact (h.below hb)), (kv f37 (by decide)), (kv f40 (by decide))⟩)
      clear hb0 hb1 hb2 hk0 hk1 hk2 fT f7 f8 f19 f20 f35 f36 f37 f40 hK hb
      go_simp
      simpa [upd, d29, d31] using key
    case succ.succ.succ.succ.succ.succ.succ.succ.succ.succ.succ.succ.succ.succ.succ.succ.succ.succ.succ.succ.succ.succ.succ.succ.succ.succ.succ.succ.succ.succ.succ.succ.succ.zero =>
      have d32 := fT 32 _ (haft { on := 32, ground := .data } (by simp) rfl) (by rw [hTM]; rfl)
      rw [if_pos (by rfl)]
      have hb := Below.refl W.heap.size W
      have key := hK.out (.bool true) W (by rw [hGM]; exact ⟨hB.next hb, blk_below hb0 hb, blk_below hb1 hb, blk_below hb2 hb, hk0.below hb, hk1.below hb, hk2.below hb, tabs_step fT (fun c h => by rw [hTM] at h; exact Option.some.inj (Option.some.inj h)), (fun h0 => by rw [upd_ne v _ (by decide)]; have h := f7 (h0.resolve_right (by decide)); exact (h.below hb)), (kv f8 (by decide)), (fun h0 => by rw [upd_ne v _ (by decide)]; have h := f19 (h0.resolve_right (by decide)); exact (h.below hb)), (kv f20 (by decide)), (fun h0 => by rw [upd_ne v _ (by decide)]; have h := f35 (h0.resolve_right (by decide)); exact (let ⟨g, a1, a2, a3⟩ := h; ⟨g, a1, blk_below a2 hb, Kd.C_below a3 hb⟩)), (fun h0 => by rw [upd_ne v _ (by decide)]; have h := f36 (h0.resolve_right (by decide)); exact (h.below hb)), (kv f37 (by decide)), (kv f40 (by decide))⟩)
      clear hb0 hb1 hb2 hk0 hk1 hk2 fT f7 f8 f19 f20 f35 f36 f37 f40 hK hb
      go_simp
      simpa [upd, d32] using key
    case succ.succ.succ.succ.succ.succ.succ.succ.succ.succ.succ.succ.succ.succ.succ.succ.succ.succ.succ.succ.succ.succ.succ.succ.succ.succ.succ.succ.succ.succ.succ.succ.succ.succ.zero =>
      have dg := fT 33 _ (haft { on := 33, ground := .guard } (by simp) rfl) (by rw [hTM]; rfl)
      rw [if_pos (by simp [Region.wanted, yielded, dg])]
      have cc0 := (box_cell (v := .bool b4) hb2 0 rfl).1
      have cc1 := (box_cell (v := .slice A4 n4 c4) hb2 1 rfl).1
      have cc2 := (box_cell (v := .int .i64 x4) hb2 2 rfl).1
      have hb := Below.refl W.heap.size W
      have key := hK.out (.agg #[.bool b4, .slice A4 n4 c4, .int .i64 x4]) W (by rw [hGM]; exact ⟨hB.next hb, blk_below hb0 hb, blk_below hb1 hb, blk_below hb2 hb, hk0.below hb, hk1.below hb, hk2.below hb, tabs_step fT (fun c h => by rw [hTM] at h; exact Option.some.inj (Option.some.inj h)), (fun h0 => by rw [upd_ne v _ (by decide)]; have h := f7 (h0.resolve_right (by decide)); exact (h.below hb)), (kv f8 (by decide)), (fun h0 => by rw [upd_ne v _ (by decide)]; have h := f19 (h0.resolve_right (by decide)); exact (h.below hb)), (kv f20 (by decide)), (fun h0 => by rw [upd_ne v _ (by decide)]; have h := f35 (h0.resolve_right (by decide)); exact (let ⟨g, a1, a2, a3⟩ := h; ⟨g, a1, blk_below a2 hb, Kd.C_below a3 hb⟩)), (fun h0 => by rw [upd_ne v _ (by decide)]; have h := f36 (h0.resolve_right (by decide)); exact (h.below hb)), (kv f37 (by decide)), (kv f40 (by decide))⟩)
      clear hb0 hb1 hb2 hk0 hk1 hk2 fT f7 f8 f19 f20 f35 f36 f37 f40 hK hb
      go_simp
      simpa [upd, dg] using key
    case succ.succ.succ.succ.succ.succ.succ.succ.succ.succ.succ.succ.succ.succ.succ.succ.succ.succ.succ.succ.succ.succ.succ.succ.succ.succ.succ.succ.succ.succ.succ.succ.succ.succ.succ.zero =>
      have dg := fT 33 _ (haft { on := 33, ground := .guard } (by simp) rfl) (by rw [hTM]; rfl)
      rw [if_pos (by simp [Region.wanted, yielded, dg])]
      have HALL := Aside0.mk (And.intro hK (And.intro hB (And.intro hb0 ( And.intro hb1 ( And.intro hb2 ( And.intro hk0 ( And.intro hk1 ( And.intro hk2 ( And.intro fT ( And.intro f7 ( And.intro f8 ( And.intro f19 ( And.intro f20 ( And.intro f35 ( And.intro f36 ( And.intro f37 ( And.intro f40 (True.intro))))))))))))))))))
      clear hK hb0 hb1 hb2 hk0 hk1 hk2 fT f7 f8 f19 f20 f35 f36 f37 f40
      have hb := below_alloc (Below.refl W.heap.size W) (.cells #[.int .u64 3] 23)
      go_simp
      obtain ⟨hK, hB, hb0, hb1, hb2, hk0, hk1, hk2, fT, f7, f8, f19, f20, f35, f36, f37, f40, _⟩ := HALL.out
      have key := hK.out (.slice (some ⟨W.heap.size, 0, none⟩) 1 1) (W.alloc (.cells #[.int .u64 3] 23)) (by rw [hGM]; exact ⟨hB.next hb, blk_below hb0 hb, blk_below hb1 hb, blk_below hb2 hb, hk0.below hb, hk1.below hb, hk2.below hb, tabs_step fT (fun c h => by rw [hTM] at h; cases h), (fun h0 => by rw [upd_ne v _ (by decide)]; have h := f7 (h0.resolve_right (by decide)); exact (h.below hb)), (kv f8 (by decide)), (fun h0 => by rw [upd_ne v _ (by decide)]; have h := f19 (h0.resolve_right (by decide)); exact (h.below hb)), (kv f20 (by decide)), fun _ => by rw [upd_eq]; exact ⟨W.heap.size, rfl, blk_new W _, row_c W 3⟩, (fun h0 => by rw [upd_ne v _ (by decide)]; have h := f36 (h0.resolve_right (by decide)); exact (h.below hb)), (kv f37 (by decide)), (kv f40 (by decide))⟩)
      clear hb0 hb1 hb2 hk0 hk1 hk2 fT f7 f8 f19 f20 f35 f36 f37 f40 hK HALL
      simpa [upd, dg] using key
    case succ.succ.succ.succ.succ.succ.succ.succ.succ.succ.succ.succ.succ.succ.succ.succ.succ.succ.succ.succ.succ.succ.succ.succ.succ.succ.succ.succ.succ.succ.succ.succ.succ.succ.succ.succ.zero =>
      have d35 := f35 (haft { on := 35, ground := .data } (by simp) rfl)
      have dg := fT 33 _ (haft { on := 33, ground := .guard } (by simp) rfl) (by rw [hTM]; rfl)
      rw [if_pos (by simp [Region.wanted, yielded, dg])]
      have HALL := Aside0.mk (And.intro hK (And.intro hB (And.intro hb0 ( And.intro hb1 ( And.intro hb2 ( And.intro hk0 ( And.intro hk1 ( And.intro hk2 ( And.intro fT ( And.intro f7 ( And.intro f8 ( And.intro f19 ( And.intro f20 ( And.intro f35 ( And.intro f36 ( And.intro f37 ( And.intro f40 (True.intro))))))))))))))))))
      clear hK hb0 hb1 hb2 hk0 hk1 hk2 fT f7 f8 f19 f20 f35 f36 f37 f40
      obtain ⟨g, a1, a2, a3⟩ := d35
      have hb := Below.refl W.heap.size W
      have HCL := Aside0.mk (CDy.lit (b := false) (m := 3) (e := -2) a2 a3 (by rw [show cman (sgn false 3) = 3 from by kernel_rfl]; exact limbs_one (by decide) (by decide)) (by kernel_rfl) (by kernel_rfl))
      clear a2 a3
      go_simp
      obtain ⟨hK, hB, hb0, hb1, hb2, hk0, hk1, hk2, fT, f7, f8, f19, f20, f35, f36, f37, f40, _⟩ := HALL.out
      have key := hK.out (.agg #[.bool false, .slice (some ⟨g, 0, none⟩) 1 1, .int .i64 (-2)]) W (by rw [hGM]; exact ⟨hB.next hb, blk_below hb0 hb, blk_below hb1 hb, blk_below hb2 hb, hk0.below hb, hk1.below hb, hk2.below hb, tabs_step fT (fun c h => by rw [hTM] at h; cases h), (fun h0 => by rw [upd_ne v _ (by decide)]; have h := f7 (h0.resolve_right (by decide)); exact (h.below hb)), (kv f8 (by decide)), (fun h0 => by rw [upd_ne v _ (by decide)]; have h := f19 (h0.resolve_right (by decide)); exact (h.below hb)), (kv f20 (by decide)), (fun h0 => by rw [upd_ne v _ (by decide)]; have h := f35 (h0.resolve_right (by decide)); exact (let ⟨g, a1, a2, a3⟩ := h; ⟨g, a1, blk_below a2 hb, Kd.C_below a3 hb⟩)), fun _ => by rw [upd_eq]; exact HCL.out, (kv f37 (by decide)), (kv f40 (by decide))⟩)
      clear hb0 hb1 hb2 hk0 hk1 hk2 fT f7 f8 f19 f20 f35 f36 f37 f40 hK HALL
      simpa [upd, dg, a1] using key
    case succ.succ.succ.succ.succ.succ.succ.succ.succ.succ.succ.succ.succ.succ.succ.succ.succ.succ.succ.succ.succ.succ.succ.succ.succ.succ.succ.succ.succ.succ.succ.succ.succ.succ.succ.succ.succ.zero =>
      have d34 := fT 34 _ (haft { on := 34, ground := .data } (by simp) rfl) (by rw [hTM]; rfl)
      have d36 := f36 (haft { on := 36, ground := .data } (by simp) rfl)
      have dg := fT 33 _ (haft { on := 33, ground := .guard } (by simp) rfl) (by rw [hTM]; rfl)
      rw [if_pos (by simp [Region.wanted, yielded, dg])]
      have K4 := hk2
      have HALL := Aside0.mk (And.intro hK (And.intro hB (And.intro hb0 ( And.intro hb1 ( And.intro hb2 ( And.intro hk0 ( And.intro hk1 ( And.intro hk2 ( And.intro fT ( And.intro f7 ( And.intro f8 ( And.intro f19 ( And.intro f20 ( And.intro f35 ( And.intro f36 ( And.intro f37 ( And.intro f40 (True.intro))))))))))))))))))
      clear hK hb0 hb1 hb2 hk0 hk1 hk2 fT f7 f8 f19 f20 f35 f36 f37 f40
      go_simp
      go_at_call 10
      refine (same_self K4.c d36 (Ok.of 2 (by decide) (by decide) (by decide) (by decide))).mono ?_
      rintro en w4 ⟨rfl, hb⟩
      obtain ⟨hK, hB, hb0, hb1, hb2, hk0, hk1, hk2, fT, f7, f8, f19, f20, f35, f36, f37, f40, _⟩ := HALL.out
      have key := hK.out (.bool true) w4 (by rw [hGM]; exact ⟨hB.next hb, blk_below hb0 hb, blk_below hb1 hb, blk_below hb2 hb, hk0.below hb, hk1.below hb, hk2.below hb, tabs_step fT (fun c h => by rw [hTM] at h; cases h), (fun h0 => by rw [upd_ne v _ (by decide)]; have h := f7 (h0.resolve_right (by decide)); exact (h.below hb)), (kv f8 (by decide)), (fun h0 => by rw [upd_ne v _ (by decide)]; have h := f19 (h0.resolve_right (by decide)); exact (h.below hb)), (kv f20 (by decide)), (fun h0 => by rw [upd_ne v _ (by decide)]; have h := f35 (h0.resolve_right (by decide)); exact (let ⟨g, a1, a2, a3⟩ := h; ⟨g, a1, blk_below a2 hb, Kd.C_below a3 hb⟩)), (fun h0 => by rw [upd_ne v _ (by decide)]; have h := f36 (h0.resolve_right (by decide)); exact (h.below hb)), fun _ => by rw [upd_eq], (kv f40 (by decide))⟩)
      clear hb0 hb1 hb2 hk0 hk1 hk2 fT f7 f8 f19 f20 f35 f36 f37 f40 hK HALL
      simpa [upd, d34, dg] using key
    case succ.succ.succ.succ.succ.succ.succ.succ.succ.succ.succ.succ.succ.succ.succ.succ.succ.succ.succ.succ.succ.succ.succ.succ.succ.succ.succ.succ.succ.succ.succ.succ.succ.succ.succ.succ.succ.succ.zero =>
      have d33 := fT 33 _ (haft { on := 33, ground := .data } (by simp) rfl) (by rw [hTM]; rfl)
      have d37 := f37 (haft { on := 37, ground := .data } (by simp) rfl)
      rw [if_pos (by rfl)]
      have hb := Below.refl W.heap.size W
      have key := hK.out (.bool true) W (by rw [hGM]; exact ⟨hB.next hb, blk_below hb0 hb, blk_below hb1 hb, blk_below hb2 hb, hk0.below hb, hk1.below hb, hk2.below hb, tabs_step fT (fun c h => by rw [hTM] at h; exact Option.some.inj (Option.some.inj h)), (fun h0 => by rw [upd_ne v _ (by decide)]; have h := f7 (h0.resolve_right (by decide)); exact (h.below hb)), (kv f8 (by decide)), (fun h0 => by rw [upd_ne v _ (by decide)]; have h := f19 (h0.resolve_right (by decide)); exact (h.below hb)), (kv f20 (by decide)), (fun h0 => by rw [upd_ne v _ (by decide)]; have h := f35 (h0.resolve_right (by decide)); exact (let ⟨g, a1, a2, a3⟩ := h; ⟨g, a1, blk_below a2 hb, Kd.C_below a3 hb⟩)), (fun h0 => by rw [upd_ne v _ (by decide)]; have h := f36 (h0.resolve_right (by decide)); exact (h.below hb)), (kv f37 (by decide)), (kv f40 (by decide))⟩)
      clear hb0 hb1 hb2 hk0 hk1 hk2 fT f7 f8 f19 f20 f35 f36 f37 f40 hK hb
      go_simp
      simpa [upd, d33, d37] using key
    case succ.succ.succ.succ.succ.succ.succ.succ.succ.succ.succ.succ.succ.succ.succ.succ.succ.succ.succ.succ.succ.succ.succ.succ.succ.succ.succ.succ.succ.succ.succ.succ.succ.succ.succ.succ.succ.succ.succ.zero =>
      have d38 := fT 38 _ (haft { on := 38, ground := .data } (by simp) rfl) (by rw [hTM]; rfl)
      rw [if_pos (by rfl)]
      have hb := Below.refl W.heap.size W
      have key := hK.out (.bool true) W (by rw [hGM]; exact ⟨hB.next hb, blk_below hb0 hb, blk_below hb1 hb, blk_below hb2 hb, hk0.below hb, hk1.below hb, hk2.below hb, tabs_step fT (fun c h => by rw [hTM] at h; exact Option.some.inj (Option.some.inj h)), (fun h0 => by rw [upd_ne v _ (by decide)]; have h := f7 (h0.resolve_right (by decide)); exact (h.below hb)), (kv f8 (by decide)), (fun h0 => by rw [upd_ne v _ (by decide)]; have h := f19 (h0.resolve_right (by decide)); exact (h.below hb)), (kv f20 (by decide)), (fun h0 => by rw [upd_ne v _ (by decide)]; have h := f35 (h0.resolve_right (by decide)); exact (let ⟨g, a1, a2, a3⟩ := h; ⟨g, a1, blk_below a2 hb, Kd.C_below a3 hb⟩)), (fun h0 => by rw [upd_ne v _ (by decide)]; have h := f36 (h0.resolve_right (by decide)); exact (h.below hb)), (kv f37 (by decide)), (kv f40 (by decide))⟩)
      clear hb0 hb1 hb2 hk0 hk1 hk2 fT f7 f8 f19 f20 f35 f36 f37 f40 hK hb
      go_simp
      simpa [upd, d38] using key
    case succ.succ.succ.succ.succ.succ.succ.succ.succ.succ.succ.succ.succ.succ.succ.succ.succ.succ.succ.succ.succ.succ.succ.succ.succ.succ.succ.succ.succ.succ.succ.succ.succ.succ.succ.succ.succ.succ.succ.succ.zero =>
      have dg := fT 39 _ (haft { on := 39, ground := .guard } (by simp) rfl) (by rw [hTM]; rfl)
      rw [if_pos (by simp [Region.wanted, yielded, dg])]
      have HALL := Aside0.mk (And.intro hK (And.intro hB (And.intro hb0 ( And.intro hb1 ( And.intro hb2 ( And.intro hk0 ( And.intro hk1 ( And.intro hk2 ( And.intro fT ( And.intro f7 ( And.intro f8 ( And.intro f19 ( And.intro f20 ( And.intro f35 ( And.intro f36 ( And.intro f37 ( And.intro f40 (True.intro))))))))))))))))))
      clear hK hb0 hb1 hb2 hk0 hk1 hk2 fT f7 f8 f19 f20 f35 f36 f37 f40
      go_simp
      go_at_call 28
      refine (QD.out _ (tab_below HT.out hB.1)).mono ?_
      rintro en w4 ⟨rfl, hb⟩
      obtain ⟨hK, hB, hb0, hb1, hb2, hk0, hk1, hk2, fT, f7, f8, f19, f20, f35, f36, f37, f40, _⟩ := HALL.out
      have key := hK.out (.bool true) w4 (by rw [hGM]; exact ⟨hB.next hb, blk_below hb0 hb, blk_below hb1 hb, blk_below hb2 hb, hk0.below hb, hk1.below hb, hk2.below hb, tabs_step fT (fun c h => by rw [hTM] at h; cases h), (fun h0 => by rw [upd_ne v _ (by decide)]; have h := f7 (h0.resolve_right (by decide)); exact (h.below hb)), (kv f8 (by decide)), (fun h0 => by rw [upd_ne v _ (by decide)]; have h := f19 (h0.resolve_right (by decide)); exact (h.below hb)), (kv f20 (by decide)), (fun h0 => by rw [upd_ne v _ (by decide)]; have h := f35 (h0.resolve_right (by decide)); exact (let ⟨g, a1, a2, a3⟩ := h; ⟨g, a1, blk_below a2 hb, Kd.C_below a3 hb⟩)), (fun h0 => by rw [upd_ne v _ (by decide)]; have h := f36 (h0.resolve_right (by decide)); exact (h.below hb)), (kv f37 (by decide)), fun _ => by rw [upd_eq]⟩)
      clear hb0 hb1 hb2 hk0 hk1 hk2 fT f7 f8 f19 f20 f35 f36 f37 f40 hK HALL
      simpa [upd, dg] using key
    case succ.succ.succ.succ.succ.succ.succ.succ.succ.succ.succ.succ.succ.succ.succ.succ.succ.succ.succ.succ.succ.succ.succ.succ.succ.succ.succ.succ.succ.succ.succ.succ.succ.succ.succ.succ.succ.succ.succ.succ.succ.zero =>
      have d39 := fT 39 _ (haft { on := 39, ground := .data } (by simp) rfl) (by rw [hTM]; rfl)
      have d40 := f40 (haft { on := 40, ground := .data } (by simp) rfl)
      rw [if_pos (by rfl)]
      have hb := Below.refl W.heap.size W
      have key := hK.out (.bool true) W (by rw [hGM]; exact ⟨hB.next hb, blk_below hb0 hb, blk_below hb1 hb, blk_below hb2 hb, hk0.below hb, hk1.below hb, hk2.below hb, tabs_step fT (fun c h => by rw [hTM] at h; exact Option.some.inj (Option.some.inj h)), (fun h0 => by rw [upd_ne v _ (by decide)]; have h := f7 (h0.resolve_right (by decide)); exact (h.below hb)), (kv f8 (by decide)), (fun h0 => by rw [upd_ne v _ (by decide)]; have h := f19 (h0.resolve_right (by decide)); exact (h.below hb)), (kv f20 (by decide)), (fun h0 => by rw [upd_ne v _ (by decide)]; have h := f35 (h0.resolve_right (by decide)); exact (let ⟨g, a1, a2, a3⟩ := h; ⟨g, a1, blk_below a2 hb, Kd.C_below a3 hb⟩)), (fun h0 => by rw [upd_ne v _ (by decide)]; have h := f36 (h0.resolve_right (by decide)); exact (h.below hb)), (kv f37 (by decide)), (kv f40 (by decide))⟩)
      clear hb0 hb1 hb2 hk0 hk1 hk2 fT f7 f8 f19 f20 f35 f36 f37 f40 hK hb
      go_simp
      simpa [upd, d39, d40] using key
    case succ.succ.succ.succ.succ.succ.succ.succ.succ.succ.succ.succ.succ.succ.succ.succ.succ.succ.succ.succ.succ.succ.succ.succ.succ.succ.succ.succ.succ.succ.succ.succ.succ.succ.succ.succ.succ.succ.succ.succ.succ.succ.zero =>
      have d41 := fT 41 _ (haft { on := 41, ground := .data } (by simp) rfl) (by rw [hTM]; rfl)
      rw [if_pos (by rfl)]
      have hb := Below.refl W.heap.size W
      have key := hK.out (.bool true) W (by rw [hGM]; exact ⟨hB.next hb, blk_below hb0 hb, blk_below hb1 hb, blk_below hb2 hb, hk0.below hb, hk1.below hb, hk2.below hb, tabs_step fT (fun c h => by rw [hTM] at h; exact Option.some.inj (Option.some.inj h)), (fun h0 => by rw [upd_ne v _ (by decide)]; have h := f7 (h0.resolve_right (by decide)); exact (h.below hb)), (kv f8 (by decide)), (fun h0 => by rw [upd_ne v _ (by decide)]; have h := f19 (h0.resolve_right (by decide)); exact (h.below hb)), (kv f20 (by decide)), (fun h0 => by rw [upd_ne v _ (by decide)]; have h := f35 (h0.resolve_right (by decide)); exact (let ⟨g, a1, a2, a3⟩ := h; ⟨g, a1, blk_below a2 hb, Kd.C_below a3 hb⟩)), (fun h0 => by rw [upd_ne v _ (by decide)]; have h := f36 (h0.resolve_right (by decide)); exact (h.below hb)), (kv f37 (by decide)), (kv f40 (by decide))⟩)
      clear hb0 hb1 hb2 hk0 hk1 hk2 fT f7 f8 f19 f20 f35 f36 f37 f40 hK hb
      go_simp
      simpa [upd, d41] using key
  case hendM =>
    intro v W L0 hall hGv
    rw [hGM] at hGv
    obtain ⟨hB, hb0, hb1, hb2, hk0, hk1, hk2, fT, f7, f8, f19, f20, f35, f36, f37, f40⟩ := hGv
    have d42 := fT 42 _ (hall 42 (by decide)) (by rw [hTM]; rfl)
    replace BEL := Aside0.mk hB
    clear hall hB fT f7 f8 f19 f20 f35 f36 f37 f40
    simp only [setAll, List.setIfInBounds_toArray, List.set_cons_zero, List.set_cons_succ, Nat.reduceAdd, d42]
    go_wp2
    go_ret
    exact ⟨rfl, BEL.out.1⟩
end Go.Proofs.YtgpjplelgffocaaDoor

namespace Go.Proofs.YtgpjplelgffocaaDoor
open Go.RowKit Go.Proofs.YtgpjplelgffocaaDoorW.PrintWords Limb
set_option linter.unusedVariables false
set_option linter.unusedSimpArgs false

def fewP (v : Int) : Prop := cman v < 2 ^ 54
def FewG (G : Int → Option (Int × Int)) : Prop := ∀ z v e, z.natAbs < 2 ^ 2098 → G z = some (v, e) → fewP v
theorem cman_one : cman 1 = 1 := by kernel_rfl
end Go.Proofs.YtgpjplelgffocaaDoor

namespace Go.Proofs.YtgpjplelgffocaaDoor
open Go.RowKit Go.Proofs.YtgpjplelgffocaaDoorW.PrintWords Limb
set_option linter.unusedVariables false
set_option linter.unusedSimpArgs false

theorem ok_small {v e : Int} (h : v.natAbs < 2 ^ 60) (h1 : -60000 ≤ e) (h2 : e ≤ 60000) : Ok v e := Ok.of 60 h (by decide) (by omega) (by omega)
def OkG (G : Int → Option (Int × Int)) : Prop := ∀ z v e, z.natAbs < 2 ^ 2098 → G z = some (v, e) → Ok v e
theorem ok_getD {o : Option (Int × Int)} (h : ∀ v e, o = some (v, e) → Ok v e) : Ok (o.getD (0, 0)).1 (o.getD (0, 0)).2 := by
  cases o with
  | none => exact ok_small (by decide) (by decide) (by decide)
  | some y => exact h y.1 y.2 rfl
theorem ok_ang {f : Nat} {y x v e : Int} (h : angF f y x = some (v, e)) : Ok v e := by
  have hs := sgnI_cases y
  unfold angF at h
  repeat' split at h
  all_goals first
    | cases h; done
    | (obtain ⟨rfl, rfl⟩ := Prod.mk.inj (Option.some.inj h); exact ok_small (by omega) (by decide) (by decide))
theorem ex2_ok (f y x : Nat) : Ok ((exO2 f y x).getD (0, 0)).1 ((exO2 f y x).getD (0, 0)).2 := ok_getD fun v e h => by
  unfold exO2 at h
  split at h
  · exact ok_ang h
  · cases h
end Go.Proofs.YtgpjplelgffocaaDoor
