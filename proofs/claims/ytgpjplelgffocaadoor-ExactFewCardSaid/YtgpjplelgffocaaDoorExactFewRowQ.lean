/- ExactFew returns true at every input, and leaves its arguments and all old memory as they were, where the table math/bits.deBruijn64tab holds at first what the program's text lays into it (the card ties that). -/
import Derived.Test.YtgpjplelgffocaaDoorQ5
import Derived.Test.YtgpjplelgffocaaDoorRows
import Derived.Test.YtgpjplelgffocaaDoorTie
import Derived.Test.YtgpjplelgffocaaDoorCards
import Derived.WalkKit
import Derived.ProofKit
import Derived.LaidMore
import Derived.OpenShut
import Derived.Below
import Derived.Stop.Joined
import Derived.SevenTiedAt
namespace Go.Proofs.YtgpjplelgffocaaDoor
open Go.RowKit Go.Proofs.YtgpjplelgffocaaDoorW.PrintWords Limb
set_option linter.unusedVariables false
set_option linter.unusedSimpArgs false

theorem few_len {v : Int} (h : fewP v) : (limbs (cman v)).length ≤ 1073741824 := by
  have : (limbs (cman v)).length ≤ 1 := limbs_len_le (Nat.lt_trans h (by decide))
  omega

set_option maxRecDepth 100000 in
set_option maxHeartbeats 8000000 in
theorem few_any (f y x : Nat) (hf : f < 256) (hy : y < 18446744073709551616) (hx : x < 18446744073709551616) (w : World) (hT : TabAt 0 Lib.deBruijn64tab w) :
    Calls Tryd.prog 4 #[.int .u8 f, .int .u64 (y : Int), .int .u64 (x : Int)] w fun en w' => en = .returned (.bool true) ∧ Below w.heap.size w w' := by
  have HT := Aside0.mk hT
  have BEL := Aside0.mk (BelN.zero w)
  have Q1 := Aside0.mk (fun (W : World) (ht : TabAt 0 Lib.deBruijn64tab W) => exact_any f x hf hx W ht)
  have Q2 := Aside0.mk (fun (W : World) (ht : TabAt 0 Lib.deBruijn64tab W) => exact2_any f y x hf hy hx W ht)
  have F1 := Aside0.mk (fun (v e : Int) (h : exO f x = some (v, e)) => few_ex h)
  have F2 := Aside0.mk (fun (v e : Int) (h : exO2 f y x = some (v, e)) => few_ex2 h)
  clear hT hf hy hx
  generalize exO f x = o1 at *
  generalize exO2 f y x = o2 at *
  generalize exE f x = e1 at *
  generalize exE2 f y x = e2 at *
  go_enter Tryd.func4, Tryd.ntmps4
  go_wp2_with fail
  go_at_call 9
  refine (lives_any _ (tab_below HT.out BEL.out.1)).mono ?_
  rintro en1 w1 ⟨rfl, hb⟩
  replace BEL := Aside0.mk (BEL.out.next hb)
  clear hb
  go_wp2_with fail
  go_at_call 11
  refine (Q1.out _ (tab_below HT.out BEL.out.1)).mono ?_
  rintro en2 w2 ⟨v2, rfl, hr, hb⟩
  replace BEL := Aside0.mk (BEL.out.next hb)
  have P1 := Aside0.mk hr
  obtain ⟨b2, A2, n2, c2, x2, rfl⟩ := hr.ex
  clear hr hb
  have BELo := BEL
  go_wp2_with (replace BEL := Aside0.mk ((BEL.out.alloc (.cells #[.bool false, .slice none 0 0, .int .i64 0] 27)).less (j := 0) (by omega)); have HN := Aside0.mk (blk_new w2 (.cells #[.bool false, .slice none 0 0, .int .i64 0] 27)); replace P1 := Aside0.mk (P1.out.below (below_alloc (Below.refl _ _) (.cells #[.bool false, .slice none 0 0, .int .i64 0] 27))); ((with_reducible refine gate_store (p := 7) rfl ?_); go_must (refine store_box 27 7 (.tmp 19) rfl rfl rfl (g := w2.heap.size) (e := 27) (.agg #[.bool b2, .slice A2 n2 c2, .int .i64 x2]) ([.bool b2, .slice A2 n2 c2, .int .i64 x2]) rfl rfl rfl info_dyad ?b1 HN.out rfl ?_; (case b1 => intro q hq; simp at hq; rcases hq with rfl | rfl | rfl <;> rfl); intro wb hbx hgx; have HX := Aside0.mk hbx; have HG := Aside0.mk hgx; clear hbx hgx)); replace P1 := Aside0.mk (P1.out.grown_box HN.out (by decide) HG.out); have LB_X1 := BELo.out.2; replace BEL := Aside0.mk (BEL.out.grown HG.out (Nat.le_trans (Nat.le_add_right _ _) LB_X1)); have LL_X1 := Aside0.mk LB_X1; clear LB_X1; have X1 := HX; clear HG HN HX)
  go_at_call 7
  refine (Q2.out _ (tab_below HT.out BEL.out.1)).mono ?_
  rintro en3 w3 ⟨v3, rfl, hr, hb⟩
  replace BEL := Aside0.mk (BEL.out.next hb)
  replace X1 := Aside0.mk (blk_below X1.out hb)
  replace P1 := Aside0.mk (P1.out.below hb)
  have P2 := Aside0.mk hr
  obtain ⟨b3, A3, n3, c3, x3, rfl⟩ := hr.ex
  clear hr hb
  cases ho1 : o1 with
  | none =>
    clear F1 ho1
    cases ho2 : o2 with
    | none =>
      clear F2 ho2
      have BELo := BEL
      go_wp2_with (replace BEL := Aside0.mk ((BEL.out.alloc (.cells #[.bool false, .slice none 0 0, .int .i64 0] 27)).less (j := 0) (by omega)); have HN := Aside0.mk (blk_new w3 (.cells #[.bool false, .slice none 0 0, .int .i64 0] 27)); have L_X1 := lt_blk X1.out; replace X1 := Aside0.mk (blk_alloc X1.out (.cells #[.bool false, .slice none 0 0, .int .i64 0] 27)); replace P1 := Aside0.mk (P1.out.below (below_alloc (Below.refl _ _) (.cells #[.bool false, .slice none 0 0, .int .i64 0] 27))); replace P2 := Aside0.mk (P2.out.below (below_alloc (Below.refl _ _) (.cells #[.bool false, .slice none 0 0, .int .i64 0] 27))); ((with_reducible refine gate_store (p := 10) rfl ?_); go_must (refine store_box 27 10 (.tmp 27) rfl rfl rfl (g := w3.heap.size) (e := 27) (.agg #[.bool b3, .slice A3 n3 c3, .int .i64 x3]) ([.bool b3, .slice A3 n3 c3, .int .i64 x3]) rfl rfl rfl info_dyad ?b1 HN.out rfl ?_; (case b1 => intro q hq; simp at hq; rcases hq with rfl | rfl | rfl <;> rfl); intro wb hbx hgx; have HX := Aside0.mk hbx; have HG := Aside0.mk hgx; clear hbx hgx)); replace P1 := Aside0.mk (P1.out.grown_box HN.out (by decide) HG.out); replace P2 := Aside0.mk (P2.out.grown_box HN.out (by decide) HG.out); have LB_X2 := BELo.out.2; replace BEL := Aside0.mk (BEL.out.grown HG.out (Nat.le_trans (Nat.le_add_right _ _) LB_X2)); replace X1 := Aside0.mk (blk_grown X1.out HG.out (Nat.ne_of_lt L_X1)); have NE_X1_X2 := Aside0.mk (Nat.ne_of_lt L_X1); clear L_X1; have LL_X2 := Aside0.mk LB_X2; clear LB_X2; have X2 := HX; clear HG HN HX)
      go_ret
      exact ⟨rfl, BEL.out.1⟩
    | some p2 =>
      obtain ⟨v2, t2⟩ := p2
      have FV2 := Aside0.mk (F2.out v2 t2 ho2)
      replace P2 := Aside0.mk (show PDy _ _ _ v2 t2 from by have q := P2.out; rw [ho2] at q; exact q)
      clear F2 ho2
      have BELo := BEL
      go_wp2_with (replace BEL := Aside0.mk ((BEL.out.alloc (.cells #[.bool false, .slice none 0 0, .int .i64 0] 27)).less (j := 0) (by omega)); have HN := Aside0.mk (blk_new w3 (.cells #[.bool false, .slice none 0 0, .int .i64 0] 27)); have L_X1 := lt_blk X1.out; replace X1 := Aside0.mk (blk_alloc X1.out (.cells #[.bool false, .slice none 0 0, .int .i64 0] 27)); replace P1 := Aside0.mk (P1.out.below (below_alloc (Below.refl _ _) (.cells #[.bool false, .slice none 0 0, .int .i64 0] 27))); replace P2 := Aside0.mk (P2.out.below (below_alloc (Below.refl _ _) (.cells #[.bool false, .slice none 0 0, .int .i64 0] 27))); ((with_reducible refine gate_store (p := 10) rfl ?_); go_must (refine store_box 27 10 (.tmp 27) rfl rfl rfl (g := w3.heap.size) (e := 27) (.agg #[.bool b3, .slice A3 n3 c3, .int .i64 x3]) ([.bool b3, .slice A3 n3 c3, .int .i64 x3]) rfl rfl rfl info_dyad ?b1 HN.out rfl ?_; (case b1 => intro q hq; simp at hq; rcases hq with rfl | rfl | rfl <;> rfl); intro wb hbx hgx; have HX := Aside0.mk hbx; have HG := Aside0.mk hgx; clear hbx hgx)); replace P1 := Aside0.mk (P1.out.grown_box HN.out (by decide) HG.out); replace P2 := Aside0.mk (P2.out.grown_box HN.out (by decide) HG.out); have LB_X2 := BELo.out.2; replace BEL := Aside0.mk (BEL.out.grown HG.out (Nat.le_trans (Nat.le_add_right _ _) LB_X2)); replace X1 := Aside0.mk (blk_grown X1.out HG.out (Nat.ne_of_lt L_X1)); have NE_X1_X2 := Aside0.mk (Nat.ne_of_lt L_X1); clear L_X1; have LL_X2 := Aside0.mk LB_X2; clear LB_X2; have X2 := HX; clear HG HN HX; obtain ⟨q0, q0'⟩ := box_cell X2.out 0 rfl; obtain ⟨q1, q1'⟩ := box_cell X2.out 1 rfl; obtain ⟨q2, q2'⟩ := box_cell X2.out 2 rfl)
      clear q0 q0' q1 q1' q2 q2'
      go_at_call 12
      refine (zero_any _ v2 t2 _ P2.out.c (few_len FV2.out)).mono ?_
      rintro en4 w4 ⟨rfl, hb⟩
      replace BEL := Aside0.mk (BEL.out.next hb)
      replace X1 := Aside0.mk (blk_below X1.out hb)
      replace X2 := Aside0.mk (blk_below X2.out hb)
      replace P1 := Aside0.mk (P1.out.below hb)
      replace P2 := Aside0.mk (P2.out.below hb)
      clear hb
      by_cases hv2 : v2 = 0
      · have hd2 : decide (v2 = 0) = true := decide_eq_true hv2
        clear hv2
        obtain ⟨q3, q3'⟩ := box_cell X2.out 0 rfl
        obtain ⟨q4, q4'⟩ := box_cell X2.out 1 rfl
        obtain ⟨q5, q5'⟩ := box_cell X2.out 2 rfl
        go_wp2_with fail
        go_ret
        exact ⟨rfl, BEL.out.1⟩
      · have hd2 : decide (v2 = 0) = false := decide_eq_false hv2
        have HB2 := Aside0.mk (few_bits FV2.out hv2)
        clear hv2
        obtain ⟨q3, q3'⟩ := box_cell X2.out 0 rfl
        obtain ⟨q4, q4'⟩ := box_cell X2.out 1 rfl
        obtain ⟨q5, q5'⟩ := box_cell X2.out 2 rfl
        go_wp2_with fail
        clear q3 q3' q4 q4' q5 q5'
        go_at_call 13
        refine (bits_any _ v2 t2 _ P2.out.c (few_len FV2.out)).mono ?_
        rintro en5 w5 ⟨rfl, hb⟩
        replace BEL := Aside0.mk (BEL.out.next hb)
        replace X1 := Aside0.mk (blk_below X1.out hb)
        replace X2 := Aside0.mk (blk_below X2.out hb)
        replace P1 := Aside0.mk (P1.out.below hb)
        replace P2 := Aside0.mk (P2.out.below hb)
        clear hb
        have hbd2 : decide ((bl (cman v2) : Int) - tz (cman v2) ≤ 54) = true := decide_eq_true HB2.out
        go_wp2_with fail
        go_ret
        exact ⟨rfl, BEL.out.1⟩
  | some p1 =>
    obtain ⟨v1, t1⟩ := p1
    have FV1 := Aside0.mk (F1.out v1 t1 ho1)
    replace P1 := Aside0.mk (show PDy _ _ _ v1 t1 from by have q := P1.out; rw [ho1] at q; exact q)
    clear F1 ho1
    cases ho2 : o2 with
    | none =>
      clear F2 ho2
      obtain ⟨q0, q0'⟩ := box_cell X1.out 0 rfl
      obtain ⟨q1, q1'⟩ := box_cell X1.out 1 rfl
      obtain ⟨q2, q2'⟩ := box_cell X1.out 2 rfl
      have BELo := BEL
      go_wp2_with (clear q0 q0' q1 q1' q2 q2'; replace BEL := Aside0.mk ((BEL.out.alloc (.cells #[.bool false, .slice none 0 0, .int .i64 0] 27)).less (j := 0) (by omega)); have HN := Aside0.mk (blk_new w3 (.cells #[.bool false, .slice none 0 0, .int .i64 0] 27)); have L_X1 := lt_blk X1.out; replace X1 := Aside0.mk (blk_alloc X1.out (.cells #[.bool false, .slice none 0 0, .int .i64 0] 27)); replace P1 := Aside0.mk (P1.out.below (below_alloc (Below.refl _ _) (.cells #[.bool false, .slice none 0 0, .int .i64 0] 27))); replace P2 := Aside0.mk (P2.out.below (below_alloc (Below.refl _ _) (.cells #[.bool false, .slice none 0 0, .int .i64 0] 27))); ((with_reducible refine gate_store (p := 10) rfl ?_); go_must (refine store_box 27 10 (.tmp 27) rfl rfl rfl (g := w3.heap.size) (e := 27) (.agg #[.bool b3, .slice A3 n3 c3, .int .i64 x3]) ([.bool b3, .slice A3 n3 c3, .int .i64 x3]) rfl rfl rfl info_dyad ?b1 HN.out rfl ?_; (case b1 => intro q hq; simp at hq; rcases hq with rfl | rfl | rfl <;> rfl); intro wb hbx hgx; have HX := Aside0.mk hbx; have HG := Aside0.mk hgx; clear hbx hgx)); replace P1 := Aside0.mk (P1.out.grown_box HN.out (by decide) HG.out); replace P2 := Aside0.mk (P2.out.grown_box HN.out (by decide) HG.out); have LB_X2 := BELo.out.2; replace BEL := Aside0.mk (BEL.out.grown HG.out (Nat.le_trans (Nat.le_add_right _ _) LB_X2)); replace X1 := Aside0.mk (blk_grown X1.out HG.out (Nat.ne_of_lt L_X1)); have NE_X1_X2 := Aside0.mk (Nat.ne_of_lt L_X1); clear L_X1; have LL_X2 := Aside0.mk LB_X2; clear LB_X2; have X2 := HX; clear HG HN HX; obtain ⟨q3, q3'⟩ := box_cell X1.out 0 rfl; obtain ⟨q4, q4'⟩ := box_cell X1.out 1 rfl; obtain ⟨q5, q5'⟩ := box_cell X1.out 2 rfl)
      clear q3 q3' q4 q4' q5 q5'
      go_at_call 12
      refine (zero_any _ v1 t1 _ P1.out.c (few_len FV1.out)).mono ?_
      rintro en4 w4 ⟨rfl, hb⟩
      replace BEL := Aside0.mk (BEL.out.next hb)
      replace X1 := Aside0.mk (blk_below X1.out hb)
      replace X2 := Aside0.mk (blk_below X2.out hb)
      replace P1 := Aside0.mk (P1.out.below hb)
      replace P2 := Aside0.mk (P2.out.below hb)
      clear hb
      by_cases hv1 : v1 = 0
      · have hd1 : decide (v1 = 0) = true := decide_eq_true hv1
        clear hv1
        obtain ⟨q6, q6'⟩ := box_cell X1.out 0 rfl
        obtain ⟨q7, q7'⟩ := box_cell X1.out 1 rfl
        obtain ⟨q8, q8'⟩ := box_cell X1.out 2 rfl
        go_wp2_with fail
        go_ret
        exact ⟨rfl, BEL.out.1⟩
      · have hd1 : decide (v1 = 0) = false := decide_eq_false hv1
        have HB1 := Aside0.mk (few_bits FV1.out hv1)
        clear hv1
        obtain ⟨q6, q6'⟩ := box_cell X1.out 0 rfl
        obtain ⟨q7, q7'⟩ := box_cell X1.out 1 rfl
        obtain ⟨q8, q8'⟩ := box_cell X1.out 2 rfl
        go_wp2_with fail
        clear q6 q6' q7 q7' q8 q8'
        go_at_call 13
        refine (bits_any _ v1 t1 _ P1.out.c (few_len FV1.out)).mono ?_
        rintro en5 w5 ⟨rfl, hb⟩
        replace BEL := Aside0.mk (BEL.out.next hb)
        replace X1 := Aside0.mk (blk_below X1.out hb)
        replace X2 := Aside0.mk (blk_below X2.out hb)
        replace P1 := Aside0.mk (P1.out.below hb)
        replace P2 := Aside0.mk (P2.out.below hb)
        clear hb
        have hbd1 : decide ((bl (cman v1) : Int) - tz (cman v1) ≤ 54) = true := decide_eq_true HB1.out
        go_wp2_with fail
        go_ret
        exact ⟨rfl, BEL.out.1⟩
    | some p2 =>
      obtain ⟨v2, t2⟩ := p2
      have FV2 := Aside0.mk (F2.out v2 t2 ho2)
      replace P2 := Aside0.mk (show PDy _ _ _ v2 t2 from by have q := P2.out; rw [ho2] at q; exact q)
      clear F2 ho2
      obtain ⟨q0, q0'⟩ := box_cell X1.out 0 rfl
      obtain ⟨q1, q1'⟩ := box_cell X1.out 1 rfl
      obtain ⟨q2, q2'⟩ := box_cell X1.out 2 rfl
      have BELo := BEL
      go_wp2_with (clear q0 q0' q1 q1' q2 q2'; replace BEL := Aside0.mk ((BEL.out.alloc (.cells #[.bool false, .slice none 0 0, .int .i64 0] 27)).less (j := 0) (by omega)); have HN := Aside0.mk (blk_new w3 (.cells #[.bool false, .slice none 0 0, .int .i64 0] 27)); have L_X1 := lt_blk X1.out; replace X1 := Aside0.mk (blk_alloc X1.out (.cells #[.bool false, .slice none 0 0, .int .i64 0] 27)); replace P1 := Aside0.mk (P1.out.below (below_alloc (Below.refl _ _) (.cells #[.bool false, .slice none 0 0, .int .i64 0] 27))); replace P2 := Aside0.mk (P2.out.below (below_alloc (Below.refl _ _) (.cells #[.bool false, .slice none 0 0, .int .i64 0] 27))); ((with_reducible refine gate_store (p := 10) rfl ?_); go_must (refine store_box 27 10 (.tmp 27) rfl rfl rfl (g := w3.heap.size) (e := 27) (.agg #[.bool b3, .slice A3 n3 c3, .int .i64 x3]) ([.bool b3, .slice A3 n3 c3, .int .i64 x3]) rfl rfl rfl info_dyad ?b1 HN.out rfl ?_; (case b1 => intro q hq; simp at hq; rcases hq with rfl | rfl | rfl <;> rfl); intro wb hbx hgx; have HX := Aside0.mk hbx; have HG := Aside0.mk hgx; clear hbx hgx)); replace P1 := Aside0.mk (P1.out.grown_box HN.out (by decide) HG.out); replace P2 := Aside0.mk (P2.out.grown_box HN.out (by decide) HG.out); have LB_X2 := BELo.out.2; replace BEL := Aside0.mk (BEL.out.grown HG.out (Nat.le_trans (Nat.le_add_right _ _) LB_X2)); replace X1 := Aside0.mk (blk_grown X1.out HG.out (Nat.ne_of_lt L_X1)); have NE_X1_X2 := Aside0.mk (Nat.ne_of_lt L_X1); clear L_X1; have LL_X2 := Aside0.mk LB_X2; clear LB_X2; have X2 := HX; clear HG HN HX; obtain ⟨q3, q3'⟩ := box_cell X1.out 0 rfl; obtain ⟨q4, q4'⟩ := box_cell X1.out 1 rfl; obtain ⟨q5, q5'⟩ := box_cell X1.out 2 rfl)
      clear q3 q3' q4 q4' q5 q5'
      go_at_call 12
      refine (zero_any _ v1 t1 _ P1.out.c (few_len FV1.out)).mono ?_
      rintro en4 w4 ⟨rfl, hb⟩
      replace BEL := Aside0.mk (BEL.out.next hb)
      replace X1 := Aside0.mk (blk_below X1.out hb)
      replace X2 := Aside0.mk (blk_below X2.out hb)
      replace P1 := Aside0.mk (P1.out.below hb)
      replace P2 := Aside0.mk (P2.out.below hb)
      clear hb
      by_cases hv1 : v1 = 0
      · have hd1 : decide (v1 = 0) = true := decide_eq_true hv1
        clear hv1
        obtain ⟨q6, q6'⟩ := box_cell X1.out 0 rfl
        obtain ⟨q7, q7'⟩ := box_cell X1.out 1 rfl
        obtain ⟨q8, q8'⟩ := box_cell X1.out 2 rfl
        obtain ⟨q9, q9'⟩ := box_cell X2.out 0 rfl
        obtain ⟨q10, q10'⟩ := box_cell X2.out 1 rfl
        obtain ⟨q11, q11'⟩ := box_cell X2.out 2 rfl
        go_wp2_with fail
        clear q6 q6' q7 q7' q8 q8' q9 q9' q10 q10' q11 q11'
        go_at_call 12
        refine (zero_any _ v2 t2 _ P2.out.c (few_len FV2.out)).mono ?_
        rintro en5 w5 ⟨rfl, hb⟩
        replace BEL := Aside0.mk (BEL.out.next hb)
        replace X1 := Aside0.mk (blk_below X1.out hb)
        replace X2 := Aside0.mk (blk_below X2.out hb)
        replace P1 := Aside0.mk (P1.out.below hb)
        replace P2 := Aside0.mk (P2.out.below hb)
        clear hb
        by_cases hv2 : v2 = 0
        · have hd2 : decide (v2 = 0) = true := decide_eq_true hv2
          clear hv2
          obtain ⟨q12, q12'⟩ := box_cell X2.out 0 rfl
          obtain ⟨q13, q13'⟩ := box_cell X2.out 1 rfl
          obtain ⟨q14, q14'⟩ := box_cell X2.out 2 rfl
          go_wp2_with fail
          go_ret
          exact ⟨rfl, BEL.out.1⟩
        · have hd2 : decide (v2 = 0) = false := decide_eq_false hv2
          have HB2 := Aside0.mk (few_bits FV2.out hv2)
          clear hv2
          obtain ⟨q12, q12'⟩ := box_cell X2.out 0 rfl
          obtain ⟨q13, q13'⟩ := box_cell X2.out 1 rfl
          obtain ⟨q14, q14'⟩ := box_cell X2.out 2 rfl
          go_wp2_with fail
          clear q12 q12' q13 q13' q14 q14'
          go_at_call 13
          refine (bits_any _ v2 t2 _ P2.out.c (few_len FV2.out)).mono ?_
          rintro en6 w6 ⟨rfl, hb⟩
          replace BEL := Aside0.mk (BEL.out.next hb)
          replace X1 := Aside0.mk (blk_below X1.out hb)
          replace X2 := Aside0.mk (blk_below X2.out hb)
          replace P1 := Aside0.mk (P1.out.below hb)
          replace P2 := Aside0.mk (P2.out.below hb)
          clear hb
          have hbd2 : decide ((bl (cman v2) : Int) - tz (cman v2) ≤ 54) = true := decide_eq_true HB2.out
          go_wp2_with fail
          go_ret
          exact ⟨rfl, BEL.out.1⟩
      · have hd1 : decide (v1 = 0) = false := decide_eq_false hv1
        have HB1 := Aside0.mk (few_bits FV1.out hv1)
        clear hv1
        obtain ⟨q6, q6'⟩ := box_cell X1.out 0 rfl
        obtain ⟨q7, q7'⟩ := box_cell X1.out 1 rfl
        obtain ⟨q8, q8'⟩ := box_cell X1.out 2 rfl
        go_wp2_with fail
        clear q6 q6' q7 q7' q8 q8'
        go_at_call 13
        refine (bits_any _ v1 t1 _ P1.out.c (few_len FV1.out)).mono ?_
        rintro en5 w5 ⟨rfl, hb⟩
        replace BEL := Aside0.mk (BEL.out.next hb)
        replace X1 := Aside0.mk (blk_below X1.out hb)
        replace X2 := Aside0.mk (blk_below X2.out hb)
        replace P1 := Aside0.mk (P1.out.below hb)
        replace P2 := Aside0.mk (P2.out.below hb)
        clear hb
        have hbd1 : decide ((bl (cman v1) : Int) - tz (cman v1) ≤ 54) = true := decide_eq_true HB1.out
        obtain ⟨q9, q9'⟩ := box_cell X2.out 0 rfl
        obtain ⟨q10, q10'⟩ := box_cell X2.out 1 rfl
        obtain ⟨q11, q11'⟩ := box_cell X2.out 2 rfl
        go_wp2_with fail
        clear q9 q9' q10 q10' q11 q11'
        go_at_call 12
        refine (zero_any _ v2 t2 _ P2.out.c (few_len FV2.out)).mono ?_
        rintro en6 w6 ⟨rfl, hb⟩
        replace BEL := Aside0.mk (BEL.out.next hb)
        replace X1 := Aside0.mk (blk_below X1.out hb)
        replace X2 := Aside0.mk (blk_below X2.out hb)
        replace P1 := Aside0.mk (P1.out.below hb)
        replace P2 := Aside0.mk (P2.out.below hb)
        clear hb
        by_cases hv2 : v2 = 0
        · have hd2 : decide (v2 = 0) = true := decide_eq_true hv2
          clear hv2
          obtain ⟨q12, q12'⟩ := box_cell X2.out 0 rfl
          obtain ⟨q13, q13'⟩ := box_cell X2.out 1 rfl
          obtain ⟨q14, q14'⟩ := box_cell X2.out 2 rfl
          go_wp2_with fail
          go_ret
          exact ⟨rfl, BEL.out.1⟩
        · have hd2 : decide (v2 = 0) = false := decide_eq_false hv2
          have HB2 := Aside0.mk (few_bits FV2.out hv2)
          clear hv2
          obtain ⟨q12, q12'⟩ := box_cell X2.out 0 rfl
          obtain ⟨q13, q13'⟩ := box_cell X2.out 1 rfl
          obtain ⟨q14, q14'⟩ := box_cell X2.out 2 rfl
          go_wp2_with fail
          clear q12 q12' q13 q13' q14 q14'
          go_at_call 13
          refine (bits_any _ v2 t2 _ P2.out.c (few_len FV2.out)).mono ?_
          rintro en7 w7 ⟨rfl, hb⟩
          replace BEL := Aside0.mk (BEL.out.next hb)
          replace X1 := Aside0.mk (blk_below X1.out hb)
          replace X2 := Aside0.mk (blk_below X2.out hb)
          replace P1 := Aside0.mk (P1.out.below hb)
          replace P2 := Aside0.mk (P2.out.below hb)
          clear hb
          have hbd2 : decide ((bl (cman v2) : Int) - tz (cman v2) ≤ 54) = true := decide_eq_true HB2.out
          go_wp2_with fail
          go_ret
          exact ⟨rfl, BEL.out.1⟩
end Go.Proofs.YtgpjplelgffocaaDoor

namespace Go.Proofs.YtgpjplelgffocaaDoor.exactFew
open Go.ChangeShapes Go.WideShapes Go.ChangeAt Go.RowKit Go.WideMaps Go.WideElems
set_option linter.unusedVariables false

theorem own : ownKnob Tryd.prog.godebug = none := by kernel_rfl
theorem gTab : Tryd.prog.globalNamed "math/bits.deBruijn64tab" = some 0 := by kernel_rfl
theorem tTab : (Tryd.prog.globals[0]?).map (·.type) = some 113 := by kernel_rfl
theorem uTab : Tryd.prog.underlying 113 = some (.array 64 5) := by kernel_rfl
theorem laid_list : Rows.laid_math_bits_deBruijn64tab (H := Unit) = .agg (Lib.deBruijn64tab.map (fun n : Nat => .lit (.int .u8 (n : Int)))) := rfl

theorem door_met (os : Os) (args : Array Value) : laidMetH Tryd.prog Rows.exactFewRow.laid ((World.doorLaid Tryd.prog 400 os).forCall (fun _ _ => 0) ⟨#[], args, []⟩).memory :=
  laidMetH_of_parts3 (fuel := 8) (laidMet_of_run' 8 (by kernel_rfl) (by kernel_rfl)) (by kernel_rfl) (by kernel_rfl)

set_option maxRecDepth 100000 in
/-- What the condition gives the walk: the table's cells. -/
theorem of_laid {W : World} (h : laidMetH Tryd.prog Rows.exactFewRow.laid W) : TabAt 0 Lib.deBruijn64tab W := by
  rw [MakeChecks.laidMetH_plain _ _ _ (by kernel_rfl)] at h
  obtain ⟨ps, ⟨g0, t0, cs0, f0, p0, q0, hg0, ht0, hv0, hd0, _, _⟩, _⟩ := h
  obtain rfl := Option.some.inj (gTab.symm.trans hg0)
  obtain rfl := Option.some.inj (tTab.symm.trans ht0)
  obtain ⟨xs, m1, rfl, hx1, hlen, hn, hel⟩ := DataW.trod_array uTab hd0
  have c1 : Tryd.prog.cellsOf 5 = 1 := by kernel_rfl
  rw [c1] at hel
  simp only [Prod.mk.injEq] at hx1
  have hx2 := laid_list.symm.trans hx1.1
  injection hx2 with hx3
  intro j hj
  have hj64 : j < 64 := hj
  have h1 := hel j hj64
  have hxj : xs[j]? = some xs[j] := List.getElem?_eq_getElem (by omega)
  rw [hxj] at h1
  obtain ⟨k, e1, e2, _⟩ := DataW.trod_int Tryd.underlying5 h1
  have h2 : (Lib.deBruijn64tab.map (fun n : Nat => (DataW.lit (H := Unit) (.int .u8 (n : Int)))))[j]? = some (.lit (.int .u8 k)) := by
    rw [hx3, List.getElem?_map, hxj, Option.map_some, e2]
  obtain ⟨y, hy⟩ : ∃ y, Lib.deBruijn64tab[j]? = some y := ⟨_, List.getElem?_eq_getElem hj⟩
  rw [List.getElem?_map, hy, Option.map_some] at h2
  have h2 : (y : Int) = k := by simpa only [Option.some.injEq, DataW.lit.injEq, Lit.int.injEq, true_and] using h2
  rw [World.var?_cell hg0 hv0 j]
  have h3 : cs0.toList[j]? = some (.int .u8 k) := by
    rw [Nat.mul_one] at e1
    have h4 : (cs0.toList.drop j)[0]? = some (.int .u8 k) := by
      have h5 : ((cs0.toList.drop j).take 1)[0]? = some (.int .u8 k) := by rw [e1]; rfl
      rw [List.getElem?_take_of_lt (by decide)] at h5
      exact h5
    rw [List.getElem?_drop] at h4
    exact h4
  rw [← Array.getElem?_toList, h3, ← h2, List.getD_eq_getElem?_getD, hy]
  rfl

set_option maxRecDepth 100000 in
theorem lifted (os : Os) (started : os.Started) (H : Type) (enc : TypeId × Value → H) :
    ReturnsInHanded {} Tryd.checked os 4 .any (fun w args => (Rows.exactFewSpec.pre enc Tryd.prog Tryd.f4 [] false w args ∧ laidMetH Tryd.prog Rows.exactFewRow.laid w) ∧ sizedMet enc Tryd.prog Tryd.f4 (OpenSpec.ofChange Rows.exactFewSpec) false w args)
      (Rows.exactFewSpec.post enc Tryd.prog Tryd.f4 false true false false) := by
  refine returnsInHanded_of_change_and (C := Tryd.checked) (X := fun w _ => laidMetH Tryd.prog Rows.exactFewRow.laid w) (fun _ _ _ hh h => h.of_heap hh) own started (by kernel_rfl) Tryd.func4
    (ChangeSpec.witness_shaped (enc := enc) (C := Tryd.checked) (os := os) (X := fun w _ => laidMetH Tryd.prog Rows.exactFewRow.laid w) false (World.doorLaid Tryd.prog 400 os) #[.int .u8 0, .int .u64 0, .int .u64 0] 8 rfl (World.shaped_of_RefB (by kernel_rfl) (by kernel_rfl)) (by kernel_rfl) (by kernel_rfl) (by kernel_rfl) (door_met os _)) ?_
  intro W base args ds gs before hval0 hW _ _ hL _
  have hval : ∀ (j : Nat) t v, Tryd.f4.params[j]? = some t → args[j]? = some v → Value.okWide Tryd.prog W .any base t v := hval0
  have hW' := hW
  obtain ⟨p, q, hA0, hV, rfl, hfz, hnd⟩ := hW
  have hA : DataW.TrodAll enc Tryd.prog W 0 (fun _ => true) true Tryd.f4.params.toList args.toList ds p := hA0
  rw [Tryd.params4] at hA hval
  obtain ⟨v0, vs0, d0, ds0, p0, q0, hargs, rfl, rfl, h0, r0⟩ := trodAll_cons hA
  obtain ⟨v1, vs1, d1, ds1, p1, q1, rfl, rfl, rfl, h1, r1⟩ := trodAll_cons r0
  obtain ⟨v2, vs2, d2, ds2, p2, q2, rfl, rfl, rfl, h2, r2⟩ := trodAll_cons r1
  obtain ⟨rfl, rfl, rfl⟩ := trodAll_nil r2
  obtain rfl : args = #[v0, v1, v2] := by cases args; simp_all
  obtain ⟨rfl, rfl⟩ := trodVars_none hV
  obtain ⟨n0, rfl, rfl, rfl, w0⟩ := open_int Tryd.underlying22 (hval 0 22 v0 rfl rfl) h0
  have hw0 : 0 ≤ n0 ∧ n0 ≤ 255 := by simpa [Lit.wf, IntKind.min, IntKind.max, IntKind.signed, IntKind.bits] using w0
  obtain ⟨a0, rfl⟩ : ∃ a : Nat, n0 = (a : Int) := ⟨n0.toNat, by rw [Int.toNat_of_nonneg hw0.1]⟩
  obtain ⟨n1, rfl, rfl, rfl, w1⟩ := open_int Tryd.underlying23 (hval 1 23 v1 rfl rfl) h1
  have hw1 : 0 ≤ n1 ∧ n1 ≤ 18446744073709551615 := by simpa [Lit.wf, IntKind.min, IntKind.max, IntKind.signed, IntKind.bits] using w1
  obtain ⟨a1, rfl⟩ : ∃ a : Nat, n1 = (a : Int) := ⟨n1.toNat, by rw [Int.toNat_of_nonneg hw1.1]⟩
  obtain ⟨n2, rfl, rfl, rfl, w2⟩ := open_int Tryd.underlying23 (hval 2 23 v2 rfl rfl) h2
  have hw2 : 0 ≤ n2 ∧ n2 ≤ 18446744073709551615 := by simpa [Lit.wf, IntKind.min, IntKind.max, IntKind.signed, IntKind.bits] using w2
  obtain ⟨a2, rfl⟩ : ∃ a : Nat, n2 = (a : Int) := ⟨n2.toNat, by rw [Int.toNat_of_nonneg hw2.1]⟩
  clear hA0 hval0
  refine (few_any a0 a1 a2 (by omega) (by omega) (by omega) W (of_laid hL)).mono fun e W' ⟨he, bel⟩ => ?_
  subst he
  exact ⟨_, rfl, _, _, _, [], _, [], hW', trodAll_mk1 (shut_bool Tryd.underlying4 _), (trodAll_cons_mk (shut_int Tryd.underlying22 w0) (trodAll_cons_mk (shut_int Tryd.underlying23 w1) (trodAll_cons_mk (shut_int Tryd.underlying23 w2) trodAll_mk0))), rfl, bel.frame _, fun h => by cases h⟩

theorem said : Rows.ExactFewSaid :=
  OpenClaim.holds_of_wide 4 Tryd.f4 rfl rfl rfl rfl rfl rfl rfl ⟨rfl, rfl, rfl, rfl, rfl⟩ rfl rfl rfl rfl rfl (by kernel_rfl) Tryd.func4 (by kernel_rfl)
    (of_decide_eq_true (by kernel_rfl)) (by unfold Func.isWrapper; first | (rw [if_pos (by decide +kernel)]; kernel_rfl) | (rw [if_neg (by decide +kernel)]; exact ⟨rfl, rfl⟩))
    (fun os started H enc _ => lifted os started H enc)

theorem holds : Rows.ExactFewCardSaid :=
  Claim7.holds_tied_plain_at .later [] [.data] true (true, "fe5556957101ca0be7292b19a89a04f9dae970be42226f72eb7fb443e5c22f9f") false
    said (fun _ h => by cases h) (by kernel_rfl) (fun _ h => by cases h) exactFew_row_tie rfl ⟨rfl, rfl⟩ (by kernel_rfl) rfl
    (fun f fn hf hfn => by
      obtain rfl : f = 4 := Option.some.inj ((show Tryd.prog.funcNamed "ulp/ulplaw23.ExactFew" = some 4 by kernel_rfl).symm.trans hf) |>.symm
      obtain rfl : fn = Tryd.f4 := (Option.some.inj (Tryd.func4.symm.trans hfn)).symm
      exact ⟨by kernel_rfl, fun j t ht => by
        rw [Tryd.params4] at ht
        have h3 : t = 22 ∨ t = 23 := by
          rcases j with _ | _ | _ | j
          · first | exact (by simpa using ht.symm) | exact .inl (by simpa using ht.symm) | exact .inr (by simpa using ht.symm)
          · first | exact (by simpa using ht.symm) | exact .inl (by simpa using ht.symm) | exact .inr (by simpa using ht.symm)
          · first | exact (by simpa using ht.symm) | exact .inl (by simpa using ht.symm) | exact .inr (by simpa using ht.symm)
          · simp at ht
        rcases h3 with rfl | rfl
        · exact (show Tryd.prog.wantsStandIn 22 = false by kernel_rfl)
        · exact (show Tryd.prog.wantsStandIn 23 = false by kernel_rfl)⟩)
    (by kernel_rfl)
end Go.Proofs.YtgpjplelgffocaaDoor.exactFew
