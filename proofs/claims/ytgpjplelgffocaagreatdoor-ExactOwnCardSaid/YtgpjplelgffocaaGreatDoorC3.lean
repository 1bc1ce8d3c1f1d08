/- Part 3 of the library of this claim: what the program and the document compute, as contracts of their functions. -/
import Derived.Test.YtgpjplelgffocaaGreatDoorC2
import Derived.MapKept
import Derived.Carry
set_option maxRecDepth 100000
set_option maxHeartbeats 8000000
namespace Go.Proofs.YtgpjplelgffocaaGreatDoor
open Go.RowKit Go.Proofs.YtgpjplelgffocaaGreatDoorW.PrintWords Limb
set_option linter.unusedVariables false
set_option linter.unusedSimpArgs false

theorem ten_small {i : Nat} (h : i ≤ 60) : ((10 : Int) ^ i).natAbs < 2 ^ 300 := by
 rw [Int.natAbs_pow]
 calc (10 : Int).natAbs ^ i ≤ 16 ^ i := Nat.pow_le_pow_left (by decide) i
  _ ≤ 16 ^ 60 := Nat.pow_le_pow_right (by decide) h
  _ < 2 ^ 250 := by decide
  _ ≤ 2 ^ 300 := pow_le2 250 300 (by decide)
theorem meas_int {i k : Nat} (h : i < k) : k - (intOf (.int .i64 ((i : Int) + 1))).toNat < k - (intOf (.int .i64 (i : Int))).toNat := by simp [intOf]; omega
def tenI (i : Nat) : Int := 10 ^ i
theorem tenI_small {i : Nat} (h : i ≤ 60) : (tenI i).natAbs < 2 ^ 300 := ten_small h
theorem tenI_succ (i : Nat) : tenI i * 10 = tenI (i + 1) := (Int.pow_succ 10 i).symm
theorem tenI_zero : tenI 0 = 1 := rfl
theorem ten_any (k : Nat) (hk : k ≤ 50) (w : World) (hT : TabAt 0 Lib.deBruijn64tab w) :
 Calls Tryz.prog 68 #[.int .i64 k] w fun en w' => ∃ v', en = .returned v' ∧ PDy w' w.heap.size v' (tenI k) 0 ∧ Below w.heap.size w w' := by
 have HT := yk hT
 have HK := yk hk
 have O10 := yk (Ok.of (z := 10) (e := 0) 4 (by decide) (by decide) (by decide) (by decide))
 have QM := yk (fun (i : Nat) (v : Value) (b : Nat) (W : World) (h : PDy W b v (tenI i * 10) (0 + 0)) => (by
  rw [← tenI_succ]; exact h : PDy W b v (tenI (i + 1)) 0))
 clear hT hk
 go_enter Tryz.func68, Tryz.ntmps68
 obtain ⟨BEL, XR⟩ := al1 w 1 #[.bool false, .slice none 0 0, .int .i64 0] 27
 go_wp2_with fail
 go_at_call 52
 refine (pint_dy 1 _ (by decide) (by decide) (tab_below HT.out BEL.out.1)).mono ?_
 rintro en1 w1 ⟨v1, rfl, hr, hb⟩
 replace BEL := yk (BEL.out.next hb)
 replace XR := yk (yb XR.out hb)
 have P1 := yk hr
 obtain ⟨b1, A1, n1, c1, x1, rfl⟩ := hr.ex
 clear hr hb
 have BELo := BEL
 go_wp2_with (replace BEL := yk ((BEL.out.alloc (.cells #[.bool false, .slice none 0 0, .int .i64 0] 27)).less (j := 1) (by omega)); have HN := yk (blk_new w1 (.cells #[.bool false, .slice none 0 0, .int .i64 0] 27)); have L_XR := lt_blk XR.out; replace XR := yk (blk_alloc XR.out (.cells #[.bool false, .slice none 0 0, .int .i64 0] 27)); replace P1 := yk (P1.out.below (below_alloc yr (.cells #[.bool false, .slice none 0 0, .int .i64 0] 27))); ((with_reducible refine gate_store (p := 3) rfl ?_); go_must (refine sdy 3 (.tmp 4) rfl rfl rfl rfl rfl HN.out rfl ?_; intro wb HX HG)); replace P1 := yk (P1.out.grown_box HN.out (by decide) HG.out); have LB_X1 := BELo.out.2; replace BEL := yk (BEL.out.grown HG.out (Nat.le_trans (Nat.le_add_right _ _) LB_X1)); replace XR := yk (blk_grown XR.out HG.out (Nat.ne_of_lt L_XR)); have NE_XR_X1 := yk (Nat.ne_of_lt L_XR); clear L_XR; have LL_X1 := yk LB_X1; clear LB_X1; have X1 := HX; clear HG HN HX)
 go_loopw [6] (fun v6 wr => ∃ (i : Nat) (b : Bool) (A : Option Addr) (n c : Nat) (x : Int), v6 = .int .i64 i ∧ i ≤ k ∧ Aside0 (BelN w 1 wr) ∧ Aside0 (wr.heap[w.heap.size]? = some (.cells #[.bool false, .slice none 0 0, .int .i64 0] 27 (0, 0))) ∧ Aside0 (wr.heap[w1.heap.size]? = some (.cells #[.bool b, .slice A n c, .int .i64 x] 27 (0, 0))) ∧ Aside0 (PDy wr (w.heap.size + 1) (.agg #[.bool b, .slice A n c, .int .i64 x]) (tenI i) 0)) (fun v6 _ => k - (intOf v6).toNat)
 case atStart => exact ⟨0, _, _, _, _, _, rfl, Nat.zero_le _, BEL, XR, X1, ⟨by rw [tenI_zero]; exact P1.out.lower (by rw [size_alloc']; exact Nat.le_refl _)⟩⟩
 case round =>
  clear BEL BELo XR X1 P1
  obtain ⟨i, b, A, n, c, x, rfl, hik, BEL, XR, X1, P1⟩ := hrel
  by_cases hlt : i < k
  · have hlt' : (i : Int) < k := by omega
    have hld : decide ((i : Int) < k) = true := decide_eq_true hlt'
    have OI := yk (Ok.of (e := 0) _ (tenI_small (i := i) (by have := HK.out; omega)) (by decide) (by decide) (by decide))
    go_upto_region 4 with fail
    obtain ⟨GM, hGM⟩ : ∃ G : (Nat → Prop) → (Nat → Value) → World → Prop, G = fun L v W => BelN w 1 W ∧ W.heap[w.heap.size]? = some (.cells #[.bool false, .slice none 0 0, .int .i64 0] 27 (0, 0)) ∧ PDy W (w.heap.size + 1) (.agg #[.bool b, .slice A n c, .int .i64 x]) (tenI i) 0 ∧ (L 0 → (v 0) = .agg #[.bool b, .slice A n c, .int .i64 x]) ∧ (L 1 → PDy W w.heap.size (v 1) 10 0) ∧ (L 2 → PDy W (w.heap.size + 1) (v 2) (tenI (i + 1)) 0) ∧ ((¬ L 3 → W.heap[w1.heap.size]? = some (.cells #[.bool b, .slice A n c, .int .i64 x] 27 (0, 0))) ∧ (L 3 → ∃ (bb : Bool) (A : Option Addr) (n c : Nat) (x : Int), (v 2) = .agg #[.bool bb, .slice A n c, .int .i64 x] ∧ W.heap[w1.heap.size]? = some (.cells #[.bool bb, .slice A n c, .int .i64 x] 27 (0, 0)))) := ⟨_, rfl⟩
    refine wp_region_slotsV [8, 9, 10] (by kernel_rfl) (by kernel_rfl) (G := GM) ?h0M ?hstepM ?hendM
    case h0M =>
     intro v; rw [hGM]
     exact ⟨BEL.out.next (below_drew yr), blk_drew XR.out, P1.out.below (below_drew yr), fun h => h.elim, fun h => h.elim, fun h => h.elim, ⟨fun _ => blk_drew X1.out, fun h => h.elim⟩⟩
    case hstepM =>
     intro k o ho v W L hGv hnk haft hcl K hK
     rw [hGM] at hGv
     obtain ⟨hB, hb0, hk0, f0, f1, f2, f3⟩ := hGv
     rcases k with _ | _ | _ | _ | k
     all_goals first
      | (cases ho; done)
      | (obtain rfl := (Option.some.inj ho).symm
         clear ho
         rw [if_pos (by rfl)]
         simp only [setAll, List.setIfInBounds_toArray, List.set_cons_zero, List.set_cons_succ, List.set_nil, List.getElem_toArray, List.getElem_cons_zero, List.getElem_cons_succ, Nat.reduceAdd] at haft hK ⊢)
     ·
      have hgb := f3.1 (fun h => hnk (hcl 3 _ rfl h ⟨0, .phase⟩ (by simp) rfl))
      have cc0 := (box_cell (v := .bool b) hgb 0 rfl).1
      have cc1 := (box_cell (v := .slice A n c) hgb 1 rfl).1
      have cc2 := (box_cell (v := .int .i64 x) hgb 2 rfl).1
      have hb := yw W
      have key := hK.out (.agg #[.bool b, .slice A n c, .int .i64 x]) W (by rw [hGM]; exact ⟨hB.next hb, yb hb0 hb, hk0.below hb, yu, (kD f1 hb), (kD f2 hb), (⟨fun h2 => yb (f3.1 (fun h3 => h2 (.inl h3))) hb, fun h2 => by rw [upd_ne v _ (by decide)]; obtain ⟨bb, A, n, c, x, y1, y2⟩ := f3.2 (yx h2); exact ⟨bb, A, n, c, x, y1, yb y2 hb⟩⟩)⟩)
      clear hb0 hk0 f0 f1 f2 f3 hb hK
      go_simp
      simpa [upd] using key
     ·
      have HALL := yk (ya hK (ya hB (ya hb0 ( ya hk0 ( ya f0 ( ya f1 ( ya f2 ( ya f3 (True.intro)))))))))
      clear hK hb0 hk0 f0 f1 f2 f3
      go_simp
      go_at_call 52
      refine (pint_dy 10 _ (by decide) (by decide) (tab_below HT.out hB.1)).mono ?_
      rintro en w4 ⟨v1, rfl, hr, hb⟩
      obtain ⟨hK, hB, hb0, hk0, f0, f1, f2, f3, _⟩ := HALL.out
      have key := hK.out (v1) w4 (by rw [hGM]; exact ⟨hB.next hb, yb hb0 hb, hk0.below hb, (kV f0), fun _ => by rw [upd_eq]; exact hr.lower (lw hB.2), (kD f2 hb), (⟨fun h2 => yb (f3.1 (fun h3 => h2 (.inl h3))) hb, fun h2 => by rw [upd_ne v _ (by decide)]; obtain ⟨bb, A, n, c, x, y1, y2⟩ := f3.2 (yx h2); exact ⟨bb, A, n, c, x, y1, yb y2 hb⟩⟩)⟩)
      clear hb0 hk0 f0 f1 f2 f3 hK HALL
      simpa [upd] using key
     ·
      have hns3 : ¬ L 3 := fun hs => hnk (hcl 3 _ rfl hs ⟨2, .data⟩ (by simp) rfl)
      have d0 := f0 (haft ⟨0, .data⟩ (by simp) rfl)
      have D0 := d0
      have d1 := f1 (haft ⟨1, .data⟩ (by simp) rfl)
      have D1 := d1
      have K1 := hk0
      have HALL := yk (ya hK (ya hB (ya hb0 ( ya hk0 ( ya f0 ( ya f1 ( ya f2 ( ya f3 (True.intro)))))))))
      clear hK hb0 hk0 f0 f1 f2 f3
      go_simp
      go_at_call 95
      refine (mul_ok K1.c d1.c OI.out O10.out (tab_below HT.out hB.1)).mono ?_
      rintro en w4 ⟨v1, rfl, hr, hb⟩
      obtain ⟨hK, hB, hb0, hk0, f0, f1, f2, f3, _⟩ := HALL.out
      have key := hK.out (v1) w4 (by rw [hGM]; exact ⟨hB.next hb, yb hb0 hb, hk0.below hb, (kV f0), (kD f1 hb), fun _ => by rw [upd_eq]; exact (QM.out _ _ _ _ hr).lower hB.2, (⟨fun h2 => yb (f3.1 (fun h3 => h2 (.inl h3))) hb, fun h2 => (hns3 (yx h2)).elim⟩)⟩)
      clear hb0 hk0 f0 f1 f2 f3 hK HALL
      simpa [upd, D0] using key
     ·
      have h_n := NE_XR_X1.out
      have h_l := LL_X1.out
      have hgb := f3.1 hnk
      have ds := f2 (haft ⟨2, .data⟩ (by simp) rfl)
      obtain ⟨bb, A, n, c, x, es⟩ := ds.ex
      refine wp_store_box 27 3 (.tmp 10) rfl rfl (g := w1.heap.size) (e := 27) (v 2) [.bool bb, .slice A n c, .int .i64 x] (by first | rfl | exact rfl) rfl (by rw [es]; rfl) info_dyad ?_ hgb rfl ?_
      · intro q hq; simp at hq; rcases hq with rfl | rfl | rfl <;> rfl
      · intro w1 hw1 hg
        have key := hK.out undef w1 (by rw [hGM]; exact ⟨hB.grown hg (by omega), blk_grown hb0 hg (by omega), hk0.grown_box hgb (by decide) hg, (kV f0), (kG f1 hgb hg), (kG f2 hgb hg), ⟨fun h => (h (.inr rfl)).elim, fun _ => by rw [upd_ne v _ (by decide)]; exact ⟨bb, A, n, c, x, es, hw1⟩⟩⟩)
        clear hb0 hk0 f0 f1 f2 f3 hK
        simpa [upd] using key
    case hendM =>
     intro v W L0 hall hGv
     rw [hGM] at hGv
     obtain ⟨hB, hb0, hk0, f0, f1, f2, f3⟩ := hGv
     have d2 := f2 (hall 2 (by decide))
     obtain ⟨b9, A9, n9, c9, x9, p9, hx9⟩ := f3.2 (hall 3 (by decide))
     rw [p9] at d2
     replace BEL := yk hB
     replace XR := yk hb0
     replace X1 := yk hx9
     replace P1 := yk d2
     clear hall f0 f1 f2 f3 hB hb0 hk0 d2 hx9
     simp only [setAll, List.setIfInBounds_toArray, List.set_cons_zero, List.set_cons_succ, Nat.reduceAdd, p9]
     have hw : wrap64 ((i : Int) + 1) = (i : Int) + 1 := by unfold wrap64; have := HK.out; omega
     go_wp2
     go_roundw
     case rel => exact ⟨i + 1, _, _, _, _, _, by go_num, hlt, BEL, XR, X1, P1⟩
     case measure => rw [hw]; exact meas_int hlt
  · have hlt' : ¬ (i : Int) < k := by omega
    have hld : decide ((i : Int) < k) = false := decide_eq_false hlt'
    have he : i = k := by omega
    obtain ⟨q0, q0', q1, q1', q2, q2'⟩ := bc3 X1.out
    go_wp2_with (clear q0 q0' q1 q1' q2 q2'; ((with_reducible refine gate_store (p := 2) rfl ?_); go_must (refine sdy 2 (.tmp 12) rfl rfl rfl rfl rfl XR.out rfl ?_; intro wb HX HG)); replace P1 := yk (P1.out.grown_box XR.out (by decide) HG.out); replace BEL := yk (BEL.out.grown HG.out (by omega)); replace X1 := yk (blk_grown X1.out HG.out (Ne.symm NE_XR_X1.out)); replace XR := HX; clear HG)
    refine bodyPost_ret (results_dyad rfl _ _ (w.heap.size) _ rfl XR.out rfl) rfl ?_
    rw [← he]
    exact ⟨_, rfl, P1.out.lower (Nat.le_add_right _ _), BEL.out.1⟩

theorem spotOf_any {v : Value} {z : Int} {w : World} (h : CDy w v z (-1074)) (hz : z.natAbs < 2 ^ 2098) (hT : TabAt 0 Lib.deBruijn64tab w) :
 Calls Tryz.prog 53 #[v] w fun en w' => ∃ v', en = .returned v' ∧ PS w' w.heap.size v' (nearF z 1072 % 4) (z - nearF z 1072 * 2 ^ 1073) (-1074) ∧ Below w.heap.size w w' := by
 obtain ⟨b0, A, n0, c, x0, rfl⟩ := h.ex
 have QT := yk (fun (W : World) (hb : Below w.heap.size w W) => turns_ok (h.below hb) hz (tab_below hT hb))
 clear h hz hT
 generalize nearF z 1072 % 4 = q at *
 generalize z - nearF z 1072 * 2 ^ 1073 = r at *
 go_enter Tryz.func53, Tryz.ntmps53
 obtain ⟨BEL, X0, XR⟩ := al2 w 2 #[.bool b0, .slice A n0 c, .int .i64 x0] 27 #[.int .i64 0, .bool false, .slice none 0 0, .int .i64 0] 65
 obtain ⟨q0, q0', q1, q1', q2, q2'⟩ := bc3 X0.out
 go_wp2_with fail
 have BLW := BEL
 clear q0 q0' q1 q1' q2 q2'
 go_at_call 90
 refine (QT.out _ BEL.out.1).mono ?_
 rintro en1 w1 ⟨v1, rfl, hr, hb⟩
 replace BEL := yk (BEL.out.next hb)
 replace X0 := yk (yb X0.out hb)
 replace XR := yk (yb XR.out hb)
 have P1 := yk hr
 obtain ⟨b1, A1, n1, c1, x1, rfl⟩ := hr.ex
 clear hr hb
 have BELo := BEL
 go_wp2_with (first | (replace BEL := yk ((BEL.out.alloc (.cells #[.bool false, .slice none 0 0, .int .i64 0] 27)).less (j := 2) (by omega)); have HN := yk (blk_new w1 (.cells #[.bool false, .slice none 0 0, .int .i64 0] 27)); have L_X0 := lt_blk X0.out; replace X0 := yk (blk_alloc X0.out (.cells #[.bool false, .slice none 0 0, .int .i64 0] 27)); have L_XR := lt_blk XR.out; replace XR := yk (blk_alloc XR.out (.cells #[.bool false, .slice none 0 0, .int .i64 0] 27)); replace P1 := yk (P1.out.below (below_alloc yr (.cells #[.bool false, .slice none 0 0, .int .i64 0] 27))); ((with_reducible refine gate_store (p := 4) rfl ?_); go_must (refine sdy 4 (.tmp 10) rfl rfl rfl rfl rfl HN.out rfl ?_; intro wb HX HG)); replace P1 := yk (P1.out.grown_box HN.out (by decide) HG.out); have LB_XL := BELo.out.2; replace BEL := yk (BEL.out.grown HG.out (Nat.le_trans (Nat.le_add_right _ _) LB_XL)); replace X0 := yk (blk_grown X0.out HG.out (Nat.ne_of_lt L_X0)); replace XR := yk (blk_grown XR.out HG.out (Nat.ne_of_lt L_XR)); have NE_X0_XL := yk (Nat.ne_of_lt L_X0); have NE_XR_XL := yk (Nat.ne_of_lt L_XR); clear L_X0; clear L_XR; have LL_XL := yk LB_XL; clear LB_XL; have XL := HX; clear HG HN HX; obtain ⟨q3, q3', q4, q4', q5, q5'⟩ := bc3 XL.out) | (clear q3 q3' q4 q4' q5 q5'; ((with_reducible refine gate_store (p := 2) rfl ?_); go_must (refine store_box 65 2 (.tmp 14) rfl rfl rfl (g := w.heap.size + 1) (e := 65) (.agg #[.int .i64 q, .bool b1, .slice A1 n1 c1, .int .i64 x1]) ([.int .i64 q, .bool b1, .slice A1 n1 c1, .int .i64 x1]) rfl rfl rfl info_spot ?b1 XR.out rfl ?_; (case b1 => intro q hq; simp at hq; rcases hq with rfl | rfl | rfl | rfl <;> rfl); intro wb hbx hgx; have HX := yk hbx; have HG := yk hgx; clear hbx hgx)); replace P1 := yk (P1.out.grown_box XR.out (by decide) HG.out); replace BEL := yk (BEL.out.grown HG.out (by omega)); replace X0 := yk (blk_grown X0.out HG.out (by omega)); replace XL := yk (blk_grown XL.out HG.out (Ne.symm NE_XR_XL.out)); replace XR := HX; clear HG))
 refine bodyPost_ret (results_spot rfl _ _ (w.heap.size + 1) _ rfl XR.out rfl) rfl ?_
 exact ⟨_, rfl, (PS.of P1.out).lower (lw BLW.out.2), BEL.out.1⟩

def sel (l0 l1 l2 l3 k : Int) : Int := if k = 0 then l0 else if k = 1 then l1 else if k = 2 then l2 else l3
theorem on_any {v : Value} {k r : Int} {b : Nat} {w : World} (l0 l1 l2 l3 : Int) (h : PS w b v k r (-1074)) (o : Ok r (-1074)) (hk : k = 0 ∨ k = 1 ∨ k = 2 ∨ k = 3)
 (e0 : l0.natAbs < 2 ^ 62) (e1 : l1.natAbs < 2 ^ 62) (e2 : l2.natAbs < 2 ^ 62) (e3 : l3.natAbs < 2 ^ 62) (hT : TabAt 0 Lib.deBruijn64tab w) :
 Calls Tryz.prog 73 #[v, .agg #[.int .i64 l0, .int .i64 l1, .int .i64 l2, .int .i64 l3]] w fun en w' => ∃ v', en = .returned v' ∧ PT w' w.heap.size v' (if r = 0 then sel l0 l1 l2 l3 k else 0) 0 (decide (r = 0)) ∧ Below w.heap.size w w' := by
 obtain ⟨b0, A, n0, c, x0, rfl⟩ := h.ex5
 have HT := yk hT
 have OO := yk o
 have E0 := yk (ya (show -9223372036854775808 ≤ l0 by omega) (show l0 < 9223372036854775808 by omega))
 have E1 := yk (ya (show -9223372036854775808 ≤ l1 by omega) (show l1 < 9223372036854775808 by omega))
 have E2 := yk (ya (show -9223372036854775808 ≤ l2 by omega) (show l2 < 9223372036854775808 by omega))
 have E3 := yk (ya (show -9223372036854775808 ≤ l3 by omega) (show l3 < 9223372036854775808 by omega))
 have HCD := yk h.d.1.c
 clear h o hT e0 e1 e2 e3
 go_enter Tryz.func73, Tryz.ntmps73
 obtain ⟨BEL, X0, XA, XR⟩ := al3 w 3 #[.int .i64 k, .bool b0, .slice A n0 c, .int .i64 x0] 65 #[.int .i64 l0, .int .i64 l1, .int .i64 l2, .int .i64 l3] 90 #[.bool false, .slice none 0 0, .int .i64 0, .bool false] 40
 obtain ⟨q0, q0', q1, q1', q2, q2', q3, q3'⟩ := bc4 X0.out
 obtain ⟨q4, q4', q5, q5', q6, q6', q7, q7'⟩ := bc4 XA.out
 go_wp2_with fail
 clear q0 q0' q1 q1' q2 q2' q3 q3' q4 q4' q5 q5' q6 q6' q7 q7'
 go_at_call 27
 refine (zero_ok (HCD.out.below BEL.out.1) OO.out).mono ?_
 rintro en1 w1 ⟨rfl, hb⟩
 replace BEL := yk (BEL.out.next hb)
 replace X0 := yk (yb X0.out hb)
 replace XA := yk (yb XA.out hb)
 replace XR := yk (yb XR.out hb)
 clear hb
 by_cases hr0 : r = 0
 case neg =>
  have hd : decide (r = 0) = false := decide_eq_false hr0
  go_wp2_with (((with_reducible refine gate_store (p := 4) rfl ?_); go_must (refine store_box 40 4 (.tmp 9) rfl rfl rfl (g := w.heap.size + 1 + 1) (e := 40) (.agg #[.bool false, .slice none 0 0, .int .i64 0, .bool false]) ([.bool false, .slice none 0 0, .int .i64 0, .bool false]) rfl rfl rfl info_told ?b1 XR.out rfl ?_; (case b1 => intro q hq; simp at hq; rcases hq with rfl | rfl | rfl | rfl <;> rfl); intro wb hbx hgx; have HX := yk hbx; have HG := yk hgx; clear hbx hgx)); replace BEL := yk (BEL.out.grown HG.out (by omega)); replace X0 := yk (blk_grown X0.out HG.out (by omega)); replace XA := yk (blk_grown XA.out HG.out (by omega)); replace XR := HX; clear HG)
  refine bodyPost_ret (results_told rfl _ _ (w.heap.size + 1 + 1) _ rfl XR.out rfl) rfl ?_
  try rw [if_neg hr0, decide_eq_false hr0]
  exact ⟨_, rfl, PT.none _ _ _, BEL.out.1⟩
 case pos =>
  have hd : decide (r = 0) = true := decide_eq_true hr0
  rcases hk with rfl | rfl | rfl | rfl
  · skip
    obtain ⟨q8, q8', q9, q9', q10, q10', q11, q11'⟩ := bc4 X0.out
    obtain ⟨q12, q12', q13, q13', q14, q14', q15, q15'⟩ := bc4 XA.out
    go_wp2_with fail
    clear q8 q8' q9 q9' q10 q10' q11 q11' q12 q12' q13 q13' q14 q14' q15 q15'
    go_at_call 32
    refine (whole_any l0 _ E0.out.1 E0.out.2 (tab_below HT.out BEL.out.1)).mono ?_
    have BLW := BEL
    rintro en2 w2 ⟨v2, rfl, hr, hb⟩
    replace BEL := yk (BEL.out.next hb)
    replace X0 := yk (yb X0.out hb)
    replace XA := yk (yb XA.out hb)
    replace XR := yk (yb XR.out hb)
    have P1 := yk hr
    obtain ⟨b2, A2, n2, c2, x2, rfl⟩ := hr.ex5
    clear hr hb
    go_wp2_with (((with_reducible refine gate_store (p := 4) rfl ?_); go_must (refine store_box 40 4 (.tmp 14) rfl rfl rfl (g := w.heap.size + 1 + 1) (e := 40) (.agg #[.bool b2, .slice A2 n2 c2, .int .i64 x2, .bool true]) ([.bool b2, .slice A2 n2 c2, .int .i64 x2, .bool true]) rfl rfl rfl info_told ?b1 XR.out rfl ?_; (case b1 => intro q hq; simp at hq; rcases hq with rfl | rfl | rfl | rfl <;> rfl); intro wb hbx hgx; have HX := yk hbx; have HG := yk hgx; clear hbx hgx)); replace P1 := yk (P1.out.grown_box XR.out (by decide) HG.out); replace BEL := yk (BEL.out.grown HG.out (by omega)); replace X0 := yk (blk_grown X0.out HG.out (by omega)); replace XA := yk (blk_grown XA.out HG.out (by omega)); replace XR := HX; clear HG)
    refine bodyPost_ret (results_told rfl _ _ (w.heap.size + 1 + 1) _ rfl XR.out rfl) rfl ?_
    try rw [if_pos hr0, decide_eq_true hr0]
    exact ⟨_, rfl, P1.out.lower (lw BLW.out.2), BEL.out.1⟩
  · skip
    obtain ⟨q8, q8', q9, q9', q10, q10', q11, q11'⟩ := bc4 X0.out
    obtain ⟨q12, q12', q13, q13', q14, q14', q15, q15'⟩ := bc4 XA.out
    go_wp2_with fail
    clear q8 q8' q9 q9' q10 q10' q11 q11' q12 q12' q13 q13' q14 q14' q15 q15'
    go_at_call 32
    refine (whole_any l1 _ E1.out.1 E1.out.2 (tab_below HT.out BEL.out.1)).mono ?_
    have BLW := BEL
    rintro en2 w2 ⟨v2, rfl, hr, hb⟩
    replace BEL := yk (BEL.out.next hb)
    replace X0 := yk (yb X0.out hb)
    replace XA := yk (yb XA.out hb)
    replace XR := yk (yb XR.out hb)
    have P1 := yk hr
    obtain ⟨b2, A2, n2, c2, x2, rfl⟩ := hr.ex5
    clear hr hb
    go_wp2_with (((with_reducible refine gate_store (p := 4) rfl ?_); go_must (refine store_box 40 4 (.tmp 14) rfl rfl rfl (g := w.heap.size + 1 + 1) (e := 40) (.agg #[.bool b2, .slice A2 n2 c2, .int .i64 x2, .bool true]) ([.bool b2, .slice A2 n2 c2, .int .i64 x2, .bool true]) rfl rfl rfl info_told ?b1 XR.out rfl ?_; (case b1 => intro q hq; simp at hq; rcases hq with rfl | rfl | rfl | rfl <;> rfl); intro wb hbx hgx; have HX := yk hbx; have HG := yk hgx; clear hbx hgx)); replace P1 := yk (P1.out.grown_box XR.out (by decide) HG.out); replace BEL := yk (BEL.out.grown HG.out (by omega)); replace X0 := yk (blk_grown X0.out HG.out (by omega)); replace XA := yk (blk_grown XA.out HG.out (by omega)); replace XR := HX; clear HG)
    refine bodyPost_ret (results_told rfl _ _ (w.heap.size + 1 + 1) _ rfl XR.out rfl) rfl ?_
    try rw [if_pos hr0, decide_eq_true hr0]
    exact ⟨_, rfl, P1.out.lower (lw BLW.out.2), BEL.out.1⟩
  · skip
    obtain ⟨q8, q8', q9, q9', q10, q10', q11, q11'⟩ := bc4 X0.out
    obtain ⟨q12, q12', q13, q13', q14, q14', q15, q15'⟩ := bc4 XA.out
    go_wp2_with fail
    clear q8 q8' q9 q9' q10 q10' q11 q11' q12 q12' q13 q13' q14 q14' q15 q15'
    go_at_call 32
    refine (whole_any l2 _ E2.out.1 E2.out.2 (tab_below HT.out BEL.out.1)).mono ?_
    have BLW := BEL
    rintro en2 w2 ⟨v2, rfl, hr, hb⟩
    replace BEL := yk (BEL.out.next hb)
    replace X0 := yk (yb X0.out hb)
    replace XA := yk (yb XA.out hb)
    replace XR := yk (yb XR.out hb)
    have P1 := yk hr
    obtain ⟨b2, A2, n2, c2, x2, rfl⟩ := hr.ex5
    clear hr hb
    go_wp2_with (((with_reducible refine gate_store (p := 4) rfl ?_); go_must (refine store_box 40 4 (.tmp 14) rfl rfl rfl (g := w.heap.size + 1 + 1) (e := 40) (.agg #[.bool b2, .slice A2 n2 c2, .int .i64 x2, .bool true]) ([.bool b2, .slice A2 n2 c2, .int .i64 x2, .bool true]) rfl rfl rfl info_told ?b1 XR.out rfl ?_; (case b1 => intro q hq; simp at hq; rcases hq with rfl | rfl | rfl | rfl <;> rfl); intro wb hbx hgx; have HX := yk hbx; have HG := yk hgx; clear hbx hgx)); replace P1 := yk (P1.out.grown_box XR.out (by decide) HG.out); replace BEL := yk (BEL.out.grown HG.out (by omega)); replace X0 := yk (blk_grown X0.out HG.out (by omega)); replace XA := yk (blk_grown XA.out HG.out (by omega)); replace XR := HX; clear HG)
    refine bodyPost_ret (results_told rfl _ _ (w.heap.size + 1 + 1) _ rfl XR.out rfl) rfl ?_
    try rw [if_pos hr0, decide_eq_true hr0]
    exact ⟨_, rfl, P1.out.lower (lw BLW.out.2), BEL.out.1⟩
  · skip
    obtain ⟨q8, q8', q9, q9', q10, q10', q11, q11'⟩ := bc4 X0.out
    obtain ⟨q12, q12', q13, q13', q14, q14', q15, q15'⟩ := bc4 XA.out
    go_wp2_with fail
    clear q8 q8' q9 q9' q10 q10' q11 q11' q12 q12' q13 q13' q14 q14' q15 q15'
    go_at_call 32
    refine (whole_any l3 _ E3.out.1 E3.out.2 (tab_below HT.out BEL.out.1)).mono ?_
    have BLW := BEL
    rintro en2 w2 ⟨v2, rfl, hr, hb⟩
    replace BEL := yk (BEL.out.next hb)
    replace X0 := yk (yb X0.out hb)
    replace XA := yk (yb XA.out hb)
    replace XR := yk (yb XR.out hb)
    have P1 := yk hr
    obtain ⟨b2, A2, n2, c2, x2, rfl⟩ := hr.ex5
    clear hr hb
    go_wp2_with (((with_reducible refine gate_store (p := 4) rfl ?_); go_must (refine store_box 40 4 (.tmp 14) rfl rfl rfl (g := w.heap.size + 1 + 1) (e := 40) (.agg #[.bool b2, .slice A2 n2 c2, .int .i64 x2, .bool true]) ([.bool b2, .slice A2 n2 c2, .int .i64 x2, .bool true]) rfl rfl rfl info_told ?b1 XR.out rfl ?_; (case b1 => intro q hq; simp at hq; rcases hq with rfl | rfl | rfl | rfl <;> rfl); intro wb hbx hgx; have HX := yk hbx; have HG := yk hgx; clear hbx hgx)); replace P1 := yk (P1.out.grown_box XR.out (by decide) HG.out); replace BEL := yk (BEL.out.grown HG.out (by omega)); replace X0 := yk (blk_grown X0.out HG.out (by omega)); replace XA := yk (blk_grown XA.out HG.out (by omega)); replace XR := HX; clear HG)
    refine bodyPost_ret (results_told rfl _ _ (w.heap.size + 1 + 1) _ rfl XR.out rfl) rfl ?_
    try rw [if_pos hr0, decide_eq_true hr0]
    exact ⟨_, rfl, P1.out.lower (lw BLW.out.2), BEL.out.1⟩

theorem sine_any {v : Value} {k r : Int} {b : Nat} {w : World} (h : PS w b v k r (-1074)) (o : Ok r (-1074)) (hk : k = 0 ∨ k = 1 ∨ k = 2 ∨ k = 3) (hT : TabAt 0 Lib.deBruijn64tab w) :
 Calls Tryz.prog 36 #[v] w fun en w' => ∃ v', en = .returned v' ∧ PT w' w.heap.size v' (if r = 0 then sel 0 1 0 (-1) k else 0) 0 (decide (r = 0)) ∧ Below w.heap.size w w' := by
 obtain ⟨b0, A, n0, c, x0, rfl⟩ := h.ex5
 have QO := yk (fun (W : World) (hb : Below w.heap.size w W) => on_any 0 1 0 (-1) (h.below hb) o hk (by decide) (by decide) (by decide) (by decide) (tab_below hT hb))
 clear h o hT hk
 generalize (if r = 0 then sel 0 1 0 (-1) k else 0) = q at *
 generalize decide (r = 0) = bq at *
 go_enter Tryz.func36, Tryz.ntmps36
 obtain ⟨BEL, X0, XR⟩ := al2 w 2 #[.int .i64 k, .bool b0, .slice A n0 c, .int .i64 x0] 65 #[.bool false, .slice none 0 0, .int .i64 0, .bool false] 40
 obtain ⟨q0, q0', q1, q1', q2, q2', q3, q3'⟩ := bc4 X0.out
 go_wp2_with fail
 have BLW := BEL
 clear q0 q0' q1 q1' q2 q2' q3 q3'
 go_at_call 73
 refine (QO.out _ BEL.out.1).mono ?_
 rintro en1 w1 ⟨v1, rfl, hr, hb⟩
 replace BEL := yk (BEL.out.next hb)
 replace X0 := yk (yb X0.out hb)
 replace XR := yk (yb XR.out hb)
 have P1 := yk hr
 obtain ⟨b1, A1, n1, c1, x1, rfl⟩ := hr.ex5
 clear hr hb
 go_wp2_with (((with_reducible refine gate_store (p := 2) rfl ?_); go_must (refine store_box 40 2 (.tmp 5) rfl rfl rfl (g := w.heap.size + 1) (e := 40) (.agg #[.bool b1, .slice A1 n1 c1, .int .i64 x1, .bool bq]) ([.bool b1, .slice A1 n1 c1, .int .i64 x1, .bool bq]) rfl rfl rfl info_told ?b1 XR.out rfl ?_; (case b1 => intro q hq; simp at hq; rcases hq with rfl | rfl | rfl | rfl <;> rfl); intro wb hbx hgx; have HX := yk hbx; have HG := yk hgx; clear hbx hgx)); replace P1 := yk (P1.out.grown_box XR.out (by decide) HG.out); replace BEL := yk (BEL.out.grown HG.out (by omega)); replace X0 := yk (blk_grown X0.out HG.out (by omega)); replace XR := HX; clear HG)
 refine bodyPost_ret (results_told rfl _ _ (w.heap.size + 1) _ rfl XR.out rfl) rfl ?_
 exact ⟨_, rfl, P1.out.lower (lw BLW.out.2), BEL.out.1⟩

theorem cosine_any {v : Value} {k r : Int} {b : Nat} {w : World} (h : PS w b v k r (-1074)) (o : Ok r (-1074)) (hk : k = 0 ∨ k = 1 ∨ k = 2 ∨ k = 3) (hT : TabAt 0 Lib.deBruijn64tab w) :
 Calls Tryz.prog 37 #[v] w fun en w' => ∃ v', en = .returned v' ∧ PT w' w.heap.size v' (if r = 0 then sel 1 0 (-1) 0 k else 0) 0 (decide (r = 0)) ∧ Below w.heap.size w w' := by
 obtain ⟨b0, A, n0, c, x0, rfl⟩ := h.ex5
 have QO := yk (fun (W : World) (hb : Below w.heap.size w W) => on_any 1 0 (-1) 0 (h.below hb) o hk (by decide) (by decide) (by decide) (by decide) (tab_below hT hb))
 clear h o hT hk
 generalize (if r = 0 then sel 1 0 (-1) 0 k else 0) = q at *
 generalize decide (r = 0) = bq at *
 go_enter Tryz.func37, Tryz.ntmps37
 obtain ⟨BEL, X0, XR⟩ := al2 w 2 #[.int .i64 k, .bool b0, .slice A n0 c, .int .i64 x0] 65 #[.bool false, .slice none 0 0, .int .i64 0, .bool false] 40
 obtain ⟨q0, q0', q1, q1', q2, q2', q3, q3'⟩ := bc4 X0.out
 go_wp2_with fail
 have BLW := BEL
 clear q0 q0' q1 q1' q2 q2' q3 q3'
 go_at_call 73
 refine (QO.out _ BEL.out.1).mono ?_
 rintro en1 w1 ⟨v1, rfl, hr, hb⟩
 replace BEL := yk (BEL.out.next hb)
 replace X0 := yk (yb X0.out hb)
 replace XR := yk (yb XR.out hb)
 have P1 := yk hr
 obtain ⟨b1, A1, n1, c1, x1, rfl⟩ := hr.ex5
 clear hr hb
 go_wp2_with (((with_reducible refine gate_store (p := 2) rfl ?_); go_must (refine store_box 40 2 (.tmp 5) rfl rfl rfl (g := w.heap.size + 1) (e := 40) (.agg #[.bool b1, .slice A1 n1 c1, .int .i64 x1, .bool bq]) ([.bool b1, .slice A1 n1 c1, .int .i64 x1, .bool bq]) rfl rfl rfl info_told ?b1 XR.out rfl ?_; (case b1 => intro q hq; simp at hq; rcases hq with rfl | rfl | rfl | rfl <;> rfl); intro wb hbx hgx; have HX := yk hbx; have HG := yk hgx; clear hbx hgx)); replace P1 := yk (P1.out.grown_box XR.out (by decide) HG.out); replace BEL := yk (BEL.out.grown HG.out (by omega)); replace X0 := yk (blk_grown X0.out HG.out (by omega)); replace XR := HX; clear HG)
 refine bodyPost_ret (results_told rfl _ _ (w.heap.size + 1) _ rfl XR.out rfl) rfl ?_
 exact ⟨_, rfl, P1.out.lower (lw BLW.out.2), BEL.out.1⟩
/-- What is told, if anything. -/
def PO (w : World) (b : Nat) (v : Value) (o : Option (Int × Int)) : Prop := PT w b v (o.getD (0, 0)).1 (o.getD (0, 0)).2 o.isSome
theorem PO.none (w : World) (b : Nat) : PO w b (.agg #[.bool false, .slice none 0 0, .int .i64 0, .bool false]) none := PT.none w b 0
theorem PO.below {w w1 : World} {b : Nat} {v : Value} {o : Option (Int × Int)} (h : PO w b v o) (hb : Below w.heap.size w w1) : PO w1 b v o := PT.below h hb
theorem PO.lower {w : World} {b b' : Nat} {v : Value} {o : Option (Int × Int)} (h : PO w b v o) (hb : b' ≤ b) : PO w b' v o := PT.lower h hb
theorem PO.grown_box {w w1 : World} {b g : Nat} {v : Value} {o : Option (Int × Int)} {t : TypeId} {cells : Array Value} (h : PO w b v o) (hb : w.heap[g]? = some (.cells cells t (0, 0))) (ht : 23 ≠ t) (hg : w.grownBy w1 (some g)) : PO w1 b v o := PT.grown_box h hb ht hg
theorem PO.ex {w : World} {b : Nat} {v : Value} {o : Option (Int × Int)} (h : PO w b v o) : ∃ bb A n c x b2, v = .agg #[.bool bb, .slice A n c, .int .i64 x, .bool b2] := PT.ex h
theorem PT.some {w : World} {b : Nat} {v : Value} {z e : Int} (h : PT w b v z e true) : PO w b v (some (z, e)) := h

def tanF (k r M : Int) : Option (Int × Int) :=
 if r = 0 then (if k.tmod 2 = 0 then some (0, 0) else none)
 else if (r.natAbs : Int) = M then (if (k.tmod 2 == 0) == decide (0 < r) then some (1, 0) else some (-1, 0)) else none
theorem sgn_pos (r : Int) : decide (0 < sgnI r) = decide (0 < r) := by
 unfold sgnI
 by_cases h : 0 < r
 · rw [decide_eq_true h]; repeat' split
   all_goals first | rfl | omega
 · rw [decide_eq_false h]; repeat' split
   all_goals first | rfl | omega
theorem tan_0 {k r M : Int} (h : r = 0) (hk : (k.tmod 2 == 0) = true) : tanF k r M = some (0, 0) := by
 unfold tanF; rw [if_pos h, if_pos (by simpa using hk)]
theorem tan_1 {k r M : Int} (h : r = 0) (hk : (k.tmod 2 == 0) = false) : tanF k r M = none := by
 unfold tanF; rw [if_pos h, if_neg (by simpa using hk)]
theorem tan_2 {k r M : Int} {p q : Bool} (h : ¬ r = 0) (h2 : (r.natAbs : Int) = M) (hk : (k.tmod 2 == 0) = p) (hr : decide (0 < sgnI r) = q) : tanF k r M = if p == q then some (1, 0) else some (-1, 0) := by
 unfold tanF; rw [if_neg h, if_pos h2, hk, ← sgn_pos, hr]
theorem tan_3 {k r M : Int} (h : ¬ r = 0) (h2 : ¬ (r.natAbs : Int) = M) : tanF k r M = none := by
 unfold tanF; rw [if_neg h, if_neg h2]

theorem tangent_any {v : Value} {k r : Int} {b : Nat} {w : World} (h : PS w b v k r (-1074)) (o : Ok r (-1074)) (oa : Ok (r.natAbs : Int) (-1074)) (hk : k = 0 ∨ k = 1 ∨ k = 2 ∨ k = 3) (hT : TabAt 0 Lib.deBruijn64tab w) :
 Calls Tryz.prog 38 #[v] w fun en w' => ∃ v', en = .returned v' ∧ PO w' w.heap.size v' (tanF k r (2 ^ 1072)) ∧ Below w.heap.size w w' := by
 obtain ⟨b0, A, n0, c, x0, rfl⟩ := h.ex5
 have HT := yk hT
 have OO := yk o
 have OA := yk oa
 have HCD := yk h.d.1.c
 obtain ⟨M, hM⟩ : ∃ M : Int, M = 2 ^ 1072 := ⟨_, rfl⟩
 have OM := yk (Ok.of (z := 2 ^ 1072) (e := -1074) (1072 + 1) (sm_pow 1072) (by decide) (by decide) (by decide))
 have HP := yk (fun (v : Value) (b : Nat) (W : World) (h : PDy W b v 1 (-2)) => (by
  have q := PDy.scale (e := -1074) 1072 h
  rw [Int.one_mul, ← hM] at q; exact q : PDy W b v M (-1074)))
 rw [← hM] at OM ⊢
 have HMP := yk (show ¬ (0 : Int) = M by rw [hM]; exact fun h => absurd h.symm (Int.pow_ne_zero (by decide)))
 have HC : Aside0 ((cmpZ (r.natAbs : Int) M == 0) = decide ((r.natAbs : Int) = M)) := ⟨cmpZ_zero _ _⟩
 have HK := yk hk
 obtain ⟨kev, hkev⟩ : ∃ p, (k.tmod 2 == 0) = p := ⟨_, rfl⟩
 obtain ⟨pos, hpos⟩ : ∃ p, decide (0 < sgnI r) = p := ⟨_, rfl⟩
 have hkw : wrap64 (k.tmod 2) = k.tmod 2 := by unfold wrap64; rcases hk with rfl | rfl | rfl | rfl <;> decide
 have HKE := yk hkev
 have HPO := yk hpos
 clear h o hT oa hk hM hkev hpos
 go_enter Tryz.func38, Tryz.ntmps38
 obtain ⟨BEL, X0, XR⟩ := al2 w 2 #[.int .i64 k, .bool b0, .slice A n0 c, .int .i64 x0] 65 #[.bool false, .slice none 0 0, .int .i64 0, .bool false] 40
 obtain ⟨q0, q0', q1, q1', q2, q2', q3, q3'⟩ := bc4 X0.out
 go_wp2_with fail
 clear q0 q0' q1 q1' q2 q2' q3 q3'
 go_at_call 54
 refine (abs_ok (HCD.out.below BEL.out.1) OO.out (tab_below HT.out BEL.out.1)).mono ?_
 rintro en1 w1 ⟨v1, rfl, hr, hb⟩
 replace BEL := yk (BEL.out.next hb)
 replace X0 := yk (yb X0.out hb)
 replace XR := yk (yb XR.out hb)
 have P1 := yk hr
 obtain ⟨b1, A1, n1, c1, x1, rfl⟩ := hr.ex
 clear hr hb
 go_wp2_with fail
 go_at_call 67
 refine (ppower_dy (-2) _).mono ?_
 rintro en2 w2 ⟨v2, rfl, hr, hb⟩
 replace BEL := yk (BEL.out.next hb)
 replace X0 := yk (yb X0.out hb)
 replace XR := yk (yb XR.out hb)
 replace P1 := yk (P1.out.below hb)
 have P2 := yk hr
 obtain ⟨b2, A2, n2, c2, x2, rfl⟩ := hr.ex
 clear hr hb
 go_wp2_with fail
 go_at_call 51
 refine (cmp_ok P1.out.c (HP.out _ _ _ P2.out).c OA.out OM.out (tab_below HT.out BEL.out.1)).mono ?_
 rintro en3 w3 ⟨rfl, hb⟩
 replace BEL := yk (BEL.out.next hb)
 replace X0 := yk (yb X0.out hb)
 replace XR := yk (yb XR.out hb)
 replace P1 := yk (P1.out.below hb)
 replace P2 := yk (P2.out.below hb)
 clear hb
 by_cases hq : (r.natAbs : Int) = M
 case neg =>
  have hcq : (cmpZ (r.natAbs : Int) M == 0) = false := HC.out.trans (decide_eq_false hq)
  have HQ := yk hq
  clear hq
  obtain ⟨q4, q4', q5, q5', q6, q6', q7, q7'⟩ := bc4 X0.out
  go_wp2_with fail
  clear q4 q4' q5 q5' q6 q6' q7 q7'
  go_at_call 27
  refine (zero_ok (HCD.out.below BEL.out.1) OO.out).mono ?_
  rintro en4 w4 ⟨rfl, hb⟩
  replace BEL := yk (BEL.out.next hb)
  replace X0 := yk (yb X0.out hb)
  replace XR := yk (yb XR.out hb)
  replace P1 := yk (P1.out.below hb)
  replace P2 := yk (P2.out.below hb)
  clear hb
  by_cases hr0 : r = 0
  case pos =>
   have hd : decide (r = 0) = true := decide_eq_true hr0
   have HR0 := yk hr0
   clear hr0
   have hkev := HKE.out
   cases kev
   case true =>
    obtain ⟨q8, q8', q9, q9', q10, q10', q11, q11'⟩ := bc4 X0.out
    go_wp2_with fail
    have BLW := BEL
    clear q8 q8' q9 q9' q10 q10' q11 q11'
    go_at_call 32
    refine (whole_any (0) _ (by decide) (by decide) (tab_below HT.out BEL.out.1)).mono ?_
    rintro en5 w5 ⟨v5, rfl, hr, hb⟩
    replace BEL := yk (BEL.out.next hb)
    replace X0 := yk (yb X0.out hb)
    replace XR := yk (yb XR.out hb)
    replace P1 := yk (P1.out.below hb)
    replace P2 := yk (P2.out.below hb)
    have P3 := yk hr
    obtain ⟨b5, A5, n5, c5, x5, rfl⟩ := hr.ex5
    clear hr hb
    go_wp2_with (((with_reducible refine gate_store (p := 2) rfl ?_); go_must (refine store_box 40 2 (.tmp 20) rfl rfl rfl (g := w.heap.size + 1) (e := 40) (.agg #[.bool b5, .slice A5 n5 c5, .int .i64 x5, .bool true]) ([.bool b5, .slice A5 n5 c5, .int .i64 x5, .bool true]) rfl rfl rfl info_told ?b1 XR.out rfl ?_; (case b1 => intro q hq; simp at hq; rcases hq with rfl | rfl | rfl | rfl <;> rfl); intro wb hbx hgx; have HX := yk hbx; have HG := yk hgx; clear hbx hgx)); replace P1 := yk (P1.out.grown_box XR.out (by decide) HG.out); replace P2 := yk (P2.out.grown_box XR.out (by decide) HG.out); replace P3 := yk (P3.out.grown_box XR.out (by decide) HG.out); replace BEL := yk (BEL.out.grown HG.out (by omega)); replace X0 := yk (blk_grown X0.out HG.out (by omega)); replace XR := HX; clear HG)
    refine bodyPost_ret (results_told rfl _ _ (w.heap.size + 1) _ rfl XR.out rfl) rfl ?_
    rw [tan_0 HR0.out HKE.out]
    exact ⟨_, rfl, P3.out.some.lower (lw BLW.out.2), BEL.out.1⟩
   case false =>
    obtain ⟨q8, q8', q9, q9', q10, q10', q11, q11'⟩ := bc4 X0.out
    go_wp2_with fail
    go_quiet (fail)
    clear q8 q8' q9 q9' q10 q10' q11 q11'
    replace BEL := yk (BEL.out.next (quiet_below ⟨nq, rfl⟩))
    replace X0 := yk (yb X0.out (quiet_below ⟨nq, rfl⟩))
    replace XR := yk (yb XR.out (quiet_below ⟨nq, rfl⟩))
    replace P1 := yk (P1.out.below (quiet_below ⟨nq, rfl⟩))
    replace P2 := yk (P2.out.below (quiet_below ⟨nq, rfl⟩))
    go_wp2_with (((with_reducible refine gate_store (p := 2) rfl ?_); go_must (refine store_box 40 2 (.tmp 38) rfl rfl rfl (g := w.heap.size + 1) (e := 40) (.agg #[.bool false, .slice none 0 0, .int .i64 0, .bool false]) ([.bool false, .slice none 0 0, .int .i64 0, .bool false]) rfl rfl rfl info_told ?b1 XR.out rfl ?_; (case b1 => intro q hq; simp at hq; rcases hq with rfl | rfl | rfl | rfl <;> rfl); intro wb hbx hgx; have HX := yk hbx; have HG := yk hgx; clear hbx hgx)); replace P1 := yk (P1.out.grown_box XR.out (by decide) HG.out); replace P2 := yk (P2.out.grown_box XR.out (by decide) HG.out); replace BEL := yk (BEL.out.grown HG.out (by omega)); replace X0 := yk (blk_grown X0.out HG.out (by omega)); replace XR := HX; clear HG)
    refine bodyPost_ret (results_told rfl _ _ (w.heap.size + 1) _ rfl XR.out rfl) rfl ?_
    rw [tan_1 HR0.out HKE.out]
    exact ⟨_, rfl, PO.none _ _, BEL.out.1⟩
  case neg =>
   have hd : decide (r = 0) = false := decide_eq_false hr0
   have HR0 := yk hr0
   clear hr0
   obtain ⟨q8, q8', q9, q9', q10, q10', q11, q11'⟩ := bc4 X0.out
   go_wp2_with fail
   go_quiet (fail)
   clear q8 q8' q9 q9' q10 q10' q11 q11'
   replace BEL := yk (BEL.out.next (quiet_below ⟨nq, rfl⟩))
   replace X0 := yk (yb X0.out (quiet_below ⟨nq, rfl⟩))
   replace XR := yk (yb XR.out (quiet_below ⟨nq, rfl⟩))
   replace P1 := yk (P1.out.below (quiet_below ⟨nq, rfl⟩))
   replace P2 := yk (P2.out.below (quiet_below ⟨nq, rfl⟩))
   go_wp2_with (((with_reducible refine gate_store (p := 2) rfl ?_); go_must (refine store_box 40 2 (.tmp 38) rfl rfl rfl (g := w.heap.size + 1) (e := 40) (.agg #[.bool false, .slice none 0 0, .int .i64 0, .bool false]) ([.bool false, .slice none 0 0, .int .i64 0, .bool false]) rfl rfl rfl info_told ?b1 XR.out rfl ?_; (case b1 => intro q hq; simp at hq; rcases hq with rfl | rfl | rfl | rfl <;> rfl); intro wb hbx hgx; have HX := yk hbx; have HG := yk hgx; clear hbx hgx)); replace P1 := yk (P1.out.grown_box XR.out (by decide) HG.out); replace P2 := yk (P2.out.grown_box XR.out (by decide) HG.out); replace BEL := yk (BEL.out.grown HG.out (by omega)); replace X0 := yk (blk_grown X0.out HG.out (by omega)); replace XR := HX; clear HG)
   refine bodyPost_ret (results_told rfl _ _ (w.heap.size + 1) _ rfl XR.out rfl) rfl ?_
   rw [tan_3 HR0.out HQ.out]
   exact ⟨_, rfl, PO.none _ _, BEL.out.1⟩
 case pos =>
  have hcq : (cmpZ (r.natAbs : Int) M == 0) = true := HC.out.trans (decide_eq_true hq)
  have hr0 : ¬ r = 0 := fun h => HMP.out (by rw [← hq, h]; rfl)
  have hd : decide (r = 0) = false := decide_eq_false hr0
  have HQ := yk hq
  have HR0 := yk hr0
  clear hq hr0
  obtain ⟨q4, q4', q5, q5', q6, q6', q7, q7'⟩ := bc4 X0.out
  go_wp2_with fail
  clear q4 q4' q5 q5' q6 q6' q7 q7'
  go_at_call 27
  refine (zero_ok (HCD.out.below BEL.out.1) OO.out).mono ?_
  rintro en4 w4 ⟨rfl, hb⟩
  replace BEL := yk (BEL.out.next hb)
  replace X0 := yk (yb X0.out hb)
  replace XR := yk (yb XR.out hb)
  replace P1 := yk (P1.out.below hb)
  replace P2 := yk (P2.out.below hb)
  clear hb
  go_upto_region 4 with fail
  obtain ⟨GM, hGM⟩ : ∃ G : (Nat → Prop) → (Nat → Value) → World → Prop, G = fun L v W => BelN w 2 W ∧ W.heap[w.heap.size]? = some (.cells #[.int .i64 k, .bool b0, .slice A n0 c, .int .i64 x0] 65 (0, 0)) ∧ W.heap[w.heap.size + 1]? = some (.cells #[.bool false, .slice none 0 0, .int .i64 0, .bool false] 40 (0, 0)) ∧ (L 0 → (v 0) = .bool true) ∧ (L 1 → (v 1) = .bool true) ∧ (L 2 → (v 2) = .pointer (some ⟨w.heap.size, 0, none⟩)) ∧ (L 3 → (v 3) = .int .i64 k) ∧ (L 4 → (v 4) = .int .i64 (k.tmod 2)) ∧ (L 5 → (v 5) = .bool kev) ∧ (L 6 → (v 6) = .pointer (some ⟨w.heap.size, 1, none⟩)) ∧ (L 7 → (v 7) = .agg #[.bool b0, .slice A n0 c, .int .i64 x0]) ∧ (L 8 → (v 8) = .int .i64 (sgnI r)) ∧ (L 9 → (v 9) = .bool pos) ∧ (L 10 → (v 10) = .bool (kev == pos)) ∧ (L 11 → (v 11) = .bool (kev == pos)) ∧ (L 12 → (v 12) = .bool (kev == pos)) := ⟨_, rfl⟩
  refine wp_region_slotsV [22, 23, 24, 25, 26, 27, 28, 29, 30, 31, 32, 33, 21] (by kernel_rfl) (by kernel_rfl) (G := GM) ?h0M ?hstepM ?hendM
  case h0M =>
   intro v; rw [hGM]
   exact ⟨BEL.out.next (below_drew yr), blk_drew X0.out, blk_drew XR.out, fun h => h.elim, fun h => h.elim, fun h => h.elim, fun h => h.elim, fun h => h.elim, fun h => h.elim, fun h => h.elim, fun h => h.elim, fun h => h.elim, fun h => h.elim, fun h => h.elim, fun h => h.elim, fun h => h.elim⟩
  case hstepM =>
   intro k o ho v W L hGv hnk haft hcl K hK
   rw [hGM] at hGv
   obtain ⟨hB, hb0, hb1, f0, f1, f2, f3, f4, f5, f6, f7, f8, f9, f10, f11, f12⟩ := hGv
   rcases k with _ | _ | _ | _ | _ | _ | _ | _ | _ | _ | _ | _ | _ | k
   all_goals first
    | (cases ho; done)
    | (obtain rfl := (Option.some.inj ho).symm
       clear ho
       simp only [setAll, List.setIfInBounds_toArray, List.set_cons_zero, List.set_cons_succ, List.set_nil, List.getElem_toArray, List.getElem_cons_zero, List.getElem_cons_succ, Nat.reduceAdd] at haft hK ⊢)
   ·
    rw [if_pos (by rfl)]
    have hb := yw W
    have key := hK.out (.bool true) W (by rw [hGM]; exact ⟨hB.next hb, yb hb0 hb, yb hb1 hb, yu, (kV f1), (kV f2), (kV f3), (kV f4), (kV f5), (kV f6), (kV f7), (kV f8), (kV f9), (kV f10), (kV f11), (kV f12)⟩)
    clear hb0 hb1 f0 f1 f2 f3 f4 f5 f6 f7 f8 f9 f10 f11 f12 hb hK
    go_simp
    simpa [upd] using key
   ·
    have d0 := f0 (haft ⟨0, .data⟩ (by simp) rfl)
    have D0 := d0
    rw [if_pos (by rfl)]
    have hb := yw W
    have key := hK.out (.bool true) W (by rw [hGM]; exact ⟨hB.next hb, yb hb0 hb, yb hb1 hb, (kV f0), yu, (kV f2), (kV f3), (kV f4), (kV f5), (kV f6), (kV f7), (kV f8), (kV f9), (kV f10), (kV f11), (kV f12)⟩)
    clear hb0 hb1 f0 f1 f2 f3 f4 f5 f6 f7 f8 f9 f10 f11 f12 hb hK
    go_simp
    simpa [upd, D0] using key
   ·
    have dg := f1 (haft ⟨1, .guard⟩ (by simp) rfl)
    rw [if_pos (by simp [Region.wanted, yielded, dg])]
    have hb := yw W
    have key := hK.out (.pointer (some ⟨w.heap.size, 0, none⟩)) W (by rw [hGM]; exact ⟨hB.next hb, yb hb0 hb, yb hb1 hb, (kV f0), (kV f1), yu, (kV f3), (kV f4), (kV f5), (kV f6), (kV f7), (kV f8), (kV f9), (kV f10), (kV f11), (kV f12)⟩)
    clear hb0 hb1 f0 f1 f2 f3 f4 f5 f6 f7 f8 f9 f10 f11 f12 hb hK
    go_simp
    simpa [upd, dg] using key
   ·
    have d2 := f2 (haft ⟨2, .data⟩ (by simp) rfl)
    have D2 := d2
    have dg := f1 (haft ⟨1, .guard⟩ (by simp) rfl)
    rw [if_pos (by simp [Region.wanted, yielded, dg])]
    have cc0 := (box_cell (v := .int .i64 k) hb0 0 rfl).1
    have cc1 := (box_cell (v := .bool b0) hb0 1 rfl).1
    have cc2 := (box_cell (v := .slice A n0 c) hb0 2 rfl).1
    have cc3 := (box_cell (v := .int .i64 x0) hb0 3 rfl).1
    have hb := yw W
    have key := hK.out (.int .i64 k) W (by rw [hGM]; exact ⟨hB.next hb, yb hb0 hb, yb hb1 hb, (kV f0), (kV f1), (kV f2), yu, (kV f4), (kV f5), (kV f6), (kV f7), (kV f8), (kV f9), (kV f10), (kV f11), (kV f12)⟩)
    clear hb0 hb1 f0 f1 f2 f3 f4 f5 f6 f7 f8 f9 f10 f11 f12 hb hK
    go_simp
    simpa [upd, D2, dg] using key
   ·
    have d3 := f3 (haft ⟨3, .data⟩ (by simp) rfl)
    have D3 := d3
    have dg := f1 (haft ⟨1, .guard⟩ (by simp) rfl)
    rw [if_pos (by simp [Region.wanted, yielded, dg])]
    have hb := yw W
    have key := hK.out (.int .i64 (k.tmod 2)) W (by rw [hGM]; exact ⟨hB.next hb, yb hb0 hb, yb hb1 hb, (kV f0), (kV f1), (kV f2), (kV f3), yu, (kV f5), (kV f6), (kV f7), (kV f8), (kV f9), (kV f10), (kV f11), (kV f12)⟩)
    clear hb0 hb1 f0 f1 f2 f3 f4 f5 f6 f7 f8 f9 f10 f11 f12 hb hK
    go_simp
    simpa [upd, D3, dg] using key
   ·
    have d4 := f4 (haft ⟨4, .data⟩ (by simp) rfl)
    have D4 := d4
    have dg := f1 (haft ⟨1, .guard⟩ (by simp) rfl)
    rw [if_pos (by simp [Region.wanted, yielded, dg])]
    have hkev := HKE.out
    have hb := yw W
    have key := hK.out (.bool kev) W (by rw [hGM]; exact ⟨hB.next hb, yb hb0 hb, yb hb1 hb, (kV f0), (kV f1), (kV f2), (kV f3), (kV f4), yu, (kV f6), (kV f7), (kV f8), (kV f9), (kV f10), (kV f11), (kV f12)⟩)
    clear hb0 hb1 f0 f1 f2 f3 f4 f5 f6 f7 f8 f9 f10 f11 f12 hb hK
    go_simp
    simpa [upd, D4, dg] using key
   ·
    have dg := f1 (haft ⟨1, .guard⟩ (by simp) rfl)
    rw [if_pos (by simp [Region.wanted, yielded, dg])]
    have hb := yw W
    have key := hK.out (.pointer (some ⟨w.heap.size, 1, none⟩)) W (by rw [hGM]; exact ⟨hB.next hb, yb hb0 hb, yb hb1 hb, (kV f0), (kV f1), (kV f2), (kV f3), (kV f4), (kV f5), yu, (kV f7), (kV f8), (kV f9), (kV f10), (kV f11), (kV f12)⟩)
    clear hb0 hb1 f0 f1 f2 f3 f4 f5 f6 f7 f8 f9 f10 f11 f12 hb hK
    go_simp
    simpa [upd, dg] using key
   ·
    have d6 := f6 (haft ⟨6, .data⟩ (by simp) rfl)
    have D6 := d6
    have dg := f1 (haft ⟨1, .guard⟩ (by simp) rfl)
    rw [if_pos (by simp [Region.wanted, yielded, dg])]
    have cc0 := (box_cell (v := .int .i64 k) hb0 0 rfl).1
    have cc1 := (box_cell (v := .bool b0) hb0 1 rfl).1
    have cc2 := (box_cell (v := .slice A n0 c) hb0 2 rfl).1
    have cc3 := (box_cell (v := .int .i64 x0) hb0 3 rfl).1
    have hb := yw W
    have key := hK.out (.agg #[.bool b0, .slice A n0 c, .int .i64 x0]) W (by rw [hGM]; exact ⟨hB.next hb, yb hb0 hb, yb hb1 hb, (kV f0), (kV f1), (kV f2), (kV f3), (kV f4), (kV f5), (kV f6), yu, (kV f8), (kV f9), (kV f10), (kV f11), (kV f12)⟩)
    clear hb0 hb1 f0 f1 f2 f3 f4 f5 f6 f7 f8 f9 f10 f11 f12 hb hK
    go_simp
    simpa [upd, D6, dg] using key
   ·
    have d7 := f7 (haft ⟨7, .data⟩ (by simp) rfl)
    have D7 := d7
    have dg := f1 (haft ⟨1, .guard⟩ (by simp) rfl)
    rw [if_pos (by simp [Region.wanted, yielded, dg])]
    have HALL := yk (ya hK (ya hB (ya hb0 ( ya hb1 ( ya f0 ( ya f1 ( ya f2 ( ya f3 ( ya f4 ( ya f5 ( ya f6 ( ya f7 ( ya f8 ( ya f9 ( ya f10 ( ya f11 ( ya f12 (True.intro))))))))))))))))))
    clear hK hb0 hb1 f0 f1 f2 f3 f4 f5 f6 f7 f8 f9 f10 f11 f12
    go_simp
    go_at_call 50
    refine (sign_ok (HCD.out.below hB.1) OO.out).mono ?_
    rintro en w4 ⟨rfl, hb⟩
    obtain ⟨hK, hB, hb0, hb1, f0, f1, f2, f3, f4, f5, f6, f7, f8, f9, f10, f11, f12, _⟩ := HALL.out
    have key := hK.out (.int .i64 (sgnI r)) w4 (by rw [hGM]; exact ⟨hB.next hb, yb hb0 hb, yb hb1 hb, (kV f0), (kV f1), (kV f2), (kV f3), (kV f4), (kV f5), (kV f6), (kV f7), yu, (kV f9), (kV f10), (kV f11), (kV f12)⟩)
    clear hb0 hb1 f0 f1 f2 f3 f4 f5 f6 f7 f8 f9 f10 f11 f12 hK HALL
    simpa [upd, D7, dg] using key
   ·
    have d8 := f8 (haft ⟨8, .data⟩ (by simp) rfl)
    have D8 := d8
    have dg := f1 (haft ⟨1, .guard⟩ (by simp) rfl)
    rw [if_pos (by simp [Region.wanted, yielded, dg])]
    have hpos := HPO.out
    have hb := yw W
    have key := hK.out (.bool pos) W (by rw [hGM]; exact ⟨hB.next hb, yb hb0 hb, yb hb1 hb, (kV f0), (kV f1), (kV f2), (kV f3), (kV f4), (kV f5), (kV f6), (kV f7), (kV f8), yu, (kV f10), (kV f11), (kV f12)⟩)
    clear hb0 hb1 f0 f1 f2 f3 f4 f5 f6 f7 f8 f9 f10 f11 f12 hb hK
    go_simp
    simpa [upd, D8, dg] using key
   ·
    have d5 := f5 (haft ⟨5, .data⟩ (by simp) rfl)
    have D5 := d5
    have d9 := f9 (haft ⟨9, .data⟩ (by simp) rfl)
    have D9 := d9
    have dg := f1 (haft ⟨1, .guard⟩ (by simp) rfl)
    rw [if_pos (by simp [Region.wanted, yielded, dg])]
    have hb := yw W
    have key := hK.out (.bool (kev == pos)) W (by rw [hGM]; exact ⟨hB.next hb, yb hb0 hb, yb hb1 hb, (kV f0), (kV f1), (kV f2), (kV f3), (kV f4), (kV f5), (kV f6), (kV f7), (kV f8), (kV f9), yu, (kV f11), (kV f12)⟩)
    clear hb0 hb1 f0 f1 f2 f3 f4 f5 f6 f7 f8 f9 f10 f11 f12 hb hK
    go_simp
    simpa [upd, D5, D9, dg] using key
   ·
    have d1 := f1 (haft ⟨1, .data⟩ (by simp) rfl)
    have D1 := d1
    have d10 := f10 (haft ⟨10, .data⟩ (by simp) rfl)
    have D10 := d10
    rw [if_pos (by rfl)]
    have hb := yw W
    have key := hK.out (.bool (kev == pos)) W (by rw [hGM]; exact ⟨hB.next hb, yb hb0 hb, yb hb1 hb, (kV f0), (kV f1), (kV f2), (kV f3), (kV f4), (kV f5), (kV f6), (kV f7), (kV f8), (kV f9), (kV f10), yu, (kV f12)⟩)
    clear hb0 hb1 f0 f1 f2 f3 f4 f5 f6 f7 f8 f9 f10 f11 f12 hb hK
    go_simp
    simpa [upd, D1, D10] using key
   ·
    have d11 := f11 (haft ⟨11, .data⟩ (by simp) rfl)
    have D11 := d11
    rw [if_pos (by rfl)]
    have hb := yw W
    have key := hK.out (.bool (kev == pos)) W (by rw [hGM]; exact ⟨hB.next hb, yb hb0 hb, yb hb1 hb, (kV f0), (kV f1), (kV f2), (kV f3), (kV f4), (kV f5), (kV f6), (kV f7), (kV f8), (kV f9), (kV f10), (kV f11), yu⟩)
    clear hb0 hb1 f0 f1 f2 f3 f4 f5 f6 f7 f8 f9 f10 f11 f12 hb hK
    go_simp
    simpa [upd, D11] using key
  case hendM =>
   intro v W L0 hall hGv
   rw [hGM] at hGv
   obtain ⟨hB, hb0, hb1, f0, f1, f2, f3, f4, f5, f6, f7, f8, f9, f10, f11, f12⟩ := hGv
   have d12 := f12 (hall 12 (by decide))
   replace BEL := yk hB
   replace X0 := yk hb0
   replace XR := yk hb1
   clear hall f0 f1 f2 f3 f4 f5 f6 f7 f8 f9 f10 f11 f12 hB hb0 hb1 P1 P2
   simp only [setAll, List.setIfInBounds_toArray, List.set_cons_zero, List.set_cons_succ, Nat.reduceAdd, d12]
   clear d12
   cases hkp : kev == pos
   case true =>
    have HKP := yk hkp
    clear hkp
    go_wp2_with fail
    have BLW := BEL
    go_at_call 32
    refine (whole_any (1) _ (by decide) (by decide) (tab_below HT.out BEL.out.1)).mono ?_
    rintro en21 w21 ⟨v21, rfl, hr, hb⟩
    replace BEL := yk (BEL.out.next hb)
    replace X0 := yk (yb X0.out hb)
    replace XR := yk (yb XR.out hb)
    have P3 := yk hr
    obtain ⟨b21, A21, n21, c21, x21, rfl⟩ := hr.ex5
    clear hr hb
    go_wp2_with (((with_reducible refine gate_store (p := 2) rfl ?_); go_must (refine store_box 40 2 (.tmp 34) rfl rfl rfl (g := w.heap.size + 1) (e := 40) (.agg #[.bool b21, .slice A21 n21 c21, .int .i64 x21, .bool true]) ([.bool b21, .slice A21 n21 c21, .int .i64 x21, .bool true]) rfl rfl rfl info_told ?b1 XR.out rfl ?_; (case b1 => intro q hq; simp at hq; rcases hq with rfl | rfl | rfl | rfl <;> rfl); intro wb hbx hgx; have HX := yk hbx; have HG := yk hgx; clear hbx hgx)); replace P3 := yk (P3.out.grown_box XR.out (by decide) HG.out); replace BEL := yk (BEL.out.grown HG.out (by omega)); replace X0 := yk (blk_grown X0.out HG.out (by omega)); replace XR := HX; clear HG)
    refine bodyPost_ret (results_told rfl _ _ (w.heap.size + 1) _ rfl XR.out rfl) rfl ?_
    rw [tan_2 HR0.out HQ.out HKE.out HPO.out, HKP.out]
    exact ⟨_, rfl, P3.out.some.lower (lw BLW.out.2), BEL.out.1⟩
   case false =>
    have HKP := yk hkp
    clear hkp
    go_wp2_with fail
    have BLW := BEL
    go_at_call 32
    refine (whole_any (-1) _ (by decide) (by decide) (tab_below HT.out BEL.out.1)).mono ?_
    rintro en21 w21 ⟨v21, rfl, hr, hb⟩
    replace BEL := yk (BEL.out.next hb)
    replace X0 := yk (yb X0.out hb)
    replace XR := yk (yb XR.out hb)
    have P3 := yk hr
    obtain ⟨b21, A21, n21, c21, x21, rfl⟩ := hr.ex5
    clear hr hb
    go_wp2_with (((with_reducible refine gate_store (p := 2) rfl ?_); go_must (refine store_box 40 2 (.tmp 37) rfl rfl rfl (g := w.heap.size + 1) (e := 40) (.agg #[.bool b21, .slice A21 n21 c21, .int .i64 x21, .bool true]) ([.bool b21, .slice A21 n21 c21, .int .i64 x21, .bool true]) rfl rfl rfl info_told ?b1 XR.out rfl ?_; (case b1 => intro q hq; simp at hq; rcases hq with rfl | rfl | rfl | rfl <;> rfl); intro wb hbx hgx; have HX := yk hbx; have HG := yk hgx; clear hbx hgx)); replace P3 := yk (P3.out.grown_box XR.out (by decide) HG.out); replace BEL := yk (BEL.out.grown HG.out (by omega)); replace X0 := yk (blk_grown X0.out HG.out (by omega)); replace XR := HX; clear HG)
    refine bodyPost_ret (results_told rfl _ _ (w.heap.size + 1) _ rfl XR.out rfl) rfl ?_
    rw [tan_2 HR0.out HQ.out HKE.out HPO.out, HKP.out]
    exact ⟨_, rfl, P3.out.some.lower (lw BLW.out.2), BEL.out.1⟩
/-- A number, in units of 1/M, as a whole one from lo to hi. -/
def smallF (M z lo hi : Int) : Option Int := if z % M = 0 ∧ lo * M ≤ z ∧ z ≤ hi * M then some (z / M) else none
theorem cmpZ_dlt (y z : Int) : decide (cmpZ y z < 0) = decide (y < z) := by
 unfold cmpZ
 by_cases h : y < z
 · rw [decide_eq_true h]; repeat' split
   all_goals first | rfl | omega
 · rw [decide_eq_false h]; repeat' split
   all_goals first | rfl | omega
theorem cmpZ_dgt (y z : Int) : decide (0 < cmpZ y z) = decide (z < y) := by
 unfold cmpZ
 by_cases h : z < y
 · rw [decide_eq_true h]; repeat' split
   all_goals first | rfl | omega
 · rw [decide_eq_false h]; repeat' split
   all_goals first | rfl | omega
theorem small_z {M lo hi : Int} : smallF M 0 lo hi = if lo * M ≤ 0 ∧ 0 ≤ hi * M then some 0 else none := by
 unfold smallF; simp
/-- A number that is no whole one. -/
theorem small_part {z lo hi : Int} {N : Nat} (h0 : z ≠ 0) (h : cexp z (-(N : Int)) < 0) : smallF (2 ^ N) z lo hi = none := by
 unfold smallF
 rw [if_neg]
 rintro ⟨h1, -, -⟩
 obtain ⟨k, e1, e2, e3⟩ := of_form (e := -(N : Int)) h0
 have hk : k < N := by omega
 obtain ⟨q, hq⟩ := Int.dvd_of_emod_eq_zero h1
 have h2 : z.natAbs = 2 ^ N * q.natAbs := by rw [hq, Int.natAbs_mul, Int.natAbs_pow]; rfl
 have h3 : z.natAbs = cman z * 2 ^ k := by
  have := congrArg Int.natAbs e2
  rw [sgn_abs] at this; exact this
 obtain ⟨j, hj⟩ : ∃ j, N = k + 1 + j := ⟨N - (k + 1), by omega⟩
 have h4 : cman z * 2 ^ k = (2 ^ (1 + j) * q.natAbs) * 2 ^ k := by
  rw [← h3, h2, hj, Nat.pow_add, Nat.pow_add, Nat.pow_add]
  simp only [Nat.mul_comm, Nat.mul_left_comm, Nat.mul_assoc]
 have h5 := Nat.eq_of_mul_eq_mul_right (Nat.two_pow_pos k) h4
 have h6 := cman_odd h0
 rw [h5, Nat.pow_add, Nat.mul_assoc] at h6
 omega
/-- A whole number. -/
theorem small_whole {z : Int} {N : Nat} (h0 : z ≠ 0) (h : ¬ cexp z (-(N : Int)) < 0) : ∃ s : Nat, cexp z (-(N : Int)) = (s : Int) ∧ z % 2 ^ N = 0 ∧ z / 2 ^ N = sgn (cneg z) (cman z * 2 ^ s) ∧ z = (z / 2 ^ N) * 2 ^ N := by
 obtain ⟨k, e1, e2, e3⟩ := of_form (e := -(N : Int)) h0
 obtain ⟨s, rfl⟩ : ∃ s, k = s + N := ⟨k - N, by omega⟩
 have h1 : z = sgn (cneg z) (cman z * 2 ^ s) * 2 ^ N := by
  have h2 : sgn (cneg z) (cman z * 2 ^ (s + N)) = sgn (cneg z) (cman z * 2 ^ s) * 2 ^ N := by
   have hp : ((2 ^ N : Nat) : Int) = (2 : Int) ^ N := by simp
   cases cneg z
   · show ((cman z * 2 ^ (s + N) : Nat) : Int) = ((cman z * 2 ^ s : Nat) : Int) * 2 ^ N
     rw [Nat.pow_add, ← Nat.mul_assoc, Int.natCast_mul, hp]
   · show -((cman z * 2 ^ (s + N) : Nat) : Int) = -((cman z * 2 ^ s : Nat) : Int) * 2 ^ N
     rw [Nat.pow_add, ← Nat.mul_assoc, Int.natCast_mul, hp, Int.neg_mul]
  rw [← h2]; exact e2
 have hp0 : (2 : Int) ^ N ≠ 0 := Int.pow_ne_zero (by decide)
 have h3 : z % 2 ^ N = 0 := by rw [h1]; exact Int.mul_emod_left _ _
 have h4 : z / 2 ^ N = sgn (cneg z) (cman z * 2 ^ s) := by
  generalize sgn (cneg z) (cman z * 2 ^ s) = q at h1
  rw [h1]; exact Int.mul_ediv_cancel _ hp0
 refine ⟨s, by omega, h3, h4, ?_⟩
 rw [h4]; exact h1
theorem small_lo {M z lo hi : Int} (h : z < lo * M) : smallF M z lo hi = none := by
 unfold smallF; rw [if_neg]; rintro ⟨-, h1, -⟩; omega
theorem small_hi {M z lo hi : Int} (h : hi * M < z) : smallF M z lo hi = none := by
 unfold smallF; rw [if_neg]; rintro ⟨-, -, h1⟩; omega
theorem small_in {M z lo hi : Int} (h : z % M = 0) (h1 : ¬ z < lo * M) (h2 : ¬ hi * M < z) : smallF M z lo hi = some (z / M) := by
 unfold smallF; rw [if_pos ⟨h, by omega, by omega⟩]

theorem small_val {M z lo hi : Int} {x s : Nat} (h0 : z ≠ 0) (hM : 0 < M) (hx : x = cman z % 2 ^ 64) (hd : z / M = sgn (cneg z) (cman z * 2 ^ s)) (h1 : lo * M ≤ z) (h2 : z ≤ hi * M) (hlo : lo.natAbs < 2 ^ 20) (hhi : hi.natAbs < 2 ^ 20) :
 wrap64 (IntKind.u64.wrap ((x : Int) * 2 ^ min s 64)) = ((cman z * 2 ^ s : Nat) : Int) ∧ cman z * 2 ^ s < 2 ^ 20 := by
 have e1 : lo ≤ z / M := Int.le_ediv_of_mul_le hM h1
 have e2 : z / M ≤ hi := Int.ediv_le_of_le_mul hM h2
 have e3 : (z / M).natAbs = cman z * 2 ^ s := by rw [hd, sgn_abs]
 have e4 : cman z * 2 ^ s < 2 ^ 20 := by
  generalize z / M = q at *
  rw [← e3]; omega
 have e5 : 0 < cman z := Nat.pos_of_ne_zero (cman_ne h0)
 have e6 : 2 ^ s < 2 ^ 20 := Nat.lt_of_le_of_lt (Nat.le_mul_of_pos_left _ e5) e4
 have e7 : s < 20 := (Nat.pow_lt_pow_iff_right (by decide)).1 e6
 have e8 : cman z < 2 ^ 20 := Nat.lt_of_le_of_lt (Nat.le_mul_of_pos_right _ (Nat.two_pow_pos s)) e4
 have e9 : x = cman z := by rw [hx, Nat.mod_eq_of_lt (Nat.lt_trans e8 (by decide))]
 have e10 : ((x : Int) * 2 ^ min s 64) = ((cman z * 2 ^ s : Nat) : Int) := by
  rw [e9, Nat.min_eq_left (by omega), Int.natCast_mul]; simp
 refine ⟨?_, e4⟩
 rw [e10, u64_wrap]
 clear e1 e2 e3 e5 e6 e7 e8 e9 e10 hd hx
 generalize cman z * 2 ^ s = m at *
 unfold wrap64
 omega
theorem small_pos {M z lo hi : Int} {x s : Nat} (h0 : z ≠ 0) (hM : 0 < M) (hx : x = cman z % 2 ^ 64) (hd : z / M = sgn (cneg z) (cman z * 2 ^ s)) (h1 : lo * M ≤ z) (h2 : z ≤ hi * M) (hlo : lo.natAbs < 2 ^ 20) (hhi : hi.natAbs < 2 ^ 20) (hb : false = cneg z) :
 wrap64 (IntKind.u64.wrap ((x : Int) * 2 ^ min s 64)) = z / M := by
 rw [(small_val h0 hM hx hd h1 h2 hlo hhi).1, hd, ← hb]; rfl
theorem small_neg {M z lo hi : Int} {x s : Nat} (h0 : z ≠ 0) (hM : 0 < M) (hx : x = cman z % 2 ^ 64) (hd : z / M = sgn (cneg z) (cman z * 2 ^ s)) (h1 : lo * M ≤ z) (h2 : z ≤ hi * M) (hlo : lo.natAbs < 2 ^ 20) (hhi : hi.natAbs < 2 ^ 20) (hb : true = cneg z) :
 wrap64 (-wrap64 (IntKind.u64.wrap ((x : Int) * 2 ^ min s 64))) = z / M := by
 obtain ⟨h3, h4⟩ := small_val h0 hM hx hd h1 h2 hlo hhi
 rw [h3, hd, ← hb]
 show wrap64 (-((cman z * 2 ^ s : Nat) : Int)) = -((cman z * 2 ^ s : Nat) : Int)
 clear hd h3 hx
 generalize cman z * 2 ^ s = m at *
 unfold wrap64
 omega

theorem small_any {v : Value} {z : Int} {w : World} (lo hi : Int) (h : CDy w v z (-1074)) (o : Ok z (-1074)) (hlo : lo.natAbs < 2 ^ 20) (hhi : hi.natAbs < 2 ^ 20) (hT : TabAt 0 Lib.deBruijn64tab w) :
 Calls Tryz.prog 66 #[v, .int .i64 lo, .int .i64 hi] w fun en w' => en = .returned (.tuple #[.int .i64 ((smallF (2 ^ 1074) z lo hi).getD 0), .bool (smallF (2 ^ 1074) z lo hi).isSome]) ∧ Below w.heap.size w w' := by
 obtain ⟨b0, A, n0, c, x0, rfl⟩ := h.ex
 have HT := yk hT
 have OO := yk o
 have HCD := yk h
 have OL := yk (Ok.of (e := -1074) _ (sm_mul (k := 1074) hlo) (by decide) (by decide) (by decide))
 have OH := yk (Ok.of (e := -1074) _ (sm_mul (k := 1074) hhi) (by decide) (by decide) (by decide))
 have L1 := yk (ya (show -9223372036854775808 ≤ lo by omega) (show lo < 9223372036854775808 by omega))
 have H1 := yk (ya (show -9223372036854775808 ≤ hi by omega) (show hi < 9223372036854775808 by omega))
 have HHI := yk hhi
 have HLO := yk hlo
 obtain ⟨M, hM⟩ : ∃ M : Int, M = 2 ^ 1074 := ⟨_, rfl⟩
 have HP := yk (fun (n : Int) (v : Value) (b : Nat) (W : World) (h : PDy W b v n 0) => (by
  have q := PDy.scale (e := -1074) 1074 h
  rw [← hM] at q; exact q : PDy W b v (n * M) (-1074)))
 have HMP := yk (show 0 < M by rw [hM]; exact Int.pow_pos (by decide))
 have HPART := yk (fun (h0 : z ≠ 0) (h : cexp z (-1074) < 0) => (by
  have q := small_part (lo := lo) (hi := hi) (N := 1074) h0 h
  rw [← hM] at q; exact q : smallF M z lo hi = none))
 have HWH := yk (fun (h0 : z ≠ 0) (h : ¬ cexp z (-1074) < 0) => (by
  have q := small_whole (N := 1074) h0 h
  rw [← hM] at q; exact q : ∃ s : Nat, cexp z (-1074) = (s : Int) ∧ z % M = 0 ∧ z / M = sgn (cneg z) (cman z * 2 ^ s) ∧ z = (z / M) * M))
 rw [← hM] at OL OH ⊢
 obtain ⟨lM, hL⟩ : ∃ q, q = lo * M := ⟨_, rfl⟩
 obtain ⟨hM2, hH⟩ : ∃ q, q = hi * M := ⟨_, rfl⟩
 have HL := yk hL
 have HH := yk hH
 rw [← hL] at OL
 rw [← hH] at OH
 obtain ⟨eb, ex, -⟩ := CDy.parts h
 have HXE := yk ex
 have HBE := yk eb
 clear h o hT hM hL hH hlo hhi eb ex
 go_enter Tryz.func66, Tryz.ntmps66
 obtain ⟨BEL, X0⟩ := al1 w 1 #[.bool b0, .slice A n0 c, .int .i64 x0] 27
 obtain ⟨q0, q0', q1, q1', q2, q2'⟩ := bc3 X0.out
 go_wp2_with fail
 clear q0 q0' q1 q1' q2 q2'
 go_at_call 27
 refine (zero_ok (HCD.out.below BEL.out.1) OO.out).mono ?_
 rintro en1 w1 ⟨rfl, hb⟩
 replace BEL := yk (BEL.out.next hb)
 replace X0 := yk (yb X0.out hb)
 clear hb
 by_cases hz : z = 0
 case pos =>
  have hd : decide (z = 0) = true := decide_eq_true hz
  have HZ := yk hz
  have HSZ := yk (small_z (M := M) (lo := lo) (hi := hi))
  clear hz
  by_cases hl : lo ≤ 0
  case neg =>
   have hdl : decide (lo ≤ 0) = false := decide_eq_false hl
   have HN : Aside0 (smallF M z lo hi = none) := ⟨by rw [HZ.out, HSZ.out, if_neg (fun h => hl (Int.le_of_mul_le_mul_right (by rw [Int.zero_mul]; exact h.1) HMP.out))]⟩
   clear hl
   obtain ⟨q3, q3', q4, q4', q5, q5'⟩ := bc3 X0.out
   go_wp2_with fail
   go_ret2
   exact ⟨by rw [HN.out]; rfl, BEL.out.1⟩
  by_cases hh : 0 ≤ hi
  case pos =>
   have hdl : decide (lo ≤ 0) = true := decide_eq_true hl
   have hdh : decide (0 ≤ hi) = true := decide_eq_true hh
   have HN : Aside0 (smallF M z lo hi = some 0) := ⟨by rw [HZ.out, HSZ.out, if_pos ⟨Int.mul_nonpos_of_nonpos_of_nonneg hl (Int.le_of_lt HMP.out), Int.mul_nonneg hh (Int.le_of_lt HMP.out)⟩]⟩
   clear hl hh
   obtain ⟨q3, q3', q4, q4', q5, q5'⟩ := bc3 X0.out
   go_wp2_with fail
   go_ret2
   exact ⟨by rw [HN.out]; rfl, BEL.out.1⟩
  case neg =>
   have hdl : decide (lo ≤ 0) = true := decide_eq_true hl
   have hdh : decide (0 ≤ hi) = false := decide_eq_false hh
   have HN : Aside0 (smallF M z lo hi = none) := ⟨by rw [HZ.out, HSZ.out, if_neg (fun h => hh (Int.le_of_mul_le_mul_right (by rw [Int.zero_mul]; exact h.2) HMP.out))]⟩
   clear hl hh
   obtain ⟨q3, q3', q4, q4', q5, q5'⟩ := bc3 X0.out
   go_wp2_with fail
   go_ret2
   exact ⟨by rw [HN.out]; rfl, BEL.out.1⟩
 case neg =>
  have hd : decide (z = 0) = false := decide_eq_false hz
  have HZ := yk hz
  clear hz
  by_cases hx : x0 < 0
  case pos =>
   have hdx : decide (x0 < 0) = true := decide_eq_true hx
   have HN := yk (HPART.out HZ.out (by rw [← HXE.out]; omega))
   clear hx
   obtain ⟨q3, q3', q4, q4', q5, q5'⟩ := bc3 X0.out
   go_wp2_with fail
   go_quiet (fail)
   clear q3 q3' q4 q4' q5 q5'
   replace BEL := yk (BEL.out.next (quiet_below ⟨nq, rfl⟩))
   replace X0 := yk (yb X0.out (quiet_below ⟨nq, rfl⟩))
   go_wp2_with fail
   go_ret2
   exact ⟨by rw [HN.out]; rfl, BEL.out.1⟩
  have hdx : decide (x0 < 0) = false := decide_eq_false hx
  have HWS := yk (HWH.out HZ.out (by rw [← HXE.out]; omega))
  clear hx
  by_cases hlo : z < lM
  case pos =>
   have HC1 : Aside0 (decide (cmpZ z lM < 0) = true) := ⟨by rw [cmpZ_dlt]; exact decide_eq_true hlo⟩
   have HN := yk (small_lo (hi := hi) (by rw [← HL.out]; exact hlo))
   clear hlo
   obtain ⟨q3, q3', q4, q4', q5, q5'⟩ := bc3 X0.out
   go_upto_region 3 with fail
   clear q3 q3' q4 q4' q5 q5'
   obtain ⟨GM, hGM⟩ : ∃ G : (Nat → Prop) → (Nat → Value) → World → Prop, G = fun L v W => BelN w 1 W ∧ W.heap[w.heap.size]? = some (.cells #[.bool b0, .slice A n0 c, .int .i64 x0] 27 (0, 0)) ∧ (L 0 → (v 0) = .pointer (some ⟨w.heap.size, 2, none⟩)) ∧ (L 1 → (v 1) = .int .i64 x0) ∧ (L 2 → (v 2) = .bool false) ∧ (L 3 → (v 3) = .bool false) ∧ (L 4 → (v 4) = .agg #[.bool b0, .slice A n0 c, .int .i64 x0]) ∧ (L 5 → (v 5) = .int .i64 lo) ∧ (L 6 → PDy W w.heap.size (v 6) lM (-1074)) ∧ (L 7 → (v 7) = .int .i64 (cmpZ z lM)) ∧ (L 8 → (v 8) = .bool true) ∧ (L 9 → (v 9) = .bool true) ∧ (L 10 → (v 10) = .bool true) ∧ True ∧ True ∧ True ∧ True ∧ True ∧ (L 16 → (v 16) = .bool true) := ⟨_, rfl⟩
   refine wp_region_slotsV [17, 18, 19, 20, 21, 22, 23, 24, 25, 26, 27, 28, 29, 30, 31, 32, 33] (by kernel_rfl) (by kernel_rfl) (G := GM) ?h0M ?hstepM ?hendM
   case h0M =>
    intro v; rw [hGM]
    exact ⟨BEL.out.next (below_drew yr), blk_drew X0.out, fun h => h.elim, fun h => h.elim, fun h => h.elim, fun h => h.elim, fun h => h.elim, fun h => h.elim, fun h => h.elim, fun h => h.elim, fun h => h.elim, fun h => h.elim, fun h => h.elim, trivial, trivial, trivial, trivial, trivial, fun h => h.elim⟩
   case hstepM =>
    intro k o ho v W L hGv hnk haft hcl K hK
    rw [hGM] at hGv
    obtain ⟨hB, hb0, f0, f1, f2, f3, f4, f5, f6, f7, f8, f9, f10, f11, f12, f13, f14, f15, f16⟩ := hGv
    rcases k with _ | _ | _ | _ | _ | _ | _ | _ | _ | _ | _ | _ | _ | _ | _ | _ | _ | k
    all_goals first
     | (cases ho; done)
     | (obtain rfl := (Option.some.inj ho).symm
        clear ho
        simp only [setAll, List.setIfInBounds_toArray, List.set_cons_zero, List.set_cons_succ, List.set_nil, List.getElem_toArray, List.getElem_cons_zero, List.getElem_cons_succ, Nat.reduceAdd] at haft hK ⊢)
    ·
     rw [if_pos (by rfl)]
     have hb := yw W
     have key := hK.out (.pointer (some ⟨w.heap.size, 2, none⟩)) W (by rw [hGM]; exact ⟨hB.next hb, yb hb0 hb, yu, (kV f1), (kV f2), (kV f3), (kV f4), (kV f5), (kD f6 hb), (kV f7), (kV f8), (kV f9), (kV f10), trivial, trivial, trivial, trivial, trivial, (kV f16)⟩)
     clear hb0 f0 f1 f2 f3 f4 f5 f6 f7 f8 f9 f10 f11 f12 f13 f14 f15 f16 hb hK
     go_simp
     simpa [upd] using key
    ·
     have d0 := f0 (haft ⟨0, .data⟩ (by simp) rfl)
     have D0 := d0
     rw [if_pos (by rfl)]
     have cc0 := (box_cell (v := .bool b0) hb0 0 rfl).1
     have cc1 := (box_cell (v := .slice A n0 c) hb0 1 rfl).1
     have cc2 := (box_cell (v := .int .i64 x0) hb0 2 rfl).1
     have hb := yw W
     have key := hK.out (.int .i64 x0) W (by rw [hGM]; exact ⟨hB.next hb, yb hb0 hb, (kV f0), yu, (kV f2), (kV f3), (kV f4), (kV f5), (kD f6 hb), (kV f7), (kV f8), (kV f9), (kV f10), trivial, trivial, trivial, trivial, trivial, (kV f16)⟩)
     clear hb0 f0 f1 f2 f3 f4 f5 f6 f7 f8 f9 f10 f11 f12 f13 f14 f15 f16 hb hK
     go_simp
     simpa [upd, D0] using key
    ·
     have d1 := f1 (haft ⟨1, .data⟩ (by simp) rfl)
     have D1 := d1
     rw [if_pos (by rfl)]
     have hb := yw W
     have key := hK.out (.bool false) W (by rw [hGM]; exact ⟨hB.next hb, yb hb0 hb, (kV f0), (kV f1), yu, (kV f3), (kV f4), (kV f5), (kD f6 hb), (kV f7), (kV f8), (kV f9), (kV f10), trivial, trivial, trivial, trivial, trivial, (kV f16)⟩)
     clear hb0 f0 f1 f2 f3 f4 f5 f6 f7 f8 f9 f10 f11 f12 f13 f14 f15 f16 hb hK
     go_simp
     simpa [upd, D1] using key
    ·
     have d2 := f2 (haft ⟨2, .data⟩ (by simp) rfl)
     have D2 := d2
     rw [if_pos (by rfl)]
     have hb := yw W
     have key := hK.out (.bool false) W (by rw [hGM]; exact ⟨hB.next hb, yb hb0 hb, (kV f0), (kV f1), (kV f2), yu, (kV f4), (kV f5), (kD f6 hb), (kV f7), (kV f8), (kV f9), (kV f10), trivial, trivial, trivial, trivial, trivial, (kV f16)⟩)
     clear hb0 f0 f1 f2 f3 f4 f5 f6 f7 f8 f9 f10 f11 f12 f13 f14 f15 f16 hb hK
     go_simp
     simpa [upd, D2] using key
    ·
     have dg := f3 (haft ⟨3, .guard⟩ (by simp) rfl)
     rw [if_pos (by simp [Region.wanted, yielded, dg])]
     have cc0 := (box_cell (v := .bool b0) hb0 0 rfl).1
     have cc1 := (box_cell (v := .slice A n0 c) hb0 1 rfl).1
     have cc2 := (box_cell (v := .int .i64 x0) hb0 2 rfl).1
     have hb := yw W
     have key := hK.out (.agg #[.bool b0, .slice A n0 c, .int .i64 x0]) W (by rw [hGM]; exact ⟨hB.next hb, yb hb0 hb, (kV f0), (kV f1), (kV f2), (kV f3), yu, (kV f5), (kD f6 hb), (kV f7), (kV f8), (kV f9), (kV f10), trivial, trivial, trivial, trivial, trivial, (kV f16)⟩)
     clear hb0 f0 f1 f2 f3 f4 f5 f6 f7 f8 f9 f10 f11 f12 f13 f14 f15 f16 hb hK
     go_simp
     simpa [upd, dg] using key
    ·
     have dg := f3 (haft ⟨3, .guard⟩ (by simp) rfl)
     rw [if_pos (by simp [Region.wanted, yielded, dg])]
     have hb := yw W
     have key := hK.out (.int .i64 lo) W (by rw [hGM]; exact ⟨hB.next hb, yb hb0 hb, (kV f0), (kV f1), (kV f2), (kV f3), (kV f4), yu, (kD f6 hb), (kV f7), (kV f8), (kV f9), (kV f10), trivial, trivial, trivial, trivial, trivial, (kV f16)⟩)
     clear hb0 f0 f1 f2 f3 f4 f5 f6 f7 f8 f9 f10 f11 f12 f13 f14 f15 f16 hb hK
     go_simp
     simpa [upd, dg] using key
    ·
     have d5 := f5 (haft ⟨5, .data⟩ (by simp) rfl)
     have D5 := d5
     have dg := f3 (haft ⟨3, .guard⟩ (by simp) rfl)
     rw [if_pos (by simp [Region.wanted, yielded, dg])]
     have HALL := yk (ya hK (ya hB (ya hb0 ( ya f0 ( ya f1 ( ya f2 ( ya f3 ( ya f4 ( ya f5 ( ya f6 ( ya f7 ( ya f8 ( ya f9 ( ya f10 ( ya f11 ( ya f12 ( ya f13 ( ya f14 ( ya f15 ( ya f16 (True.intro)))))))))))))))))))))
     clear hK hb0 f0 f1 f2 f3 f4 f5 f6 f7 f8 f9 f10 f11 f12 f13 f14 f15 f16
     go_simp
     go_at_call 52
     refine (pint_dy lo _ L1.out.1 L1.out.2 (tab_below HT.out hB.1)).mono ?_
     rintro en w4 ⟨v1, rfl, hr, hb⟩
     obtain ⟨hK, hB, hb0, f0, f1, f2, f3, f4, f5, f6, f7, f8, f9, f10, f11, f12, f13, f14, f15, f16, _⟩ := HALL.out
     have key := hK.out (v1) w4 (by rw [hGM]; exact ⟨hB.next hb, yb hb0 hb, (kV f0), (kV f1), (kV f2), (kV f3), (kV f4), (kV f5), fun _ => by rw [upd_eq]; exact (by rw [HL.out]; exact (HP.out _ _ _ _ hr).lower (lw hB.2)), (kV f7), (kV f8), (kV f9), (kV f10), trivial, trivial, trivial, trivial, trivial, (kV f16)⟩)
     clear hb0 f0 f1 f2 f3 f4 f5 f6 f7 f8 f9 f10 f11 f12 f13 f14 f15 f16 hK HALL
     simpa [upd, D5, dg] using key
    ·
     have d4 := f4 (haft ⟨4, .data⟩ (by simp) rfl)
     have D4 := d4
     have d6 := f6 (haft ⟨6, .data⟩ (by simp) rfl)
     have D6 := d6
     have dg := f3 (haft ⟨3, .guard⟩ (by simp) rfl)
     rw [if_pos (by simp [Region.wanted, yielded, dg])]
     have HALL := yk (ya hK (ya hB (ya hb0 ( ya f0 ( ya f1 ( ya f2 ( ya f3 ( ya f4 ( ya f5 ( ya f6 ( ya f7 ( ya f8 ( ya f9 ( ya f10 ( ya f11 ( ya f12 ( ya f13 ( ya f14 ( ya f15 ( ya f16 (True.intro)))))))))))))))))))))
     clear hK hb0 f0 f1 f2 f3 f4 f5 f6 f7 f8 f9 f10 f11 f12 f13 f14 f15 f16
     go_simp
     go_at_call 51
     refine (cmp_ok (HCD.out.below hB.1) d6.c OO.out OL.out (tab_below HT.out hB.1)).mono ?_
     rintro en w4 ⟨rfl, hb⟩
     obtain ⟨hK, hB, hb0, f0, f1, f2, f3, f4, f5, f6, f7, f8, f9, f10, f11, f12, f13, f14, f15, f16, _⟩ := HALL.out
     have key := hK.out (.int .i64 (cmpZ z lM)) w4 (by rw [hGM]; exact ⟨hB.next hb, yb hb0 hb, (kV f0), (kV f1), (kV f2), (kV f3), (kV f4), (kV f5), (kD f6 hb), yu, (kV f8), (kV f9), (kV f10), trivial, trivial, trivial, trivial, trivial, (kV f16)⟩)
     clear hb0 f0 f1 f2 f3 f4 f5 f6 f7 f8 f9 f10 f11 f12 f13 f14 f15 f16 hK HALL
     simpa [upd, D4, dg] using key
    ·
     have d7 := f7 (haft ⟨7, .data⟩ (by simp) rfl)
     have D7 := d7
     have dg := f3 (haft ⟨3, .guard⟩ (by simp) rfl)
     rw [if_pos (by simp [Region.wanted, yielded, dg])]
     have hc1 := HC1.out
     have hb := yw W
     have key := hK.out (.bool true) W (by rw [hGM]; exact ⟨hB.next hb, yb hb0 hb, (kV f0), (kV f1), (kV f2), (kV f3), (kV f4), (kV f5), (kD f6 hb), (kV f7), yu, (kV f9), (kV f10), trivial, trivial, trivial, trivial, trivial, (kV f16)⟩)
     clear hb0 f0 f1 f2 f3 f4 f5 f6 f7 f8 f9 f10 f11 f12 f13 f14 f15 f16 hb hK
     go_simp
     simpa [upd, D7, dg] using key
    ·
     have d3 := f3 (haft ⟨3, .data⟩ (by simp) rfl)
     have D3 := d3
     have d8 := f8 (haft ⟨8, .data⟩ (by simp) rfl)
     have D8 := d8
     rw [if_pos (by rfl)]
     have hb := yw W
     have key := hK.out (.bool true) W (by rw [hGM]; exact ⟨hB.next hb, yb hb0 hb, (kV f0), (kV f1), (kV f2), (kV f3), (kV f4), (kV f5), (kD f6 hb), (kV f7), (kV f8), yu, (kV f10), trivial, trivial, trivial, trivial, trivial, (kV f16)⟩)
     clear hb0 f0 f1 f2 f3 f4 f5 f6 f7 f8 f9 f10 f11 f12 f13 f14 f15 f16 hb hK
     go_simp
     simpa [upd, D3, D8] using key
    ·
     have d9 := f9 (haft ⟨9, .data⟩ (by simp) rfl)
     have D9 := d9
     rw [if_pos (by rfl)]
     have hb := yw W
     have key := hK.out (.bool true) W (by rw [hGM]; exact ⟨hB.next hb, yb hb0 hb, (kV f0), (kV f1), (kV f2), (kV f3), (kV f4), (kV f5), (kD f6 hb), (kV f7), (kV f8), (kV f9), yu, trivial, trivial, trivial, trivial, trivial, (kV f16)⟩)
     clear hb0 f0 f1 f2 f3 f4 f5 f6 f7 f8 f9 f10 f11 f12 f13 f14 f15 f16 hb hK
     go_simp
     simpa [upd, D9] using key
    ·
     have dg := f10 (haft ⟨10, .guard⟩ (by simp) rfl)
     rw [if_neg (by simp [Region.wanted, yielded, dg])]
     have hb := yw W
     have key := hK.out undef W (by rw [hGM]; exact ⟨hB.next hb, yb hb0 hb, (kV f0), (kV f1), (kV f2), (kV f3), (kV f4), (kV f5), (kD f6 hb), (kV f7), (kV f8), (kV f9), (kV f10), trivial, trivial, trivial, trivial, trivial, (kV f16)⟩)
     clear hb0 f0 f1 f2 f3 f4 f5 f6 f7 f8 f9 f10 f11 f12 f13 f14 f15 f16 hK hb
     simpa [upd, Act.put, dg] using key
    ·
     have dg := f10 (haft ⟨10, .guard⟩ (by simp) rfl)
     rw [if_neg (by simp [Region.wanted, yielded, dg])]
     have hb := yw W
     have key := hK.out undef W (by rw [hGM]; exact ⟨hB.next hb, yb hb0 hb, (kV f0), (kV f1), (kV f2), (kV f3), (kV f4), (kV f5), (kD f6 hb), (kV f7), (kV f8), (kV f9), (kV f10), trivial, trivial, trivial, trivial, trivial, (kV f16)⟩)
     clear hb0 f0 f1 f2 f3 f4 f5 f6 f7 f8 f9 f10 f11 f12 f13 f14 f15 f16 hK hb
     simpa [upd, Act.put, dg] using key
    ·
     have dg := f10 (haft ⟨10, .guard⟩ (by simp) rfl)
     rw [if_neg (by simp [Region.wanted, yielded, dg])]
     have hb := yw W
     have key := hK.out undef W (by rw [hGM]; exact ⟨hB.next hb, yb hb0 hb, (kV f0), (kV f1), (kV f2), (kV f3), (kV f4), (kV f5), (kD f6 hb), (kV f7), (kV f8), (kV f9), (kV f10), trivial, trivial, trivial, trivial, trivial, (kV f16)⟩)
     clear hb0 f0 f1 f2 f3 f4 f5 f6 f7 f8 f9 f10 f11 f12 f13 f14 f15 f16 hK hb
     simpa [upd, Act.put, dg] using key
    ·
     have dg := f10 (haft ⟨10, .guard⟩ (by simp) rfl)
     rw [if_neg (by simp [Region.wanted, yielded, dg])]
     have hb := yw W
     have key := hK.out undef W (by rw [hGM]; exact ⟨hB.next hb, yb hb0 hb, (kV f0), (kV f1), (kV f2), (kV f3), (kV f4), (kV f5), (kD f6 hb), (kV f7), (kV f8), (kV f9), (kV f10), trivial, trivial, trivial, trivial, trivial, (kV f16)⟩)
     clear hb0 f0 f1 f2 f3 f4 f5 f6 f7 f8 f9 f10 f11 f12 f13 f14 f15 f16 hK hb
     simpa [upd, Act.put, dg] using key
    ·
     have dg := f10 (haft ⟨10, .guard⟩ (by simp) rfl)
     rw [if_neg (by simp [Region.wanted, yielded, dg])]
     have hb := yw W
     have key := hK.out undef W (by rw [hGM]; exact ⟨hB.next hb, yb hb0 hb, (kV f0), (kV f1), (kV f2), (kV f3), (kV f4), (kV f5), (kD f6 hb), (kV f7), (kV f8), (kV f9), (kV f10), trivial, trivial, trivial, trivial, trivial, (kV f16)⟩)
     clear hb0 f0 f1 f2 f3 f4 f5 f6 f7 f8 f9 f10 f11 f12 f13 f14 f15 f16 hK hb
     simpa [upd, Act.put, dg] using key
    ·
     have d10 := f10 (haft ⟨10, .data⟩ (by simp) rfl)
     have D10 := d10
     rw [if_pos (by rfl)]
     have hb := yw W
     have key := hK.out (.bool true) W (by rw [hGM]; exact ⟨hB.next hb, yb hb0 hb, (kV f0), (kV f1), (kV f2), (kV f3), (kV f4), (kV f5), (kD f6 hb), (kV f7), (kV f8), (kV f9), (kV f10), trivial, trivial, trivial, trivial, trivial, yu⟩)
     clear hb0 f0 f1 f2 f3 f4 f5 f6 f7 f8 f9 f10 f11 f12 f13 f14 f15 f16 hb hK
     go_simp
     simpa [upd, D10] using key
   case hendM =>
    intro v W L0 hall hGv
    rw [hGM] at hGv
    obtain ⟨hB, hb0, f0, f1, f2, f3, f4, f5, f6, f7, f8, f9, f10, f11, f12, f13, f14, f15, f16⟩ := hGv
    have d16 := f16 (hall 16 (by decide))
    replace BEL := yk hB
    replace X0 := yk hb0
    clear hall hB hb0 f0 f1 f2 f3 f4 f5 f6 f7 f8 f9 f10 f11 f12 f13 f14 f15 f16
    simp only [setAll, List.setIfInBounds_toArray, List.set_cons_zero, List.set_cons_succ, Nat.reduceAdd, d16]
    clear d16
    go_wp2_with fail
    go_ret2
    exact ⟨by rw [HN.out]; rfl, BEL.out.1⟩
  case neg =>
   have HC1 : Aside0 (decide (cmpZ z lM < 0) = false) := ⟨by rw [cmpZ_dlt]; exact decide_eq_false hlo⟩
   obtain ⟨c2, hc2⟩ : ∃ c2, decide (cmpZ z hM2 > 0) = c2 := ⟨_, rfl⟩
   have HC2 : Aside0 (decide (0 < cmpZ z hM2) = c2) := ⟨hc2⟩
   have HNL := yk hlo
   clear hlo hc2
   obtain ⟨q3, q3', q4, q4', q5, q5'⟩ := bc3 X0.out
   go_upto_region 3 with fail
   clear q3 q3' q4 q4' q5 q5'
   obtain ⟨GN, hGN⟩ : ∃ G : (Nat → Prop) → (Nat → Value) → World → Prop, G = fun L v W => BelN w 1 W ∧ W.heap[w.heap.size]? = some (.cells #[.bool b0, .slice A n0 c, .int .i64 x0] 27 (0, 0)) ∧ (L 0 → (v 0) = .pointer (some ⟨w.heap.size, 2, none⟩)) ∧ (L 1 → (v 1) = .int .i64 x0) ∧ (L 2 → (v 2) = .bool false) ∧ (L 3 → (v 3) = .bool false) ∧ (L 4 → (v 4) = .agg #[.bool b0, .slice A n0 c, .int .i64 x0]) ∧ (L 5 → (v 5) = .int .i64 lo) ∧ (L 6 → PDy W w.heap.size (v 6) lM (-1074)) ∧ (L 7 → (v 7) = .int .i64 (cmpZ z lM)) ∧ (L 8 → (v 8) = .bool false) ∧ (L 9 → (v 9) = .bool false) ∧ (L 10 → (v 10) = .bool false) ∧ (L 11 → (v 11) = .agg #[.bool b0, .slice A n0 c, .int .i64 x0]) ∧ (L 12 → (v 12) = .int .i64 hi) ∧ (L 13 → PDy W w.heap.size (v 13) hM2 (-1074)) ∧ (L 14 → (v 14) = .int .i64 (cmpZ z hM2)) ∧ (L 15 → (v 15) = .bool c2) ∧ (L 16 → (v 16) = .bool c2) := ⟨_, rfl⟩
   refine wp_region_slotsV [17, 18, 19, 20, 21, 22, 23, 24, 25, 26, 27, 28, 29, 30, 31, 32, 33] (by kernel_rfl) (by kernel_rfl) (G := GN) ?h0N ?hstepN ?hendN
   case h0N =>
    intro v; rw [hGN]
    exact ⟨BEL.out.next (below_drew yr), blk_drew X0.out, fun h => h.elim, fun h => h.elim, fun h => h.elim, fun h => h.elim, fun h => h.elim, fun h => h.elim, fun h => h.elim, fun h => h.elim, fun h => h.elim, fun h => h.elim, fun h => h.elim, fun h => h.elim, fun h => h.elim, fun h => h.elim, fun h => h.elim, fun h => h.elim, fun h => h.elim⟩
   case hstepN =>
    intro k o ho v W L hGv hnk haft hcl K hK
    rw [hGN] at hGv
    obtain ⟨hB, hb0, f0, f1, f2, f3, f4, f5, f6, f7, f8, f9, f10, f11, f12, f13, f14, f15, f16⟩ := hGv
    rcases k with _ | _ | _ | _ | _ | _ | _ | _ | _ | _ | _ | _ | _ | _ | _ | _ | _ | k
    all_goals first
     | (cases ho; done)
     | (obtain rfl := (Option.some.inj ho).symm
        clear ho
        simp only [setAll, List.setIfInBounds_toArray, List.set_cons_zero, List.set_cons_succ, List.set_nil, List.getElem_toArray, List.getElem_cons_zero, List.getElem_cons_succ, Nat.reduceAdd] at haft hK ⊢)
    ·
     rw [if_pos (by rfl)]
     have hb := yw W
     have key := hK.out (.pointer (some ⟨w.heap.size, 2, none⟩)) W (by rw [hGN]; exact ⟨hB.next hb, yb hb0 hb, yu, (kV f1), (kV f2), (kV f3), (kV f4), (kV f5), (kD f6 hb), (kV f7), (kV f8), (kV f9), (kV f10), (kV f11), (kV f12), (kD f13 hb), (kV f14), (kV f15), (kV f16)⟩)
     clear hb0 f0 f1 f2 f3 f4 f5 f6 f7 f8 f9 f10 f11 f12 f13 f14 f15 f16 hb hK
     go_simp
     simpa [upd] using key
    ·
     have d0 := f0 (haft ⟨0, .data⟩ (by simp) rfl)
     have D0 := d0
     rw [if_pos (by rfl)]
     have cc0 := (box_cell (v := .bool b0) hb0 0 rfl).1
     have cc1 := (box_cell (v := .slice A n0 c) hb0 1 rfl).1
     have cc2 := (box_cell (v := .int .i64 x0) hb0 2 rfl).1
     have hb := yw W
     have key := hK.out (.int .i64 x0) W (by rw [hGN]; exact ⟨hB.next hb, yb hb0 hb, (kV f0), yu, (kV f2), (kV f3), (kV f4), (kV f5), (kD f6 hb), (kV f7), (kV f8), (kV f9), (kV f10), (kV f11), (kV f12), (kD f13 hb), (kV f14), (kV f15), (kV f16)⟩)
     clear hb0 f0 f1 f2 f3 f4 f5 f6 f7 f8 f9 f10 f11 f12 f13 f14 f15 f16 hb hK
     go_simp
     simpa [upd, D0] using key
    ·
     have d1 := f1 (haft ⟨1, .data⟩ (by simp) rfl)
     have D1 := d1
     rw [if_pos (by rfl)]
     have hb := yw W
     have key := hK.out (.bool false) W (by rw [hGN]; exact ⟨hB.next hb, yb hb0 hb, (kV f0), (kV f1), yu, (kV f3), (kV f4), (kV f5), (kD f6 hb), (kV f7), (kV f8), (kV f9), (kV f10), (kV f11), (kV f12), (kD f13 hb), (kV f14), (kV f15), (kV f16)⟩)
     clear hb0 f0 f1 f2 f3 f4 f5 f6 f7 f8 f9 f10 f11 f12 f13 f14 f15 f16 hb hK
     go_simp
     simpa [upd, D1] using key
    ·
     have d2 := f2 (haft ⟨2, .data⟩ (by simp) rfl)
     have D2 := d2
     rw [if_pos (by rfl)]
     have hb := yw W
     have key := hK.out (.bool false) W (by rw [hGN]; exact ⟨hB.next hb, yb hb0 hb, (kV f0), (kV f1), (kV f2), yu, (kV f4), (kV f5), (kD f6 hb), (kV f7), (kV f8), (kV f9), (kV f10), (kV f11), (kV f12), (kD f13 hb), (kV f14), (kV f15), (kV f16)⟩)
     clear hb0 f0 f1 f2 f3 f4 f5 f6 f7 f8 f9 f10 f11 f12 f13 f14 f15 f16 hb hK
     go_simp
     simpa [upd, D2] using key
    ·
     have dg := f3 (haft ⟨3, .guard⟩ (by simp) rfl)
     rw [if_pos (by simp [Region.wanted, yielded, dg])]
     have cc0 := (box_cell (v := .bool b0) hb0 0 rfl).1
     have cc1 := (box_cell (v := .slice A n0 c) hb0 1 rfl).1
     have cc2 := (box_cell (v := .int .i64 x0) hb0 2 rfl).1
     have hb := yw W
     have key := hK.out (.agg #[.bool b0, .slice A n0 c, .int .i64 x0]) W (by rw [hGN]; exact ⟨hB.next hb, yb hb0 hb, (kV f0), (kV f1), (kV f2), (kV f3), yu, (kV f5), (kD f6 hb), (kV f7), (kV f8), (kV f9), (kV f10), (kV f11), (kV f12), (kD f13 hb), (kV f14), (kV f15), (kV f16)⟩)
     clear hb0 f0 f1 f2 f3 f4 f5 f6 f7 f8 f9 f10 f11 f12 f13 f14 f15 f16 hb hK
     go_simp
     simpa [upd, dg] using key
    ·
     have dg := f3 (haft ⟨3, .guard⟩ (by simp) rfl)
     rw [if_pos (by simp [Region.wanted, yielded, dg])]
     have hb := yw W
     have key := hK.out (.int .i64 lo) W (by rw [hGN]; exact ⟨hB.next hb, yb hb0 hb, (kV f0), (kV f1), (kV f2), (kV f3), (kV f4), yu, (kD f6 hb), (kV f7), (kV f8), (kV f9), (kV f10), (kV f11), (kV f12), (kD f13 hb), (kV f14), (kV f15), (kV f16)⟩)
     clear hb0 f0 f1 f2 f3 f4 f5 f6 f7 f8 f9 f10 f11 f12 f13 f14 f15 f16 hb hK
     go_simp
     simpa [upd, dg] using key
    ·
     have d5 := f5 (haft ⟨5, .data⟩ (by simp) rfl)
     have D5 := d5
     have dg := f3 (haft ⟨3, .guard⟩ (by simp) rfl)
     rw [if_pos (by simp [Region.wanted, yielded, dg])]
     have HALL := yk (ya hK (ya hB (ya hb0 ( ya f0 ( ya f1 ( ya f2 ( ya f3 ( ya f4 ( ya f5 ( ya f6 ( ya f7 ( ya f8 ( ya f9 ( ya f10 ( ya f11 ( ya f12 ( ya f13 ( ya f14 ( ya f15 ( ya f16 (True.intro)))))))))))))))))))))
     clear hK hb0 f0 f1 f2 f3 f4 f5 f6 f7 f8 f9 f10 f11 f12 f13 f14 f15 f16
     go_simp
     go_at_call 52
     refine (pint_dy lo _ L1.out.1 L1.out.2 (tab_below HT.out hB.1)).mono ?_
     rintro en w4 ⟨v1, rfl, hr, hb⟩
     obtain ⟨hK, hB, hb0, f0, f1, f2, f3, f4, f5, f6, f7, f8, f9, f10, f11, f12, f13, f14, f15, f16, _⟩ := HALL.out
     have key := hK.out (v1) w4 (by rw [hGN]; exact ⟨hB.next hb, yb hb0 hb, (kV f0), (kV f1), (kV f2), (kV f3), (kV f4), (kV f5), fun _ => by rw [upd_eq]; exact (by rw [HL.out]; exact (HP.out _ _ _ _ hr).lower (lw hB.2)), (kV f7), (kV f8), (kV f9), (kV f10), (kV f11), (kV f12), (kD f13 hb), (kV f14), (kV f15), (kV f16)⟩)
     clear hb0 f0 f1 f2 f3 f4 f5 f6 f7 f8 f9 f10 f11 f12 f13 f14 f15 f16 hK HALL
     simpa [upd, D5, dg] using key
    ·
     have d4 := f4 (haft ⟨4, .data⟩ (by simp) rfl)
     have D4 := d4
     have d6 := f6 (haft ⟨6, .data⟩ (by simp) rfl)
     have D6 := d6
     have dg := f3 (haft ⟨3, .guard⟩ (by simp) rfl)
     rw [if_pos (by simp [Region.wanted, yielded, dg])]
     have HALL := yk (ya hK (ya hB (ya hb0 ( ya f0 ( ya f1 ( ya f2 ( ya f3 ( ya f4 ( ya f5 ( ya f6 ( ya f7 ( ya f8 ( ya f9 ( ya f10 ( ya f11 ( ya f12 ( ya f13 ( ya f14 ( ya f15 ( ya f16 (True.intro)))))))))))))))))))))
     clear hK hb0 f0 f1 f2 f3 f4 f5 f6 f7 f8 f9 f10 f11 f12 f13 f14 f15 f16
     go_simp
     go_at_call 51
     refine (cmp_ok (HCD.out.below hB.1) d6.c OO.out OL.out (tab_below HT.out hB.1)).mono ?_
     rintro en w4 ⟨rfl, hb⟩
     obtain ⟨hK, hB, hb0, f0, f1, f2, f3, f4, f5, f6, f7, f8, f9, f10, f11, f12, f13, f14, f15, f16, _⟩ := HALL.out
     have key := hK.out (.int .i64 (cmpZ z lM)) w4 (by rw [hGN]; exact ⟨hB.next hb, yb hb0 hb, (kV f0), (kV f1), (kV f2), (kV f3), (kV f4), (kV f5), (kD f6 hb), yu, (kV f8), (kV f9), (kV f10), (kV f11), (kV f12), (kD f13 hb), (kV f14), (kV f15), (kV f16)⟩)
     clear hb0 f0 f1 f2 f3 f4 f5 f6 f7 f8 f9 f10 f11 f12 f13 f14 f15 f16 hK HALL
     simpa [upd, D4, dg] using key
    ·
     have d7 := f7 (haft ⟨7, .data⟩ (by simp) rfl)
     have D7 := d7
     have dg := f3 (haft ⟨3, .guard⟩ (by simp) rfl)
     rw [if_pos (by simp [Region.wanted, yielded, dg])]
     have hc1 := HC1.out
     have hb := yw W
     have key := hK.out (.bool false) W (by rw [hGN]; exact ⟨hB.next hb, yb hb0 hb, (kV f0), (kV f1), (kV f2), (kV f3), (kV f4), (kV f5), (kD f6 hb), (kV f7), yu, (kV f9), (kV f10), (kV f11), (kV f12), (kD f13 hb), (kV f14), (kV f15), (kV f16)⟩)
     clear hb0 f0 f1 f2 f3 f4 f5 f6 f7 f8 f9 f10 f11 f12 f13 f14 f15 f16 hb hK
     go_simp
     simpa [upd, D7, dg] using key
    ·
     have d3 := f3 (haft ⟨3, .data⟩ (by simp) rfl)
     have D3 := d3
     have d8 := f8 (haft ⟨8, .data⟩ (by simp) rfl)
     have D8 := d8
     rw [if_pos (by rfl)]
     have hb := yw W
     have key := hK.out (.bool false) W (by rw [hGN]; exact ⟨hB.next hb, yb hb0 hb, (kV f0), (kV f1), (kV f2), (kV f3), (kV f4), (kV f5), (kD f6 hb), (kV f7), (kV f8), yu, (kV f10), (kV f11), (kV f12), (kD f13 hb), (kV f14), (kV f15), (kV f16)⟩)
     clear hb0 f0 f1 f2 f3 f4 f5 f6 f7 f8 f9 f10 f11 f12 f13 f14 f15 f16 hb hK
     go_simp
     simpa [upd, D3, D8] using key
    ·
     have d9 := f9 (haft ⟨9, .data⟩ (by simp) rfl)
     have D9 := d9
     rw [if_pos (by rfl)]
     have hb := yw W
     have key := hK.out (.bool false) W (by rw [hGN]; exact ⟨hB.next hb, yb hb0 hb, (kV f0), (kV f1), (kV f2), (kV f3), (kV f4), (kV f5), (kD f6 hb), (kV f7), (kV f8), (kV f9), yu, (kV f11), (kV f12), (kD f13 hb), (kV f14), (kV f15), (kV f16)⟩)
     clear hb0 f0 f1 f2 f3 f4 f5 f6 f7 f8 f9 f10 f11 f12 f13 f14 f15 f16 hb hK
     go_simp
     simpa [upd, D9] using key
    ·
     have dg := f10 (haft ⟨10, .guard⟩ (by simp) rfl)
     rw [if_pos (by simp [Region.wanted, yielded, dg])]
     have cc0 := (box_cell (v := .bool b0) hb0 0 rfl).1
     have cc1 := (box_cell (v := .slice A n0 c) hb0 1 rfl).1
     have cc2 := (box_cell (v := .int .i64 x0) hb0 2 rfl).1
     have hb := yw W
     have key := hK.out (.agg #[.bool b0, .slice A n0 c, .int .i64 x0]) W (by rw [hGN]; exact ⟨hB.next hb, yb hb0 hb, (kV f0), (kV f1), (kV f2), (kV f3), (kV f4), (kV f5), (kD f6 hb), (kV f7), (kV f8), (kV f9), (kV f10), yu, (kV f12), (kD f13 hb), (kV f14), (kV f15), (kV f16)⟩)
     clear hb0 f0 f1 f2 f3 f4 f5 f6 f7 f8 f9 f10 f11 f12 f13 f14 f15 f16 hb hK
     go_simp
     simpa [upd, dg] using key
    ·
     have dg := f10 (haft ⟨10, .guard⟩ (by simp) rfl)
     rw [if_pos (by simp [Region.wanted, yielded, dg])]
     have hb := yw W
     have key := hK.out (.int .i64 hi) W (by rw [hGN]; exact ⟨hB.next hb, yb hb0 hb, (kV f0), (kV f1), (kV f2), (kV f3), (kV f4), (kV f5), (kD f6 hb), (kV f7), (kV f8), (kV f9), (kV f10), (kV f11), yu, (kD f13 hb), (kV f14), (kV f15), (kV f16)⟩)
     clear hb0 f0 f1 f2 f3 f4 f5 f6 f7 f8 f9 f10 f11 f12 f13 f14 f15 f16 hb hK
     go_simp
     simpa [upd, dg] using key
    ·
     have d12 := f12 (haft ⟨12, .data⟩ (by simp) rfl)
     have D12 := d12
     have dg := f10 (haft ⟨10, .guard⟩ (by simp) rfl)
     rw [if_pos (by simp [Region.wanted, yielded, dg])]
     have HALL := yk (ya hK (ya hB (ya hb0 ( ya f0 ( ya f1 ( ya f2 ( ya f3 ( ya f4 ( ya f5 ( ya f6 ( ya f7 ( ya f8 ( ya f9 ( ya f10 ( ya f11 ( ya f12 ( ya f13 ( ya f14 ( ya f15 ( ya f16 (True.intro)))))))))))))))))))))
     clear hK hb0 f0 f1 f2 f3 f4 f5 f6 f7 f8 f9 f10 f11 f12 f13 f14 f15 f16
     go_simp
     go_at_call 52
     refine (pint_dy hi _ H1.out.1 H1.out.2 (tab_below HT.out hB.1)).mono ?_
     rintro en w4 ⟨v1, rfl, hr, hb⟩
     obtain ⟨hK, hB, hb0, f0, f1, f2, f3, f4, f5, f6, f7, f8, f9, f10, f11, f12, f13, f14, f15, f16, _⟩ := HALL.out
     have key := hK.out (v1) w4 (by rw [hGN]; exact ⟨hB.next hb, yb hb0 hb, (kV f0), (kV f1), (kV f2), (kV f3), (kV f4), (kV f5), (kD f6 hb), (kV f7), (kV f8), (kV f9), (kV f10), (kV f11), (kV f12), fun _ => by rw [upd_eq]; exact (by rw [HH.out]; exact (HP.out _ _ _ _ hr).lower (lw hB.2)), (kV f14), (kV f15), (kV f16)⟩)
     clear hb0 f0 f1 f2 f3 f4 f5 f6 f7 f8 f9 f10 f11 f12 f13 f14 f15 f16 hK HALL
     simpa [upd, D12, dg] using key
    ·
     have d11 := f11 (haft ⟨11, .data⟩ (by simp) rfl)
     have D11 := d11
     have d13 := f13 (haft ⟨13, .data⟩ (by simp) rfl)
     have D13 := d13
     have dg := f10 (haft ⟨10, .guard⟩ (by simp) rfl)
     rw [if_pos (by simp [Region.wanted, yielded, dg])]
     have HALL := yk (ya hK (ya hB (ya hb0 ( ya f0 ( ya f1 ( ya f2 ( ya f3 ( ya f4 ( ya f5 ( ya f6 ( ya f7 ( ya f8 ( ya f9 ( ya f10 ( ya f11 ( ya f12 ( ya f13 ( ya f14 ( ya f15 ( ya f16 (True.intro)))))))))))))))))))))
     clear hK hb0 f0 f1 f2 f3 f4 f5 f6 f7 f8 f9 f10 f11 f12 f13 f14 f15 f16
     go_simp
     go_at_call 51
     refine (cmp_ok (HCD.out.below hB.1) d13.c OO.out OH.out (tab_below HT.out hB.1)).mono ?_
     rintro en w4 ⟨rfl, hb⟩
     obtain ⟨hK, hB, hb0, f0, f1, f2, f3, f4, f5, f6, f7, f8, f9, f10, f11, f12, f13, f14, f15, f16, _⟩ := HALL.out
     have key := hK.out (.int .i64 (cmpZ z hM2)) w4 (by rw [hGN]; exact ⟨hB.next hb, yb hb0 hb, (kV f0), (kV f1), (kV f2), (kV f3), (kV f4), (kV f5), (kD f6 hb), (kV f7), (kV f8), (kV f9), (kV f10), (kV f11), (kV f12), (kD f13 hb), yu, (kV f15), (kV f16)⟩)
     clear hb0 f0 f1 f2 f3 f4 f5 f6 f7 f8 f9 f10 f11 f12 f13 f14 f15 f16 hK HALL
     simpa [upd, D11, dg] using key
    ·
     have d14 := f14 (haft ⟨14, .data⟩ (by simp) rfl)
     have D14 := d14
     have dg := f10 (haft ⟨10, .guard⟩ (by simp) rfl)
     rw [if_pos (by simp [Region.wanted, yielded, dg])]
     have hc2 := HC2.out
     have hb := yw W
     have key := hK.out (.bool c2) W (by rw [hGN]; exact ⟨hB.next hb, yb hb0 hb, (kV f0), (kV f1), (kV f2), (kV f3), (kV f4), (kV f5), (kD f6 hb), (kV f7), (kV f8), (kV f9), (kV f10), (kV f11), (kV f12), (kD f13 hb), (kV f14), yu, (kV f16)⟩)
     clear hb0 f0 f1 f2 f3 f4 f5 f6 f7 f8 f9 f10 f11 f12 f13 f14 f15 f16 hb hK
     go_simp
     simpa [upd, D14, dg] using key
    ·
     have d10 := f10 (haft ⟨10, .data⟩ (by simp) rfl)
     have D10 := d10
     have d15 := f15 (haft ⟨15, .data⟩ (by simp) rfl)
     have D15 := d15
     rw [if_pos (by rfl)]
     have hb := yw W
     have key := hK.out (.bool c2) W (by rw [hGN]; exact ⟨hB.next hb, yb hb0 hb, (kV f0), (kV f1), (kV f2), (kV f3), (kV f4), (kV f5), (kD f6 hb), (kV f7), (kV f8), (kV f9), (kV f10), (kV f11), (kV f12), (kD f13 hb), (kV f14), (kV f15), yu⟩)
     clear hb0 f0 f1 f2 f3 f4 f5 f6 f7 f8 f9 f10 f11 f12 f13 f14 f15 f16 hb hK
     go_simp
     simpa [upd, D10, D15] using key
   case hendN =>
    intro v W L0 hall hGv
    rw [hGN] at hGv
    obtain ⟨hB, hb0, f0, f1, f2, f3, f4, f5, f6, f7, f8, f9, f10, f11, f12, f13, f14, f15, f16⟩ := hGv
    have d16 := f16 (hall 16 (by decide))
    replace BEL := yk hB
    replace X0 := yk hb0
    clear hall hB hb0 f0 f1 f2 f3 f4 f5 f6 f7 f8 f9 f10 f11 f12 f13 f14 f15 f16
    simp only [setAll, List.setIfInBounds_toArray, List.set_cons_zero, List.set_cons_succ, Nat.reduceAdd, d16]
    clear d16
    cases c2
    case true =>
     have HN := yk (small_hi (lo := lo) (of_decide_eq_true ((cmpZ_dgt z hM2).symm.trans HC2.out |> (HH.out ▸ ·))))
     go_wp2_with fail
     go_ret2
     exact ⟨by rw [HN.out]; rfl, BEL.out.1⟩
    case false =>
     obtain ⟨s, es, em, ed, ez⟩ := HWS.out
     rw [← HXE.out] at es
     subst es
     have HNH := yk (of_decide_eq_false ((cmpZ_dgt z hM2).symm.trans HC2.out))
     have HN := yk (small_in em (by rw [← HL.out]; have := HNL.out; omega) (by rw [← HH.out]; have := HNH.out; omega))
     have HED := yk ed
     have HC2 := HC2
     obtain ⟨-, -, hC1, hC2, -⟩ := CDy.parts (HCD.out.below BEL.out.1)
     have hp1 : 0 < n0 := by rw [← hC2]; exact limbs_len_pos (cman_ne HZ.out)
     obtain ⟨ad, x, hA, hx0, hcell⟩ := at_word hC1 hC2 0 hp1
     subst hA
     have hz0 : ad.add 0 = ad := by simp [Addr.add]
     rw [hz0] at hcell
     have HXW := yk (limbs_zeroth (cman_ne HZ.out) hx0)
     clear em ed ez hC1 hC2 hx0 hz0
     obtain ⟨q0, q0', q1, q1', q2, q2'⟩ := bc3 X0.out
     go_wp2_with fail
     go_quiet (fail)
     clear q0 q0' q1 q1' q2 q2'
     replace BEL := yk (BEL.out.next (quiet_below ⟨nq, rfl⟩))
     replace X0 := yk (yb X0.out (quiet_below ⟨nq, rfl⟩))
     cases b0
     case false =>
      obtain ⟨q3, q3', q4, q4', q5, q5'⟩ := bc3 X0.out
      go_wp2_with fail
      go_ret2
      refine ⟨?_, BEL.out.1⟩
      rw [HN.out]
      exact congrArg (fun q => Ending.returned (.tuple #[.int .i64 q, .bool true])) (small_pos HZ.out HMP.out HXW.out HED.out (by rw [← HL.out]; have := HNL.out; omega) (by rw [← HH.out]; have := HNH.out; omega) HLO.out HHI.out HBE.out)
     case true =>
      obtain ⟨q3, q3', q4, q4', q5, q5'⟩ := bc3 X0.out
      go_wp2_with fail
      go_ret2
      refine ⟨?_, BEL.out.1⟩
      rw [HN.out]
      exact congrArg (fun q => Ending.returned (.tuple #[.int .i64 q, .bool true])) (small_neg HZ.out HMP.out HXW.out HED.out (by rw [← HL.out]; have := HNL.out; omega) (by rw [← HH.out]; have := HNH.out; omega) HLO.out HHI.out HBE.out)
theorem at1_any {u : Value} {z n z0 e0 : Int} {b g1 g2 : Nat} {tb ts : Bool} {tA : Option Addr} {tn tc : Nat} {tx : Int} {w : World} (h : CDy w u z (-1074)) (o : Ok z (-1074)) (hn : n.natAbs < 2 ^ 62)
 (h1 : w.heap[g1]? = some (.cells #[.int .i64 n] 2 (0, 0))) (h2 : w.heap[g2]? = some (.cells #[.bool tb, .slice tA tn tc, .int .i64 tx, .bool ts] 40 (0, 0))) (hP : PT w b (.agg #[.bool tb, .slice tA tn tc, .int .i64 tx, .bool ts]) z0 e0 true) (hT : TabAt 0 Lib.deBruijn64tab w) :
 Calls Tryz.prog 62 #[u, .pointer (some ⟨g1, 0, none⟩), .pointer (some ⟨g2, 0, none⟩)] w fun en w' => ∃ v', en = .returned v' ∧ PO w' b v' (if z = n * 2 ^ 1074 then some (z0, e0) else none) ∧ Below w.heap.size w w' := by
 obtain ⟨b0, A, n0, c, x0, rfl⟩ := h.ex
 obtain ⟨-, ts1⟩ := hP.d
 subst ts1
 have HGS := yk (ya (lt_blk h1) (lt_blk h2))
 have HG1 := yk h1
 have HG2 := yk h2
 have QI := yk (fun (W : World) (hb : Below w.heap.size w W) => is_any n (h.below hb) o hn (tab_below hT hb))
 have P0 := yk (hP.below (below_alloc (below_alloc yr (.cells #[.bool b0, .slice A n0 c, .int .i64 x0] 27)) (.cells #[.bool false, .slice none 0 0, .int .i64 0, .bool false] 40)))
 clear h o hn h1 h2 hP hT
 generalize n * 2 ^ 1074 = M at *
 obtain ⟨G, hG⟩ : ∃ G, G = if z = M then some (z0, e0) else none := ⟨_, rfl⟩
 rw [← hG]
 have HGG := yk hG
 clear hG
 go_enter Tryz.func62, Tryz.ntmps62
 obtain ⟨BEL, X0, XR⟩ := al2 w 2 #[.bool b0, .slice A n0 c, .int .i64 x0] 27 #[.bool false, .slice none 0 0, .int .i64 0, .bool false] 40
 have G1 := yk (blk_alloc (blk_alloc HG1.out (.cells #[.bool b0, .slice A n0 c, .int .i64 x0] 27)) (.cells #[.bool false, .slice none 0 0, .int .i64 0, .bool false] 40))
 have G2 := yk (blk_alloc (blk_alloc HG2.out (.cells #[.bool b0, .slice A n0 c, .int .i64 x0] 27)) (.cells #[.bool false, .slice none 0 0, .int .i64 0, .bool false] 40))
 obtain ⟨q0, q0', q1, q1', q2, q2'⟩ := bc3 X0.out
 obtain ⟨q3, q3'⟩ := box_cell G1.out 0 rfl
 go_wp2_with fail
 clear q0 q0' q1 q1' q2 q2' q3 q3'
 go_at_call 63
 refine (QI.out _ BEL.out.1).mono ?_
 rintro en1 w1 ⟨rfl, hb⟩
 replace BEL := yk (BEL.out.next hb)
 replace X0 := yk (yb X0.out hb)
 replace XR := yk (yb XR.out hb)
 replace G1 := yk (yb G1.out hb)
 replace G2 := yk (yb G2.out hb)
 replace P0 := yk (P0.out.below hb)
 clear hb
 by_cases hz : z = M
 case pos =>
  have hd : decide (z = M) = true := decide_eq_true hz
  have HZ := yk hz
  clear hz
  obtain ⟨q4, q4', q5, q5', q6, q6', q7, q7'⟩ := bc4 G2.out
  go_wp2_with (clear q4 q4' q5 q5' q6 q6' q7 q7'; ((with_reducible refine gate_store (p := 4) rfl ?_); go_must (refine store_box 40 4 (.tmp 8) rfl rfl rfl (g := w.heap.size + 1) (e := 40) (.agg #[.bool tb, .slice tA tn tc, .int .i64 tx, .bool true]) ([.bool tb, .slice tA tn tc, .int .i64 tx, .bool true]) rfl rfl rfl info_told ?b1 XR.out rfl ?_; (case b1 => intro q hq; simp at hq; rcases hq with rfl | rfl | rfl | rfl <;> rfl); intro wb hbx hgx; have HX := yk hbx; have HG := yk hgx; clear hbx hgx)); replace P0 := yk (P0.out.grown_box XR.out (by decide) HG.out); replace BEL := yk (BEL.out.grown HG.out (by omega)); replace X0 := yk (blk_grown X0.out HG.out (by have h_g := HGS.out; omega)); replace G1 := yk (blk_grown G1.out HG.out (by have h_g := HGS.out; omega)); replace G2 := yk (blk_grown G2.out HG.out (by have h_g := HGS.out; omega)); replace XR := HX; clear HG)
  refine bodyPost_ret (results_told rfl _ _ (w.heap.size + 1) _ rfl XR.out rfl) rfl ?_
  rw [HGG.out, if_pos HZ.out]
  exact ⟨_, rfl, P0.out, BEL.out.1⟩
 case neg =>
  have hd : decide (z = M) = false := decide_eq_false hz
  have HZ := yk hz
  clear hz
  go_wp2_with (((with_reducible refine gate_store (p := 4) rfl ?_); go_must (refine store_box 40 4 (.tmp 9) rfl rfl rfl (g := w.heap.size + 1) (e := 40) (.agg #[.bool false, .slice none 0 0, .int .i64 0, .bool false]) ([.bool false, .slice none 0 0, .int .i64 0, .bool false]) rfl rfl rfl info_told ?b1 XR.out rfl ?_; (case b1 => intro q hq; simp at hq; rcases hq with rfl | rfl | rfl | rfl <;> rfl); intro wb hbx hgx; have HX := yk hbx; have HG := yk hgx; clear hbx hgx)); replace P0 := yk (P0.out.grown_box XR.out (by decide) HG.out); replace BEL := yk (BEL.out.grown HG.out (by omega)); replace X0 := yk (blk_grown X0.out HG.out (by have h_g := HGS.out; omega)); replace G1 := yk (blk_grown G1.out HG.out (by have h_g := HGS.out; omega)); replace G2 := yk (blk_grown G2.out HG.out (by have h_g := HGS.out; omega)); replace XR := HX; clear HG)
  refine bodyPost_ret (results_told rfl _ _ (w.heap.size + 1) _ rfl XR.out rfl) rfl ?_
  rw [HGG.out, if_neg HZ.out]
  exact ⟨_, rfl, PO.none _ _, BEL.out.1⟩

/-- 2^n less so much, over the unit 2^(min n 0). -/
def powV (n less : Int) : Int × Int := (2 ^ (n - min n 0).toNat - less * 2 ^ (-(min n 0)).toNat, min n 0)
theorem PDy.pow {W : World} {b : Nat} {v : Value} {n : Int} (h : PDy W b v 1 n) : PDy W b v (2 ^ (n - min n 0).toNat) (min n 0) := by
 have q := PDy.scale (e := min n 0) (n - min n 0).toNat (by rw [show min n 0 + ((n - min n 0).toNat : Int) = n by omega]; exact h)
 rw [Int.one_mul] at q
 exact q
theorem PDy.down {W : World} {b : Nat} {v : Value} {n l : Int} (h : PDy W b v l 0) : PDy W b v (l * 2 ^ (-(min n 0)).toNat) (min n 0) :=
 PDy.scale (e := min n 0) (-(min n 0)).toNat (by rw [show min n 0 + ((-(min n 0)).toNat : Int) = 0 by omega]; exact h)
theorem pow_Ok {n : Int} (h1 : -16384 ≤ n) (h2 : n ≤ 16384) : Ok (2 ^ (n - min n 0).toNat) (min n 0) := Ok.of _ (sm_pow _) (by omega) (by omega) (by omega)
theorem down_Ok {n l : Int} (h1 : -16384 ≤ n) (h2 : n ≤ 16384) (hl : l.natAbs < 2 ^ 20) : Ok (l * 2 ^ (-(min n 0)).toNat) (min n 0) := Ok.of _ (sm_mul hl) (by omega) (by omega) (by omega)
theorem smallF_in {M z lo hi n : Int} (hM : 0 < M) (h : smallF M z lo hi = some n) : lo ≤ n ∧ n ≤ hi := by
 unfold smallF at h
 split at h
 · rename_i h1
   obtain ⟨-, h2, h3⟩ := h1
   cases h
   exact ⟨Int.le_ediv_of_mul_le hM h2, Int.ediv_le_of_le_mul hM h3⟩
 · cases h

theorem power2_any {u : Value} {z lo hi less : Int} {g1 g2 g3 g4 : Nat} {w : World} (h : CDy w u z (-1074)) (o : Ok z (-1074)) (hlo : -16384 ≤ lo) (hhi : hi ≤ 16384) (hl0 : lo.natAbs < 2 ^ 20) (hh0 : hi.natAbs < 2 ^ 20) (hl : less.natAbs < 2 ^ 20)
 (h1 : w.heap[g1]? = some (.cells #[.int .i64 lo] 2 (0, 0))) (h2 : w.heap[g2]? = some (.cells #[.int .i64 hi] 2 (0, 0))) (h3 : w.heap[g3]? = some (.cells #[.int .i64 2] 3 (0, 0))) (h4 : w.heap[g4]? = some (.cells #[.int .i64 less] 2 (0, 0))) (hT : TabAt 0 Lib.deBruijn64tab w) :
 Calls Tryz.prog 65 #[u, .pointer (some ⟨g1, 0, none⟩), .pointer (some ⟨g2, 0, none⟩), .pointer (some ⟨g3, 0, none⟩), .pointer (some ⟨g4, 0, none⟩)] w fun en w' => ∃ v', en = .returned v' ∧ PO w' w.heap.size v' ((smallF (2 ^ 1074) z lo hi).map (fun n => powV n less)) ∧ Below w.heap.size w w' := by
 obtain ⟨b0, A, n0, c, x0, rfl⟩ := h.ex
 have HGS := yk (ya (lt_blk h1) (ya (lt_blk h2) (ya (lt_blk h3) (lt_blk h4))))
 have HG1 := yk h1
 have HG2 := yk h2
 have HG3 := yk h3
 have HG4 := yk h4
 have HT := yk hT
 have L1 := yk (ya (show -9223372036854775808 ≤ less by omega) (show less < 9223372036854775808 by omega))
 have HL := yk hl
 have QS := yk (fun (W : World) (hb : Below w.heap.size w W) => small_any lo hi (h.below hb) o hl0 hh0 (tab_below hT hb))
 have HIN := yk (fun (n : Int) (hn : smallF (2 ^ 1074) z lo hi = some n) => (by
  have q := smallF_in (Int.pow_pos (by decide)) hn
  omega : -16384 ≤ n ∧ n ≤ 16384))
 clear h o h1 h2 h3 h4 hT hlo hhi hl0 hh0 hl
 generalize smallF (2 ^ 1074) z lo hi = sf at *
 go_enter Tryz.func65, Tryz.ntmps65
 obtain ⟨BEL, X0, XR⟩ := al2 w 2 #[.bool b0, .slice A n0 c, .int .i64 x0] 27 #[.bool false, .slice none 0 0, .int .i64 0, .bool false] 40
 have G1 := yk (blk_alloc (blk_alloc HG1.out (.cells #[.bool b0, .slice A n0 c, .int .i64 x0] 27)) (.cells #[.bool false, .slice none 0 0, .int .i64 0, .bool false] 40))
 have G2 := yk (blk_alloc (blk_alloc HG2.out (.cells #[.bool b0, .slice A n0 c, .int .i64 x0] 27)) (.cells #[.bool false, .slice none 0 0, .int .i64 0, .bool false] 40))
 have G3 := yk (blk_alloc (blk_alloc HG3.out (.cells #[.bool b0, .slice A n0 c, .int .i64 x0] 27)) (.cells #[.bool false, .slice none 0 0, .int .i64 0, .bool false] 40))
 have G4 := yk (blk_alloc (blk_alloc HG4.out (.cells #[.bool b0, .slice A n0 c, .int .i64 x0] 27)) (.cells #[.bool false, .slice none 0 0, .int .i64 0, .bool false] 40))
 obtain ⟨q0, q0', q1, q1', q2, q2'⟩ := bc3 X0.out
 obtain ⟨q3, q3'⟩ := box_cell G1.out 0 rfl
 obtain ⟨q4, q4'⟩ := box_cell G2.out 0 rfl
 go_wp2_with fail
 clear q0 q0' q1 q1' q2 q2' q3 q3' q4 q4'
 go_at_call 66
 refine (QS.out _ BEL.out.1).mono ?_
 rintro en1 w1 ⟨rfl, hb⟩
 replace BEL := yk (BEL.out.next hb)
 replace X0 := yk (yb X0.out hb)
 replace XR := yk (yb XR.out hb)
 replace G1 := yk (yb G1.out hb)
 replace G2 := yk (yb G2.out hb)
 replace G3 := yk (yb G3.out hb)
 replace G4 := yk (yb G4.out hb)
 clear hb
 cases hsf : sf
 case none =>
  have HSF := yk hsf
  clear hsf
  go_wp2_with (((with_reducible refine gate_store (p := 6) rfl ?_); go_must (refine store_box 40 6 (.tmp 19) rfl rfl rfl (g := w.heap.size + 1) (e := 40) (.agg #[.bool false, .slice none 0 0, .int .i64 0, .bool false]) ([.bool false, .slice none 0 0, .int .i64 0, .bool false]) rfl rfl rfl info_told ?b1 XR.out rfl ?_; (case b1 => intro q hq; simp at hq; rcases hq with rfl | rfl | rfl | rfl <;> rfl); intro wb hbx hgx; have HX := yk hbx; have HG := yk hgx; clear hbx hgx)); replace BEL := yk (BEL.out.grown HG.out (by omega)); replace X0 := yk (blk_grown X0.out HG.out (by have h_g := HGS.out; omega)); replace G1 := yk (blk_grown G1.out HG.out (by have h_g := HGS.out; omega)); replace G2 := yk (blk_grown G2.out HG.out (by have h_g := HGS.out; omega)); replace G3 := yk (blk_grown G3.out HG.out (by have h_g := HGS.out; omega)); replace G4 := yk (blk_grown G4.out HG.out (by have h_g := HGS.out; omega)); replace XR := HX; clear HG)
  refine bodyPost_ret (results_told rfl _ _ (w.heap.size + 1) _ rfl XR.out rfl) rfl ?_
  rw [HSF.out]
  exact ⟨_, rfl, PO.none _ _, BEL.out.1⟩
 case some n =>
  have HIB := yk (HIN.out n hsf)
  have HSF := yk hsf
  clear hsf
  go_wp2_with fail
  go_at_call 67
  refine (ppower_dy n _).mono ?_
  have BL2 := BEL
  rintro en2 w2 ⟨v2, rfl, hr, hb⟩
  replace BEL := yk (BEL.out.next hb)
  replace X0 := yk (yb X0.out hb)
  replace XR := yk (yb XR.out hb)
  replace G1 := yk (yb G1.out hb)
  replace G2 := yk (yb G2.out hb)
  replace G3 := yk (yb G3.out hb)
  replace G4 := yk (yb G4.out hb)
  have P1 := yk hr
  obtain ⟨b2, A2, n2, c2, x2, rfl⟩ := hr.ex
  clear hr hb
  have BLW := BEL
  have BELo := BEL
  go_wp2_with (replace BEL := yk ((BEL.out.alloc (.cells #[.bool false, .slice none 0 0, .int .i64 0] 27)).less (j := 2) (by omega)); have HN := yk (blk_new w2 (.cells #[.bool false, .slice none 0 0, .int .i64 0] 27)); have L_X0 := lt_blk X0.out; replace X0 := yk (blk_alloc X0.out (.cells #[.bool false, .slice none 0 0, .int .i64 0] 27)); have L_XR := lt_blk XR.out; replace XR := yk (blk_alloc XR.out (.cells #[.bool false, .slice none 0 0, .int .i64 0] 27)); have L_G1 := lt_blk G1.out; replace G1 := yk (blk_alloc G1.out (.cells #[.bool false, .slice none 0 0, .int .i64 0] 27)); have L_G2 := lt_blk G2.out; replace G2 := yk (blk_alloc G2.out (.cells #[.bool false, .slice none 0 0, .int .i64 0] 27)); have L_G3 := lt_blk G3.out; replace G3 := yk (blk_alloc G3.out (.cells #[.bool false, .slice none 0 0, .int .i64 0] 27)); have L_G4 := lt_blk G4.out; replace G4 := yk (blk_alloc G4.out (.cells #[.bool false, .slice none 0 0, .int .i64 0] 27)); replace P1 := yk (P1.out.below (below_alloc yr (.cells #[.bool false, .slice none 0 0, .int .i64 0] 27))); ((with_reducible refine gate_store (p := 9) rfl ?_); go_must (refine sdy 9 (.tmp 21) rfl rfl rfl rfl rfl HN.out rfl ?_; intro wb HX HG)); replace P1 := yk (P1.out.grown_box HN.out (by decide) HG.out); have LB_XD := BELo.out.2; replace BEL := yk (BEL.out.grown HG.out (Nat.le_trans (Nat.le_add_right _ _) LB_XD)); replace X0 := yk (blk_grown X0.out HG.out (Nat.ne_of_lt L_X0)); replace XR := yk (blk_grown XR.out HG.out (Nat.ne_of_lt L_XR)); replace G1 := yk (blk_grown G1.out HG.out (Nat.ne_of_lt L_G1)); replace G2 := yk (blk_grown G2.out HG.out (Nat.ne_of_lt L_G2)); replace G3 := yk (blk_grown G3.out HG.out (Nat.ne_of_lt L_G3)); replace G4 := yk (blk_grown G4.out HG.out (Nat.ne_of_lt L_G4)); have NE_X0_XD := yk (Nat.ne_of_lt L_X0); have NE_XR_XD := yk (Nat.ne_of_lt L_XR); have NE_G1_XD := yk (Nat.ne_of_lt L_G1); have NE_G2_XD := yk (Nat.ne_of_lt L_G2); have NE_G3_XD := yk (Nat.ne_of_lt L_G3); have NE_G4_XD := yk (Nat.ne_of_lt L_G4); clear L_X0; clear L_XR; clear L_G1; clear L_G2; clear L_G3; clear L_G4; have LL_XD := yk LB_XD; clear LB_XD; have XD := HX; clear HG HN HX; obtain ⟨q5, q5'⟩ := box_cell G3.out 0 rfl)
  replace P1 := yk P1.out.pow
  have HTN := yk (pow_Ok HIB.out.1 HIB.out.2)
  have HLS := yk (down_Ok HIB.out.1 HIB.out.2 HL.out)
  have BL3 := BEL
  go_upto_region 7 with fail
  obtain ⟨GM, hGM⟩ : ∃ G : (Nat → Prop) → (Nat → Value) → World → Prop, G = fun L v W => BelN w 2 W ∧ W.heap[w2.heap.size]? = some (.cells #[.bool b2, .slice A2 n2 c2, .int .i64 x2] 27 (0, 0)) ∧ W.heap[g4]? = some (.cells #[.int .i64 less] 2 (0, 0)) ∧ PDy W w.heap.size (.agg #[.bool b2, .slice A2 n2 c2, .int .i64 x2]) (2 ^ (n - min n 0).toNat) (min n 0) ∧ (L 0 → (v 0) = .agg #[.bool b2, .slice A2 n2 c2, .int .i64 x2]) ∧ (L 1 → (v 1) = .int .i64 less) ∧ (L 2 → PDy W w.heap.size (v 2) (less * 2 ^ (-(min n 0)).toNat) (min n 0)) ∧ (L 3 → PDy W w.heap.size (v 3) (2 ^ (n - min n 0).toNat - less * 2 ^ (-(min n 0)).toNat) (min n 0)) ∧ (L 4 → PT W w.heap.size (v 4) (2 ^ (n - min n 0).toNat - less * 2 ^ (-(min n 0)).toNat) (min n 0) true) ∧ ((¬ L 5 → W.heap[w.heap.size + 1]? = some (.cells #[.bool false, .slice none 0 0, .int .i64 0, .bool false] 40 (0, 0))) ∧ (L 5 → ∃ (bb : Bool) (A : Option Addr) (n c : Nat) (x : Int) (b2 : Bool), (v 4) = .agg #[.bool bb, .slice A n c, .int .i64 x, .bool b2] ∧ W.heap[w.heap.size + 1]? = some (.cells #[.bool bb, .slice A n c, .int .i64 x, .bool b2] 40 (0, 0)))) := ⟨_, rfl⟩
  refine wp_region_slotsV [26, 27, 28, 29, 30] (by kernel_rfl) (by kernel_rfl) (G := GM) ?h0M ?hstepM ?hendM
  case h0M =>
   intro v; rw [hGM]
   exact ⟨BEL.out.next (below_drew yr), blk_drew XD.out, blk_drew G4.out, (P1.out.below (below_drew yr)).lower (Nat.le_trans (Nat.le_add_right _ _) BL2.out.2), fun h => h.elim, fun h => h.elim, fun h => h.elim, fun h => h.elim, fun h => h.elim, ⟨fun _ => blk_drew XR.out, fun h => h.elim⟩⟩
  case hstepM =>
   intro k o ho v W L hGv hnk haft hcl K hK
   rw [hGM] at hGv
   obtain ⟨hB, hb0, hb1, hk0, f0, f1, f2, f3, f4, f5⟩ := hGv
   rcases k with _ | _ | _ | _ | _ | _ | k
   all_goals first
    | (cases ho; done)
    | (obtain rfl := (Option.some.inj ho).symm
       clear ho
       rw [if_pos (by rfl)]
       simp only [setAll, List.setIfInBounds_toArray, List.set_cons_zero, List.set_cons_succ, List.set_nil, List.getElem_toArray, List.getElem_cons_zero, List.getElem_cons_succ, Nat.reduceAdd] at haft hK ⊢)
   ·
    have cc0 := (box_cell (v := .bool b2) hb0 0 rfl).1
    have cc1 := (box_cell (v := .slice A2 n2 c2) hb0 1 rfl).1
    have cc2 := (box_cell (v := .int .i64 x2) hb0 2 rfl).1
    have hb := yw W
    have key := hK.out (.agg #[.bool b2, .slice A2 n2 c2, .int .i64 x2]) W (by rw [hGM]; exact ⟨hB.next hb, yb hb0 hb, yb hb1 hb, hk0.below hb, yu, (kV f1), (kD f2 hb), (kD f3 hb), (fun h => by rw [upd_ne v _ (by decide)]; exact (f4 (yx h)).below hb), (⟨fun h2 => yb (f5.1 (fun h3 => h2 (.inl h3))) hb, fun h2 => by rw [upd_ne v _ (by decide)]; obtain ⟨bb, A, n, c, x, b2, y1, y2⟩ := f5.2 (yx h2); exact ⟨bb, A, n, c, x, b2, y1, yb y2 hb⟩⟩)⟩)
    clear hb0 hb1 hk0 f0 f1 f2 f3 f4 f5 hb hK
    go_simp
    simpa [upd] using key
   ·
    have cc0 := (box_cell (v := .int .i64 less) hb1 0 rfl).1
    have hb := yw W
    have key := hK.out (.int .i64 less) W (by rw [hGM]; exact ⟨hB.next hb, yb hb0 hb, yb hb1 hb, hk0.below hb, (kV f0), yu, (kD f2 hb), (kD f3 hb), (fun h => by rw [upd_ne v _ (by decide)]; exact (f4 (yx h)).below hb), (⟨fun h2 => yb (f5.1 (fun h3 => h2 (.inl h3))) hb, fun h2 => by rw [upd_ne v _ (by decide)]; obtain ⟨bb, A, n, c, x, b2, y1, y2⟩ := f5.2 (yx h2); exact ⟨bb, A, n, c, x, b2, y1, yb y2 hb⟩⟩)⟩)
    clear hb0 hb1 hk0 f0 f1 f2 f3 f4 f5 hb hK
    go_simp
    simpa [upd] using key
   ·
    have d1 := f1 (haft ⟨1, .data⟩ (by simp) rfl)
    have D1 := d1
    have HALL := yk (ya hK (ya hB (ya hb0 ( ya hb1 ( ya hk0 ( ya f0 ( ya f1 ( ya f2 ( ya f3 ( ya f4 ( ya f5 (True.intro))))))))))))
    clear hK hb0 hb1 hk0 f0 f1 f2 f3 f4 f5
    go_simp
    go_at_call 52
    refine (pint_dy less _ L1.out.1 L1.out.2 (tab_below HT.out hB.1)).mono ?_
    rintro en w4 ⟨v1, rfl, hr, hb⟩
    obtain ⟨hK, hB, hb0, hb1, hk0, f0, f1, f2, f3, f4, f5, _⟩ := HALL.out
    have key := hK.out (v1) w4 (by rw [hGM]; exact ⟨hB.next hb, yb hb0 hb, yb hb1 hb, hk0.below hb, (kV f0), (kV f1), fun _ => by rw [upd_eq]; exact (hr.down).lower (lw hB.2), (kD f3 hb), (fun h => by rw [upd_ne v _ (by decide)]; exact (f4 (yx h)).below hb), (⟨fun h2 => yb (f5.1 (fun h3 => h2 (.inl h3))) hb, fun h2 => by rw [upd_ne v _ (by decide)]; obtain ⟨bb, A, n, c, x, b2, y1, y2⟩ := f5.2 (yx h2); exact ⟨bb, A, n, c, x, b2, y1, yb y2 hb⟩⟩)⟩)
    clear hb0 hb1 hk0 f0 f1 f2 f3 f4 f5 hK HALL
    simpa [upd, D1] using key
   ·
    have d0 := f0 (haft ⟨0, .data⟩ (by simp) rfl)
    have D0 := d0
    have d2 := f2 (haft ⟨2, .data⟩ (by simp) rfl)
    have D2 := d2
    have K1 := hk0
    have HALL := yk (ya hK (ya hB (ya hb0 ( ya hb1 ( ya hk0 ( ya f0 ( ya f1 ( ya f2 ( ya f3 ( ya f4 ( ya f5 (True.intro))))))))))))
    clear hK hb0 hb1 hk0 f0 f1 f2 f3 f4 f5
    go_simp
    go_at_call 69
    refine (sub_ok K1.c d2.c HTN.out HLS.out (tab_below HT.out hB.1)).mono ?_
    rintro en w4 ⟨v1, rfl, hr, hb⟩
    obtain ⟨hK, hB, hb0, hb1, hk0, f0, f1, f2, f3, f4, f5, _⟩ := HALL.out
    have key := hK.out (v1) w4 (by rw [hGM]; exact ⟨hB.next hb, yb hb0 hb, yb hb1 hb, hk0.below hb, (kV f0), (kV f1), (kD f2 hb), fun _ => by rw [upd_eq]; exact hr.lower (lw hB.2), (fun h => by rw [upd_ne v _ (by decide)]; exact (f4 (yx h)).below hb), (⟨fun h2 => yb (f5.1 (fun h3 => h2 (.inl h3))) hb, fun h2 => by rw [upd_ne v _ (by decide)]; obtain ⟨bb, A, n, c, x, b2, y1, y2⟩ := f5.2 (yx h2); exact ⟨bb, A, n, c, x, b2, y1, yb y2 hb⟩⟩)⟩)
    clear hb0 hb1 hk0 f0 f1 f2 f3 f4 f5 hK HALL
    simpa [upd, D0] using key
   ·
    have hns5 : ¬ L 5 := fun hs => hnk (hcl 5 _ rfl hs ⟨4, .data⟩ (by simp) rfl)
    have d3 := f3 (haft ⟨3, .data⟩ (by simp) rfl)
    have D3 := d3
    have HALL := yk (ya hK (ya hB (ya hb0 ( ya hb1 ( ya hk0 ( ya f0 ( ya f1 ( ya f2 ( ya f3 ( ya f4 ( ya f5 (True.intro))))))))))))
    clear hK hb0 hb1 hk0 f0 f1 f2 f3 f4 f5
    go_simp
    go_at_call 64
    refine (number_any d3).mono ?_
    rintro en w4 ⟨v1, rfl, hr, hb⟩
    obtain ⟨hK, hB, hb0, hb1, hk0, f0, f1, f2, f3, f4, f5, _⟩ := HALL.out
    have key := hK.out (v1) w4 (by rw [hGM]; exact ⟨hB.next hb, yb hb0 hb, yb hb1 hb, hk0.below hb, (kV f0), (kV f1), (kD f2 hb), (kD f3 hb), fun _ => by rw [upd_eq]; exact hr, (⟨fun h2 => yb (f5.1 (fun h3 => h2 (.inl h3))) hb, fun h2 => (hns5 (yx h2)).elim⟩)⟩)
    clear hb0 hb1 hk0 f0 f1 f2 f3 f4 f5 hK HALL
    simpa [upd] using key
   ·
    have h_g := HGS.out
    have h_n := NE_XR_XD.out
    have hgb := f5.1 hnk
    have ds := f4 (haft ⟨4, .data⟩ (by simp) rfl)
    obtain ⟨bb, A, n, c, x, b2, es⟩ := ds.ex
    refine wp_store_box 40 6 (.tmp 30) rfl rfl (g := w.heap.size + 1) (e := 40) (v 4) [.bool bb, .slice A n c, .int .i64 x, .bool b2] (by first | rfl | exact rfl) rfl (by rw [es]; rfl) info_told ?_ hgb rfl ?_
    · intro q hq; simp at hq; rcases hq with rfl | rfl | rfl | rfl <;> rfl
    · intro w1 hw1 hg
      have key := hK.out undef w1 (by rw [hGM]; exact ⟨hB.grown hg (by omega), blk_grown hb0 hg (by omega), blk_grown hb1 hg (by omega), hk0.grown_box hgb (by decide) hg, (kV f0), (kV f1), (kG f2 hgb hg), (kG f3 hgb hg), (fun h => by rw [upd_ne v _ (by decide)]; exact (f4 (yx h)).grown_box hgb (by decide) hg), ⟨fun h => (h (.inr rfl)).elim, fun _ => by rw [upd_ne v _ (by decide)]; exact ⟨bb, A, n, c, x, b2, es, hw1⟩⟩⟩)
      clear hb0 hb1 hk0 f0 f1 f2 f3 f4 f5 hK
      simpa [upd] using key
  case hendM =>
   intro v W L0 hall hGv
   rw [hGM] at hGv
   obtain ⟨hB, hb0, hb1, hk0, f0, f1, f2, f3, f4, f5⟩ := hGv
   have d4 := f4 (hall 4 (by decide))
   obtain ⟨b9, A9, n9, c9, x9, s9, p9, hx9⟩ := f5.2 (hall 5 (by decide))
   rw [p9] at d4
   replace BEL := yk hB
   replace XR := yk hx9
   have P9 := yk d4
   clear hall f0 f1 f2 f3 f4 f5 hB hb0 hb1 hk0 d4 hx9
   simp only [setAll, List.setIfInBounds_toArray, List.set_cons_zero, List.set_cons_succ, Nat.reduceAdd, p9]
   go_wp2
   refine bodyPost_ret (results_told rfl _ _ (w.heap.size + 1) _ rfl XR.out rfl) rfl ?_
   rw [HSF.out]
   exact ⟨_, rfl, P9.out.some, BEL.out.1⟩

theorem power10_any {u : Value} {z lo hi less : Int} {g1 g2 g3 g4 : Nat} {w : World} (h : CDy w u z (-1074)) (o : Ok z (-1074)) (hlo : -16384 ≤ lo) (hhi : hi ≤ 16384) (hl0 : lo.natAbs < 2 ^ 20) (hh0 : hi.natAbs < 2 ^ 20) (hl : less.natAbs < 2 ^ 20) (hten : 0 ≤ lo) (hten2 : hi ≤ 50)
 (h1 : w.heap[g1]? = some (.cells #[.int .i64 lo] 2 (0, 0))) (h2 : w.heap[g2]? = some (.cells #[.int .i64 hi] 2 (0, 0))) (h3 : w.heap[g3]? = some (.cells #[.int .i64 10] 3 (0, 0))) (h4 : w.heap[g4]? = some (.cells #[.int .i64 less] 2 (0, 0))) (hT : TabAt 0 Lib.deBruijn64tab w) :
 Calls Tryz.prog 65 #[u, .pointer (some ⟨g1, 0, none⟩), .pointer (some ⟨g2, 0, none⟩), .pointer (some ⟨g3, 0, none⟩), .pointer (some ⟨g4, 0, none⟩)] w fun en w' => ∃ v', en = .returned v' ∧ PO w' w.heap.size v' ((smallF (2 ^ 1074) z lo hi).map (fun n => (tenI n.toNat - less, 0))) ∧ Below w.heap.size w w' := by
 obtain ⟨b0, A, n0, c, x0, rfl⟩ := h.ex
 have HGS := yk (ya (lt_blk h1) (ya (lt_blk h2) (ya (lt_blk h3) (lt_blk h4))))
 have HG1 := yk h1
 have HG2 := yk h2
 have HG3 := yk h3
 have HG4 := yk h4
 have HT := yk hT
 have L1 := yk (ya (show -9223372036854775808 ≤ less by omega) (show less < 9223372036854775808 by omega))
 have HL := yk hl
 have QS := yk (fun (W : World) (hb : Below w.heap.size w W) => small_any lo hi (h.below hb) o hl0 hh0 (tab_below hT hb))
 have HIN := yk (fun (n : Int) (hn : smallF (2 ^ 1074) z lo hi = some n) => (by
  have q := smallF_in (Int.pow_pos (by decide)) hn
  omega : -16384 ≤ n ∧ n ≤ 16384 ∧ 0 ≤ n ∧ n ≤ 50))
 clear h o h1 h2 h3 h4 hT hlo hhi hl0 hh0 hl hten hten2
 generalize smallF (2 ^ 1074) z lo hi = sf at *
 go_enter Tryz.func65, Tryz.ntmps65
 obtain ⟨BEL, X0, XR⟩ := al2 w 2 #[.bool b0, .slice A n0 c, .int .i64 x0] 27 #[.bool false, .slice none 0 0, .int .i64 0, .bool false] 40
 have G1 := yk (blk_alloc (blk_alloc HG1.out (.cells #[.bool b0, .slice A n0 c, .int .i64 x0] 27)) (.cells #[.bool false, .slice none 0 0, .int .i64 0, .bool false] 40))
 have G2 := yk (blk_alloc (blk_alloc HG2.out (.cells #[.bool b0, .slice A n0 c, .int .i64 x0] 27)) (.cells #[.bool false, .slice none 0 0, .int .i64 0, .bool false] 40))
 have G3 := yk (blk_alloc (blk_alloc HG3.out (.cells #[.bool b0, .slice A n0 c, .int .i64 x0] 27)) (.cells #[.bool false, .slice none 0 0, .int .i64 0, .bool false] 40))
 have G4 := yk (blk_alloc (blk_alloc HG4.out (.cells #[.bool b0, .slice A n0 c, .int .i64 x0] 27)) (.cells #[.bool false, .slice none 0 0, .int .i64 0, .bool false] 40))
 obtain ⟨q0, q0', q1, q1', q2, q2'⟩ := bc3 X0.out
 obtain ⟨q3, q3'⟩ := box_cell G1.out 0 rfl
 obtain ⟨q4, q4'⟩ := box_cell G2.out 0 rfl
 go_wp2_with fail
 clear q0 q0' q1 q1' q2 q2' q3 q3' q4 q4'
 go_at_call 66
 refine (QS.out _ BEL.out.1).mono ?_
 rintro en1 w1 ⟨rfl, hb⟩
 replace BEL := yk (BEL.out.next hb)
 replace X0 := yk (yb X0.out hb)
 replace XR := yk (yb XR.out hb)
 replace G1 := yk (yb G1.out hb)
 replace G2 := yk (yb G2.out hb)
 replace G3 := yk (yb G3.out hb)
 replace G4 := yk (yb G4.out hb)
 clear hb
 cases hsf : sf
 case none =>
  have HSF := yk hsf
  clear hsf
  go_wp2_with (((with_reducible refine gate_store (p := 6) rfl ?_); go_must (refine store_box 40 6 (.tmp 19) rfl rfl rfl (g := w.heap.size + 1) (e := 40) (.agg #[.bool false, .slice none 0 0, .int .i64 0, .bool false]) ([.bool false, .slice none 0 0, .int .i64 0, .bool false]) rfl rfl rfl info_told ?b1 XR.out rfl ?_; (case b1 => intro q hq; simp at hq; rcases hq with rfl | rfl | rfl | rfl <;> rfl); intro wb hbx hgx; have HX := yk hbx; have HG := yk hgx; clear hbx hgx)); replace BEL := yk (BEL.out.grown HG.out (by omega)); replace X0 := yk (blk_grown X0.out HG.out (by have h_g := HGS.out; omega)); replace G1 := yk (blk_grown G1.out HG.out (by have h_g := HGS.out; omega)); replace G2 := yk (blk_grown G2.out HG.out (by have h_g := HGS.out; omega)); replace G3 := yk (blk_grown G3.out HG.out (by have h_g := HGS.out; omega)); replace G4 := yk (blk_grown G4.out HG.out (by have h_g := HGS.out; omega)); replace XR := HX; clear HG)
  refine bodyPost_ret (results_told rfl _ _ (w.heap.size + 1) _ rfl XR.out rfl) rfl ?_
  rw [HSF.out]
  exact ⟨_, rfl, PO.none _ _, BEL.out.1⟩
 case some n =>
  have HIB := yk (HIN.out n hsf)
  have HSF := yk hsf
  clear hsf
  obtain ⟨k, rfl⟩ := Int.eq_ofNat_of_zero_le HIB.out.2.2.1
  have HK := yk (show k ≤ 50 by have := HIB.out; omega)
  go_wp2_with fail
  go_at_call 67
  refine (ppower_dy ((k : Nat) : Int) _).mono ?_
  have BL2 := BEL
  rintro en2 w2 ⟨v2, rfl, hr, hb⟩
  replace BEL := yk (BEL.out.next hb)
  replace X0 := yk (yb X0.out hb)
  replace XR := yk (yb XR.out hb)
  replace G1 := yk (yb G1.out hb)
  replace G2 := yk (yb G2.out hb)
  replace G3 := yk (yb G3.out hb)
  replace G4 := yk (yb G4.out hb)
  have P1 := yk hr
  obtain ⟨b2, A2, n2, c2, x2, rfl⟩ := hr.ex
  clear hr hb
  have BLW := BEL
  have BELo := BEL
  go_wp2_with (replace BEL := yk ((BEL.out.alloc (.cells #[.bool false, .slice none 0 0, .int .i64 0] 27)).less (j := 2) (by omega)); have HN := yk (blk_new w2 (.cells #[.bool false, .slice none 0 0, .int .i64 0] 27)); have L_X0 := lt_blk X0.out; replace X0 := yk (blk_alloc X0.out (.cells #[.bool false, .slice none 0 0, .int .i64 0] 27)); have L_XR := lt_blk XR.out; replace XR := yk (blk_alloc XR.out (.cells #[.bool false, .slice none 0 0, .int .i64 0] 27)); have L_G1 := lt_blk G1.out; replace G1 := yk (blk_alloc G1.out (.cells #[.bool false, .slice none 0 0, .int .i64 0] 27)); have L_G2 := lt_blk G2.out; replace G2 := yk (blk_alloc G2.out (.cells #[.bool false, .slice none 0 0, .int .i64 0] 27)); have L_G3 := lt_blk G3.out; replace G3 := yk (blk_alloc G3.out (.cells #[.bool false, .slice none 0 0, .int .i64 0] 27)); have L_G4 := lt_blk G4.out; replace G4 := yk (blk_alloc G4.out (.cells #[.bool false, .slice none 0 0, .int .i64 0] 27)); replace P1 := yk (P1.out.below (below_alloc yr (.cells #[.bool false, .slice none 0 0, .int .i64 0] 27))); ((with_reducible refine gate_store (p := 9) rfl ?_); go_must (refine sdy 9 (.tmp 21) rfl rfl rfl rfl rfl HN.out rfl ?_; intro wb HX HG)); replace P1 := yk (P1.out.grown_box HN.out (by decide) HG.out); have LB_XD := BELo.out.2; replace BEL := yk (BEL.out.grown HG.out (Nat.le_trans (Nat.le_add_right _ _) LB_XD)); replace X0 := yk (blk_grown X0.out HG.out (Nat.ne_of_lt L_X0)); replace XR := yk (blk_grown XR.out HG.out (Nat.ne_of_lt L_XR)); replace G1 := yk (blk_grown G1.out HG.out (Nat.ne_of_lt L_G1)); replace G2 := yk (blk_grown G2.out HG.out (Nat.ne_of_lt L_G2)); replace G3 := yk (blk_grown G3.out HG.out (Nat.ne_of_lt L_G3)); replace G4 := yk (blk_grown G4.out HG.out (Nat.ne_of_lt L_G4)); have NE_X0_XD := yk (Nat.ne_of_lt L_X0); have NE_XR_XD := yk (Nat.ne_of_lt L_XR); have NE_G1_XD := yk (Nat.ne_of_lt L_G1); have NE_G2_XD := yk (Nat.ne_of_lt L_G2); have NE_G3_XD := yk (Nat.ne_of_lt L_G3); have NE_G4_XD := yk (Nat.ne_of_lt L_G4); clear L_X0; clear L_XR; clear L_G1; clear L_G2; clear L_G3; clear L_G4; have LL_XD := yk LB_XD; clear LB_XD; have XD := HX; clear HG HN HX; obtain ⟨q5, q5'⟩ := box_cell G3.out 0 rfl)
  clear q5 q5'
  go_at_call 68
  refine (ten_any k HK.out _ (tab_below HT.out BEL.out.1)).mono ?_
  have BL4 := BEL
  rintro en3 w3 ⟨v3, rfl, hr, hb⟩
  replace BEL := yk (BEL.out.next hb)
  replace X0 := yk (yb X0.out hb)
  replace XR := yk (yb XR.out hb)
  replace G1 := yk (yb G1.out hb)
  replace G2 := yk (yb G2.out hb)
  replace G3 := yk (yb G3.out hb)
  replace G4 := yk (yb G4.out hb)
  replace XD := yk (yb XD.out hb)
  replace P1 := yk (P1.out.below hb)
  have P2 := yk hr
  obtain ⟨b3, A3, n3, c3, x3, rfl⟩ := hr.ex
  clear hr hb
  go_wp2_with (((with_reducible refine gate_store (p := 9) rfl ?_); go_must (refine sdy 9 (.tmp 25) rfl rfl rfl rfl rfl XD.out rfl ?_; intro wb HX HG)); replace P1 := yk (P1.out.grown_box XD.out (by decide) HG.out); replace P2 := yk (P2.out.grown_box XD.out (by decide) HG.out); replace BEL := yk (BEL.out.grown HG.out (Nat.le_trans (Nat.le_add_right _ _) LL_XD.out)); replace X0 := yk (blk_grown X0.out HG.out NE_X0_XD.out); replace XR := yk (blk_grown XR.out HG.out NE_XR_XD.out); replace G1 := yk (blk_grown G1.out HG.out NE_G1_XD.out); replace G2 := yk (blk_grown G2.out HG.out NE_G2_XD.out); replace G3 := yk (blk_grown G3.out HG.out NE_G3_XD.out); replace G4 := yk (blk_grown G4.out HG.out NE_G4_XD.out); replace XD := HX; clear HG)
  have HTN : Aside0 (Ok (tenI k) 0) := ⟨Ok.of _ (tenI_small (i := k) (by have := HK.out; omega)) (by decide) (by decide) (by decide)⟩
  have HLS : Aside0 (Ok less 0) := ⟨Ok.of 20 HL.out (by decide) (by decide) (by decide)⟩
  have BL3 := BEL
  go_upto_region 7 with fail
  obtain ⟨GM, hGM⟩ : ∃ G : (Nat → Prop) → (Nat → Value) → World → Prop, G = fun L v W => BelN w 2 W ∧ W.heap[w2.heap.size]? = some (.cells #[.bool b3, .slice A3 n3 c3, .int .i64 x3] 27 (0, 0)) ∧ W.heap[g4]? = some (.cells #[.int .i64 less] 2 (0, 0)) ∧ PDy W w.heap.size (.agg #[.bool b3, .slice A3 n3 c3, .int .i64 x3]) (tenI k) 0 ∧ (L 0 → (v 0) = .agg #[.bool b3, .slice A3 n3 c3, .int .i64 x3]) ∧ (L 1 → (v 1) = .int .i64 less) ∧ (L 2 → PDy W w.heap.size (v 2) less 0) ∧ (L 3 → PDy W w.heap.size (v 3) (tenI k - less) 0) ∧ (L 4 → PT W w.heap.size (v 4) (tenI k - less) 0 true) ∧ ((¬ L 5 → W.heap[w.heap.size + 1]? = some (.cells #[.bool false, .slice none 0 0, .int .i64 0, .bool false] 40 (0, 0))) ∧ (L 5 → ∃ (bb : Bool) (A : Option Addr) (n c : Nat) (x : Int) (b2 : Bool), (v 4) = .agg #[.bool bb, .slice A n c, .int .i64 x, .bool b2] ∧ W.heap[w.heap.size + 1]? = some (.cells #[.bool bb, .slice A n c, .int .i64 x, .bool b2] 40 (0, 0)))) := ⟨_, rfl⟩
  refine wp_region_slotsV [26, 27, 28, 29, 30] (by kernel_rfl) (by kernel_rfl) (G := GM) ?h0M ?hstepM ?hendM
  case h0M =>
   intro v; rw [hGM]
   exact ⟨BEL.out.next (below_drew yr), blk_drew XD.out, blk_drew G4.out, (P2.out.below (below_drew yr)).lower (Nat.le_trans (Nat.le_add_right _ _) BL4.out.2), fun h => h.elim, fun h => h.elim, fun h => h.elim, fun h => h.elim, fun h => h.elim, ⟨fun _ => blk_drew XR.out, fun h => h.elim⟩⟩
  case hstepM =>
   intro k o ho v W L hGv hnk haft hcl K hK
   rw [hGM] at hGv
   obtain ⟨hB, hb0, hb1, hk0, f0, f1, f2, f3, f4, f5⟩ := hGv
   rcases k with _ | _ | _ | _ | _ | _ | k
   all_goals first
    | (cases ho; done)
    | (obtain rfl := (Option.some.inj ho).symm
       clear ho
       rw [if_pos (by rfl)]
       simp only [setAll, List.setIfInBounds_toArray, List.set_cons_zero, List.set_cons_succ, List.set_nil, List.getElem_toArray, List.getElem_cons_zero, List.getElem_cons_succ, Nat.reduceAdd] at haft hK ⊢)
   ·
    have cc0 := (box_cell (v := .bool b3) hb0 0 rfl).1
    have cc1 := (box_cell (v := .slice A3 n3 c3) hb0 1 rfl).1
    have cc2 := (box_cell (v := .int .i64 x3) hb0 2 rfl).1
    have hb := yw W
    have key := hK.out (.agg #[.bool b3, .slice A3 n3 c3, .int .i64 x3]) W (by rw [hGM]; exact ⟨hB.next hb, yb hb0 hb, yb hb1 hb, hk0.below hb, yu, (kV f1), (kD f2 hb), (kD f3 hb), (fun h => by rw [upd_ne v _ (by decide)]; exact (f4 (yx h)).below hb), (⟨fun h2 => yb (f5.1 (fun h3 => h2 (.inl h3))) hb, fun h2 => by rw [upd_ne v _ (by decide)]; obtain ⟨bb, A, n, c, x, b2, y1, y2⟩ := f5.2 (yx h2); exact ⟨bb, A, n, c, x, b2, y1, yb y2 hb⟩⟩)⟩)
    clear hb0 hb1 hk0 f0 f1 f2 f3 f4 f5 hb hK
    go_simp
    simpa [upd] using key
   ·
    have cc0 := (box_cell (v := .int .i64 less) hb1 0 rfl).1
    have hb := yw W
    have key := hK.out (.int .i64 less) W (by rw [hGM]; exact ⟨hB.next hb, yb hb0 hb, yb hb1 hb, hk0.below hb, (kV f0), yu, (kD f2 hb), (kD f3 hb), (fun h => by rw [upd_ne v _ (by decide)]; exact (f4 (yx h)).below hb), (⟨fun h2 => yb (f5.1 (fun h3 => h2 (.inl h3))) hb, fun h2 => by rw [upd_ne v _ (by decide)]; obtain ⟨bb, A, n, c, x, b2, y1, y2⟩ := f5.2 (yx h2); exact ⟨bb, A, n, c, x, b2, y1, yb y2 hb⟩⟩)⟩)
    clear hb0 hb1 hk0 f0 f1 f2 f3 f4 f5 hb hK
    go_simp
    simpa [upd] using key
   ·
    have d1 := f1 (haft ⟨1, .data⟩ (by simp) rfl)
    have D1 := d1
    have HALL := yk (ya hK (ya hB (ya hb0 ( ya hb1 ( ya hk0 ( ya f0 ( ya f1 ( ya f2 ( ya f3 ( ya f4 ( ya f5 (True.intro))))))))))))
    clear hK hb0 hb1 hk0 f0 f1 f2 f3 f4 f5
    go_simp
    go_at_call 52
    refine (pint_dy less _ L1.out.1 L1.out.2 (tab_below HT.out hB.1)).mono ?_
    rintro en w4 ⟨v1, rfl, hr, hb⟩
    obtain ⟨hK, hB, hb0, hb1, hk0, f0, f1, f2, f3, f4, f5, _⟩ := HALL.out
    have key := hK.out (v1) w4 (by rw [hGM]; exact ⟨hB.next hb, yb hb0 hb, yb hb1 hb, hk0.below hb, (kV f0), (kV f1), fun _ => by rw [upd_eq]; exact (hr).lower (lw hB.2), (kD f3 hb), (fun h => by rw [upd_ne v _ (by decide)]; exact (f4 (yx h)).below hb), (⟨fun h2 => yb (f5.1 (fun h3 => h2 (.inl h3))) hb, fun h2 => by rw [upd_ne v _ (by decide)]; obtain ⟨bb, A, n, c, x, b2, y1, y2⟩ := f5.2 (yx h2); exact ⟨bb, A, n, c, x, b2, y1, yb y2 hb⟩⟩)⟩)
    clear hb0 hb1 hk0 f0 f1 f2 f3 f4 f5 hK HALL
    simpa [upd, D1] using key
   ·
    have d0 := f0 (haft ⟨0, .data⟩ (by simp) rfl)
    have D0 := d0
    have d2 := f2 (haft ⟨2, .data⟩ (by simp) rfl)
    have D2 := d2
    have K1 := hk0
    have HALL := yk (ya hK (ya hB (ya hb0 ( ya hb1 ( ya hk0 ( ya f0 ( ya f1 ( ya f2 ( ya f3 ( ya f4 ( ya f5 (True.intro))))))))))))
    clear hK hb0 hb1 hk0 f0 f1 f2 f3 f4 f5
    go_simp
    go_at_call 69
    refine (sub_ok K1.c d2.c HTN.out HLS.out (tab_below HT.out hB.1)).mono ?_
    rintro en w4 ⟨v1, rfl, hr, hb⟩
    obtain ⟨hK, hB, hb0, hb1, hk0, f0, f1, f2, f3, f4, f5, _⟩ := HALL.out
    have key := hK.out (v1) w4 (by rw [hGM]; exact ⟨hB.next hb, yb hb0 hb, yb hb1 hb, hk0.below hb, (kV f0), (kV f1), (kD f2 hb), fun _ => by rw [upd_eq]; exact hr.lower (lw hB.2), (fun h => by rw [upd_ne v _ (by decide)]; exact (f4 (yx h)).below hb), (⟨fun h2 => yb (f5.1 (fun h3 => h2 (.inl h3))) hb, fun h2 => by rw [upd_ne v _ (by decide)]; obtain ⟨bb, A, n, c, x, b2, y1, y2⟩ := f5.2 (yx h2); exact ⟨bb, A, n, c, x, b2, y1, yb y2 hb⟩⟩)⟩)
    clear hb0 hb1 hk0 f0 f1 f2 f3 f4 f5 hK HALL
    simpa [upd, D0] using key
   ·
    have hns5 : ¬ L 5 := fun hs => hnk (hcl 5 _ rfl hs ⟨4, .data⟩ (by simp) rfl)
    have d3 := f3 (haft ⟨3, .data⟩ (by simp) rfl)
    have D3 := d3
    have HALL := yk (ya hK (ya hB (ya hb0 ( ya hb1 ( ya hk0 ( ya f0 ( ya f1 ( ya f2 ( ya f3 ( ya f4 ( ya f5 (True.intro))))))))))))
    clear hK hb0 hb1 hk0 f0 f1 f2 f3 f4 f5
    go_simp
    go_at_call 64
    refine (number_any d3).mono ?_
    rintro en w4 ⟨v1, rfl, hr, hb⟩
    obtain ⟨hK, hB, hb0, hb1, hk0, f0, f1, f2, f3, f4, f5, _⟩ := HALL.out
    have key := hK.out (v1) w4 (by rw [hGM]; exact ⟨hB.next hb, yb hb0 hb, yb hb1 hb, hk0.below hb, (kV f0), (kV f1), (kD f2 hb), (kD f3 hb), fun _ => by rw [upd_eq]; exact hr, (⟨fun h2 => yb (f5.1 (fun h3 => h2 (.inl h3))) hb, fun h2 => (hns5 (yx h2)).elim⟩)⟩)
    clear hb0 hb1 hk0 f0 f1 f2 f3 f4 f5 hK HALL
    simpa [upd] using key
   ·
    have h_g := HGS.out
    have h_n := NE_XR_XD.out
    have hgb := f5.1 hnk
    have ds := f4 (haft ⟨4, .data⟩ (by simp) rfl)
    obtain ⟨bb, A, n, c, x, b2, es⟩ := ds.ex
    refine wp_store_box 40 6 (.tmp 30) rfl rfl (g := w.heap.size + 1) (e := 40) (v 4) [.bool bb, .slice A n c, .int .i64 x, .bool b2] (by first | rfl | exact rfl) rfl (by rw [es]; rfl) info_told ?_ hgb rfl ?_
    · intro q hq; simp at hq; rcases hq with rfl | rfl | rfl | rfl <;> rfl
    · intro w1 hw1 hg
      have key := hK.out undef w1 (by rw [hGM]; exact ⟨hB.grown hg (by omega), blk_grown hb0 hg (by omega), blk_grown hb1 hg (by omega), hk0.grown_box hgb (by decide) hg, (kV f0), (kV f1), (kG f2 hgb hg), (kG f3 hgb hg), (fun h => by rw [upd_ne v _ (by decide)]; exact (f4 (yx h)).grown_box hgb (by decide) hg), ⟨fun h => (h (.inr rfl)).elim, fun _ => by rw [upd_ne v _ (by decide)]; exact ⟨bb, A, n, c, x, b2, es, hw1⟩⟩⟩)
      clear hb0 hb1 hk0 f0 f1 f2 f3 f4 f5 hK
      simpa [upd] using key
  case hendM =>
   intro v W L0 hall hGv
   rw [hGM] at hGv
   obtain ⟨hB, hb0, hb1, hk0, f0, f1, f2, f3, f4, f5⟩ := hGv
   have d4 := f4 (hall 4 (by decide))
   obtain ⟨b9, A9, n9, c9, x9, s9, p9, hx9⟩ := f5.2 (hall 5 (by decide))
   rw [p9] at d4
   replace BEL := yk hB
   replace XR := yk hx9
   have P9 := yk d4
   clear hall f0 f1 f2 f3 f4 f5 hB hb0 hb1 hk0 d4 hx9
   simp only [setAll, List.setIfInBounds_toArray, List.set_cons_zero, List.set_cons_succ, Nat.reduceAdd, p9]
   go_wp2
   refine bodyPost_ret (results_told rfl _ _ (w.heap.size + 1) _ rfl XR.out rfl) rfl ?_
   rw [HSF.out]
   exact ⟨_, rfl, P9.out.some, BEL.out.1⟩
/-- A function of the program that a call enters. -/
def Enters (m : Nat) : Prop := ∀ (args : Array Value) (W : World), (callFunc m args).run Tryz.prog W = .ok (.enter m args) W
/-- A function value that tells G z of a number z, in all later worlds. -/
def Clo (w : World) (b m : Nat) (cap : Array Value) (G : Int → Option (Int × Int)) : Prop :=
 Enters m ∧ ∀ (W : World) (u : Value) (z : Int), Below w.heap.size w W → CDy W u z (-1074) → z.natAbs < 2 ^ 2098 → TabAt 0 Lib.deBruijn64tab W →
  Calls Tryz.prog m (#[u] ++ cap) W fun en W' => ∃ v', en = .returned v' ∧ PO W' b v' (G z) ∧ Below W.heap.size W W'
theorem Clo.below {w w1 : World} {b m : Nat} {cap : Array Value} {G : Int → Option (Int × Int)} (h : Clo w b m cap G) (hb : Below w.heap.size w w1) : Clo w1 b m cap G :=
 ⟨h.1, fun W u z hW hu hz hT => h.2 W u z (below_then hb hb.size hW) hu hz hT⟩
/-- A function of places on the circle. -/
def SpotFn (m : Nat) (K : Int → Int → Option (Int × Int)) : Prop :=
 Enters m ∧ ∀ (W : World) (b : Nat) (v : Value) (k r : Int), PS W b v k r (-1074) → r.natAbs < 2 ^ 3500 → (k = 0 ∨ k = 1 ∨ k = 2 ∨ k = 3) → TabAt 0 Lib.deBruijn64tab W →
  Calls Tryz.prog m #[v] W fun en W' => ∃ v', en = .returned v' ∧ PO W' W.heap.size v' (K k r) ∧ Below W.heap.size W W'
theorem mod4 (n : Int) : n % 4 = 0 ∨ n % 4 = 1 ∨ n % 4 = 2 ∨ n % 4 = 3 := by omega
theorem left_small {z : Int} (hz : z.natAbs < 2 ^ 2098) : (z - nearF z 1072 * 2 ^ 1073).natAbs < 2 ^ 3500 :=
 sm_le (m := 3500) (sm_sub (sm_le (m := 2098 + 3 + 1073) hz (by decide)) (sm_mul (nearF_small hz (by decide)))) (by decide)
theorem ok_r {r : Int} (h : r.natAbs < 2 ^ 3500) : Ok r (-1074) := Ok.of _ h (by decide) (by decide) (by decide)
theorem PO.spot {w : World} {b : Nat} {v : Value} {r s : Int} (h : PT w b v (if r = 0 then s else 0) 0 (decide (r = 0))) : PO w b v (if r = 0 then Option.some (s, 0) else Option.none) := by
 by_cases hr : r = 0
 · rw [if_pos hr, decide_eq_true hr] at h
   rw [if_pos hr]; exact h.some
 · rw [if_neg hr, decide_eq_false hr] at h
   rw [if_neg hr]; exact h
theorem PO.ex6 {w : World} {b : Nat} {v : Value} {o : Option (Int × Int)} (h : PO w b v o) : ∃ bb A n c x s, v = .agg #[.bool bb, .slice A n c, .int .i64 x, .bool s] ∧ s = o.isSome := by
 obtain ⟨bb, A, n, c, x, rfl⟩ := PT.ex5 h; exact ⟨_, _, _, _, _, _, rfl, rfl⟩
theorem enters_of {f : Nat} {fn : Func} (hf : Tryz.prog.funcs[f]? = some fn) (hname : (fn.name == "runtime.NumGoroutine") = false) (hb : fn.body.isNone = false) : Enters f := by
 intro args W
 have h1 : fn.name ≠ "runtime.NumGoroutine" := by simpa using hname
 have h2 : fn.body ≠ Option.none := by intro h; rw [h] at hb; cases hb
 simp [callFunc, hf, h1, h2, Sem.run]
theorem sine_fn : SpotFn 36 (fun k r => if r = 0 then some (sel 0 1 0 (-1) k, 0) else none) := ⟨enters_of Tryz.func36 rfl rfl, fun W b v k r h hr hk hT =>
 (sine_any h (ok_r hr) hk hT).mono fun en W' h => by
   obtain ⟨v', h1, h2, h3⟩ := h; exact ⟨v', h1, PO.spot h2, h3⟩⟩
theorem cosine_fn : SpotFn 37 (fun k r => if r = 0 then some (sel 1 0 (-1) 0 k, 0) else none) := ⟨enters_of Tryz.func37 rfl rfl, fun W b v k r h hr hk hT =>
 (cosine_any h (ok_r hr) hk hT).mono fun en W' h => by
   obtain ⟨v', h1, h2, h3⟩ := h; exact ⟨v', h1, PO.spot h2, h3⟩⟩
theorem tangent_fn : SpotFn 38 (fun k r => tanF k r (2 ^ 1072)) := ⟨enters_of Tryz.func38 rfl rfl, fun W b v k r h hr hk hT =>
 tangent_any h (ok_r hr) (ok_r (by rw [Int.natAbs_natCast]; exact hr)) hk hT⟩

theorem turned1_any {u : Value} {z : Int} {m g1 : Nat} {K : Int → Int → Option (Int × Int)} {w : World} (h : CDy w u z (-1074)) (hz : z.natAbs < 2 ^ 2098) (hF : SpotFn m K)
 (h1 : w.heap[g1]? = some (.cells #[.func (.func m) #[] #[]] 62 (0, 0))) (hT : TabAt 0 Lib.deBruijn64tab w) :
 Calls Tryz.prog 72 #[u, .pointer (some ⟨g1, 0, none⟩)] w fun en w' => ∃ v', en = .returned v' ∧ PO w' w.heap.size v' (K (nearF z 1072 % 4) (z - nearF z 1072 * 2 ^ 1073)) ∧ Below w.heap.size w w' := by
 obtain ⟨b0, A, n0, c, x0, rfl⟩ := h.ex
 have HGS := yk (lt_blk h1)
 have HG1 := yk h1
 have HT := yk hT
 have QO := yk (fun (W : World) (hb : Below w.heap.size w W) => spotOf_any (h.below hb) hz (tab_below hT hb))
 have QF := yk (fun (W : World) (v : Value) (b : Nat) (hp : PS W b v (nearF z 1072 % 4) (z - nearF z 1072 * 2 ^ 1073) (-1074)) (ht : TabAt 0 Lib.deBruijn64tab W) => hF.2 W b v _ _ hp (left_small hz) (mod4 _) ht)
 have HE := yk hF.1
 clear h hz hF h1 hT
 generalize nearF z 1072 % 4 = k at *
 generalize z - nearF z 1072 * 2 ^ 1073 = r at *
 obtain ⟨kr, hkr⟩ : ∃ G, G = K k r := ⟨_, rfl⟩
 rw [← hkr] at QF ⊢
 clear hkr
 go_enter Tryz.func72, Tryz.ntmps72
 go_upto_region 1 with fail
 obtain ⟨BEL, X0, XR⟩ := al2 w 2 #[.bool b0, .slice A n0 c, .int .i64 x0] 27 #[.bool false, .slice none 0 0, .int .i64 0, .bool false] 40
 have G1 := yk (blk_alloc (blk_alloc HG1.out (.cells #[.bool b0, .slice A n0 c, .int .i64 x0] 27)) (.cells #[.bool false, .slice none 0 0, .int .i64 0, .bool false] 40))
 obtain ⟨GM, hGM⟩ : ∃ G : (Nat → Prop) → (Nat → Value) → World → Prop, G = fun L v W => BelN w 2 W ∧ W.heap[w.heap.size]? = some (.cells #[.bool b0, .slice A n0 c, .int .i64 x0] 27 (0, 0)) ∧ W.heap[g1]? = some (.cells #[.func (.func m) #[] #[]] 62 (0, 0)) ∧ (L 0 → (v 0) = .func (.func m) #[] #[]) ∧ (L 1 → (v 1) = .agg #[.bool b0, .slice A n0 c, .int .i64 x0]) ∧ (L 2 → PS W w.heap.size (v 2) k r (-1074)) ∧ (L 3 → PO W w.heap.size (v 3) kr) ∧ ((¬ L 4 → W.heap[w.heap.size + 1]? = some (.cells #[.bool false, .slice none 0 0, .int .i64 0, .bool false] 40 (0, 0))) ∧ (L 4 → ∃ (bb : Bool) (A : Option Addr) (n c : Nat) (x : Int) (b2 : Bool), (v 3) = .agg #[.bool bb, .slice A n c, .int .i64 x, .bool b2] ∧ W.heap[w.heap.size + 1]? = some (.cells #[.bool bb, .slice A n c, .int .i64 x, .bool b2] 40 (0, 0)))) := ⟨_, rfl⟩
 refine wp_region_slotsV [4, 5, 6, 7] (by kernel_rfl) (by kernel_rfl) (G := GM) ?h0M ?hstepM ?hendM
 case h0M =>
  intro v; rw [hGM]
  exact ⟨BEL.out.next (below_drew yr), blk_drew X0.out, blk_drew G1.out, fun h => h.elim, fun h => h.elim, fun h => h.elim, fun h => h.elim, ⟨fun _ => blk_drew XR.out, fun h => h.elim⟩⟩
 case hstepM =>
  intro k o ho v W L hGv hnk haft hcl K hK
  rw [hGM] at hGv
  obtain ⟨hB, hb0, hb1, f0, f1, f2, f3, f4⟩ := hGv
  rcases k with _ | _ | _ | _ | _ | k
  all_goals first
   | (cases ho; done)
   | (obtain rfl := (Option.some.inj ho).symm
      clear ho
      rw [if_pos (by rfl)]
      simp only [setAll, List.setIfInBounds_toArray, List.set_cons_zero, List.set_cons_succ, List.set_nil, List.getElem_toArray, List.getElem_cons_zero, List.getElem_cons_succ, Nat.reduceAdd] at haft hK ⊢)
  ·
   have cc0 := (box_cell (v := .func (.func m) #[] #[]) hb1 0 rfl).1
   have hb := yw W
   have key := hK.out (.func (.func m) #[] #[]) W (by rw [hGM]; exact ⟨hB.next hb, yb hb0 hb, yb hb1 hb, yu, (kV f1), (fun h => by rw [upd_ne v _ (by decide)]; exact (f2 (yx h)).below hb), (fun h => by rw [upd_ne v _ (by decide)]; exact (f3 (yx h)).below hb), (⟨fun h2 => yb (f4.1 (fun h3 => h2 (.inl h3))) hb, fun h2 => by rw [upd_ne v _ (by decide)]; obtain ⟨bb, A, n, c, x, b2, y1, y2⟩ := f4.2 (yx h2); exact ⟨bb, A, n, c, x, b2, y1, yb y2 hb⟩⟩)⟩)
   clear hb0 hb1 f0 f1 f2 f3 f4 hb hK
   go_simp
   simpa [upd] using key
  ·
   have cc0 := (box_cell (v := .bool b0) hb0 0 rfl).1
   have cc1 := (box_cell (v := .slice A n0 c) hb0 1 rfl).1
   have cc2 := (box_cell (v := .int .i64 x0) hb0 2 rfl).1
   have hb := yw W
   have key := hK.out (.agg #[.bool b0, .slice A n0 c, .int .i64 x0]) W (by rw [hGM]; exact ⟨hB.next hb, yb hb0 hb, yb hb1 hb, (kV f0), yu, (fun h => by rw [upd_ne v _ (by decide)]; exact (f2 (yx h)).below hb), (fun h => by rw [upd_ne v _ (by decide)]; exact (f3 (yx h)).below hb), (⟨fun h2 => yb (f4.1 (fun h3 => h2 (.inl h3))) hb, fun h2 => by rw [upd_ne v _ (by decide)]; obtain ⟨bb, A, n, c, x, b2, y1, y2⟩ := f4.2 (yx h2); exact ⟨bb, A, n, c, x, b2, y1, yb y2 hb⟩⟩)⟩)
   clear hb0 hb1 f0 f1 f2 f3 f4 hb hK
   go_simp
   simpa [upd] using key
  ·
   have d1 := f1 (haft ⟨1, .data⟩ (by simp) rfl)
   have D1 := d1
   have HALL := yk (ya hK (ya hB (ya hb0 ( ya hb1 ( ya f0 ( ya f1 ( ya f2 ( ya f3 ( ya f4 (True.intro))))))))))
   clear hK hb0 hb1 f0 f1 f2 f3 f4
   go_simp
   go_at_call 53
   refine (QO.out _ hB.1).mono ?_
   rintro en w4 ⟨v1, rfl, hr, hb⟩
   obtain ⟨hK, hB, hb0, hb1, f0, f1, f2, f3, f4, _⟩ := HALL.out
   have key := hK.out (v1) w4 (by rw [hGM]; exact ⟨hB.next hb, yb hb0 hb, yb hb1 hb, (kV f0), (kV f1), fun _ => by rw [upd_eq]; exact hr.lower (lw hB.2), (fun h => by rw [upd_ne v _ (by decide)]; exact (f3 (yx h)).below hb), (⟨fun h2 => yb (f4.1 (fun h3 => h2 (.inl h3))) hb, fun h2 => by rw [upd_ne v _ (by decide)]; obtain ⟨bb, A, n, c, x, b2, y1, y2⟩ := f4.2 (yx h2); exact ⟨bb, A, n, c, x, b2, y1, yb y2 hb⟩⟩)⟩)
   clear hb0 hb1 f0 f1 f2 f3 f4 hK HALL
   simpa [upd, D1] using key
  ·
   have hns4 : ¬ L 4 := fun hs => hnk (hcl 4 _ rfl hs ⟨3, .data⟩ (by simp) rfl)
   have d0 := f0 (haft ⟨0, .data⟩ (by simp) rfl)
   have D0 := d0
   have d2 := f2 (haft ⟨2, .data⟩ (by simp) rfl)
   have D2 := d2
   have HALL := yk (ya hK (ya hB (ya hb0 ( ya hb1 ( ya f0 ( ya f1 ( ya f2 ( ya f3 ( ya f4 (True.intro))))))))))
   clear hK hb0 hb1 f0 f1 f2 f3 f4
   have hcf := HE.out
   unfold Enters at hcf
   go_simp
   refine (QF.out _ _ _ d2 (tab_below HT.out hB.1)).mono ?_
   rintro en w4 ⟨v1, rfl, hr, hb⟩
   obtain ⟨hK, hB, hb0, hb1, f0, f1, f2, f3, f4, _⟩ := HALL.out
   have key := hK.out (v1) w4 (by rw [hGM]; exact ⟨hB.next hb, yb hb0 hb, yb hb1 hb, (kV f0), (kV f1), (fun h => by rw [upd_ne v _ (by decide)]; exact (f2 (yx h)).below hb), fun _ => by rw [upd_eq]; exact hr.lower (lw hB.2), (⟨fun h2 => yb (f4.1 (fun h3 => h2 (.inl h3))) hb, fun h2 => (hns4 (yx h2)).elim⟩)⟩)
   clear hb0 hb1 f0 f1 f2 f3 f4 hK HALL
   simpa [upd, D0] using key
  ·
   have h_g := HGS.out
   have hgb := f4.1 hnk
   have ds := f3 (haft ⟨3, .data⟩ (by simp) rfl)
   obtain ⟨bb, A, n, c, x, b2, es⟩ := ds.ex
   refine wp_store_box 40 3 (.tmp 7) rfl rfl (g := w.heap.size + 1) (e := 40) (v 3) [.bool bb, .slice A n c, .int .i64 x, .bool b2] (by first | rfl | exact rfl) rfl (by rw [es]; rfl) info_told ?_ hgb rfl ?_
   · intro q hq; simp at hq; rcases hq with rfl | rfl | rfl | rfl <;> rfl
   · intro w1 hw1 hg
     have key := hK.out undef w1 (by rw [hGM]; exact ⟨hB.grown hg (by omega), blk_grown hb0 hg (by omega), blk_grown hb1 hg (by omega), (kV f0), (kV f1), (fun h => by rw [upd_ne v _ (by decide)]; exact (f2 (yx h)).grown_box hgb (by decide) hg), (fun h => by rw [upd_ne v _ (by decide)]; exact (f3 (yx h)).grown_box hgb (by decide) hg), ⟨fun h => (h (.inr rfl)).elim, fun _ => by rw [upd_ne v _ (by decide)]; exact ⟨bb, A, n, c, x, b2, es, hw1⟩⟩⟩)
     clear hb0 hb1 f0 f1 f2 f3 f4 hK
     simpa [upd] using key
 case hendM =>
  intro v W L0 hall hGv
  rw [hGM] at hGv
  obtain ⟨hB, hb0, hb1, f0, f1, f2, f3, f4⟩ := hGv
  have d3 := f3 (hall 3 (by decide))
  obtain ⟨b9, A9, n9, c9, x9, s9, p9, hx9⟩ := f4.2 (hall 4 (by decide))
  rw [p9] at d3
  replace BEL := yk hB
  replace XR := yk hx9
  have P9 := yk d3
  clear hall f0 f1 f2 f3 f4 hB hb0 hb1 d3 hx9
  simp only [setAll, List.setIfInBounds_toArray, List.set_cons_zero, List.set_cons_succ, Nat.reduceAdd, p9]
  go_wp2
  refine bodyPost_ret (results_told rfl _ _ (w.heap.size + 1) _ rfl XR.out rfl) rfl ?_
  exact ⟨_, rfl, P9.out, BEL.out.1⟩

def firstF (Gs : Nat → Int → Option (Int × Int)) (z : Int) : Option (Int × Int) := (Gs 0 z).or ((Gs 1 z).or (Gs 2 z))
theorem first_none {Gs : Nat → Int → Option (Int × Int)} {z : Int} (h : ∀ j, j < 3 → Gs j z = none) : firstF Gs z = none := by
 unfold firstF; rw [h 0 (by decide), h 1 (by decide), h 2 (by decide)]; rfl
theorem first_some {Gs : Nat → Int → Option (Int × Int)} {z : Int} {i : Nat} (hi : i < 3) (h : ∀ j, j < i → Gs j z = none) (hs : (Gs i z).isSome = true) : firstF Gs z = Gs i z := by
 unfold firstF
 obtain ⟨y, hy⟩ := Option.isSome_iff_exists.1 hs
 rcases i with _ | _ | _ | i
 · rw [hy]; rfl
 · rw [h 0 (by decide), hy]; rfl
 · rw [h 0 (by decide), h 1 (by decide), hy]; rfl
 · omega
theorem isSome_false {G : Option (Int × Int)} (h : G.isSome = false) : G = none := by
 cases G with
 | none => rfl
 | some y => cases h
theorem first1_any {u : Value} {z : Int} {b g1 gl : Nat} {ms : Nat → Nat} {caps : Nat → Array Value} {Gs : Nat → Int → Option (Int × Int)} {w : World} (h : CDy w u z (-1074)) (hz : z.natAbs < 2 ^ 2098)
 (hC : ∀ i, i < 3 → Clo w b (ms i) (caps i) (Gs i)) (h1 : w.heap[g1]? = some (.cells #[.slice (some ⟨gl, 0, none⟩) 3 3] 91 (0, 0)))
 (h2 : w.heap[gl]? = some (.cells #[.func (.func (ms 0)) #[] (caps 0), .func (.func (ms 1)) #[] (caps 1), .func (.func (ms 2)) #[] (caps 2)] 41 (0, 0))) (hT : TabAt 0 Lib.deBruijn64tab w) :
 Calls Tryz.prog 74 #[u, .pointer (some ⟨g1, 0, none⟩)] w fun en w' => ∃ v', en = .returned v' ∧ PO w' b v' (firstF Gs z) ∧ Below w.heap.size w w' := by
 obtain ⟨b0, A, n0, c, x0, rfl⟩ := h.ex
 have HGS := yk (ya (lt_blk h1) (lt_blk h2))
 have HG1 := yk h1
 have QC := yk (fun (i : Nat) (hi : i < 3) (W : World) (hb : Below w.heap.size w W) => (hC i hi).2 W _ z hb (h.below hb) hz (tab_below hT hb))
 have QE := yk (fun (i : Nat) (hi : i < 3) (W : World) (hb : Below w.heap.size w W) => (by
  have q := (box_cell (w := W) (v := .func (.func (ms i)) #[] (caps i)) (yb h2 hb) i (by
   rcases i with _ | _ | _ | i
   · rfl
   · rfl
   · rfl
   · omega)).1
  exact q : W.cell? ⟨gl, i, none⟩ = some (.func (.func (ms i)) #[] (caps i))))
 have QEn := yk (fun (i : Nat) (hi : i < 3) => (hC i hi).1)
 clear h hz hC h1 h2 hT
 go_enter Tryz.func74, Tryz.ntmps74
 obtain ⟨BEL, X0, XR⟩ := al2 w 2 #[.bool b0, .slice A n0 c, .int .i64 x0] 27 #[.bool false, .slice none 0 0, .int .i64 0, .bool false] 40
 have G1 := yk (blk_alloc (blk_alloc HG1.out (.cells #[.bool b0, .slice A n0 c, .int .i64 x0] 27)) (.cells #[.bool false, .slice none 0 0, .int .i64 0, .bool false] 40))
 obtain ⟨q0, q0'⟩ := box_cell G1.out 0 rfl
 go_wp2_with fail
 clear q0 q0'
 go_loopw [9] (fun v9 wr => ∃ i : Nat, v9 = .int .i64 i ∧ i ≤ 3 ∧ Aside0 (BelN w 2 wr) ∧ Aside0 (wr.heap[w.heap.size]? = some (.cells #[.bool b0, .slice A n0 c, .int .i64 x0] 27 (0, 0))) ∧ Aside0 (wr.heap[w.heap.size + 1]? = some (.cells #[.bool false, .slice none 0 0, .int .i64 0, .bool false] 40 (0, 0))) ∧ Aside0 (∀ j, j < i → Gs j z = none)) (fun v9 _ => 3 - (intOf v9).toNat)
 case atStart => exact ⟨0, rfl, by decide, BEL, X0, XR, ⟨fun j hj => absurd hj (Nat.not_lt_zero _)⟩⟩
 case round =>
  clear BEL X0 XR
  obtain ⟨i, rfl, hik, BEL, X0, XR, HNO⟩ := hrel
  by_cases hlt : i < 3
  · have hlt' : (i : Int) < 3 := by omega
    have hld : decide ((i : Int) < 3) = true := decide_eq_true hlt'
    have hi0 : (0 : Int) ≤ i := by omega
    have HI := yk hlt
    have hce := QE.out i hlt _ BEL.out.1
    have hcf := QEn.out i hlt
    unfold Enters at hcf
    obtain ⟨q0, q0', q1, q1', q2, q2'⟩ := bc3 X0.out
    go_wp2_with fail
    clear q0 q0' q1 q1' q2 q2'
    refine (QC.out i HI.out _ BEL.out.1).mono ?_
    rintro en5 w5 ⟨v5, rfl, hr, hb⟩
    replace BEL := yk (BEL.out.next hb)
    replace X0 := yk (yb X0.out hb)
    replace XR := yk (yb XR.out hb)
    have P5 := yk hr
    obtain ⟨b5, A5, n5, c5, x5, s5, rfl, hs⟩ := hr.ex6
    have HS5 := yk hs
    clear hs
    clear hr hb
    cases s5
    case true =>
     clear hce hcf
     have BELo := BEL
     go_wp2_with (first | (replace BEL := yk ((BEL.out.alloc (.cells #[.bool false, .slice none 0 0, .int .i64 0, .bool false] 40)).less (j := 2) (by omega)); have HN := yk (blk_new w5 (.cells #[.bool false, .slice none 0 0, .int .i64 0, .bool false] 40)); have L_X0 := lt_blk X0.out; replace X0 := yk (blk_alloc X0.out (.cells #[.bool false, .slice none 0 0, .int .i64 0, .bool false] 40)); have L_XR := lt_blk XR.out; replace XR := yk (blk_alloc XR.out (.cells #[.bool false, .slice none 0 0, .int .i64 0, .bool false] 40)); replace P5 := yk (P5.out.below (below_alloc yr (.cells #[.bool false, .slice none 0 0, .int .i64 0, .bool false] 40))); ((with_reducible refine gate_store (p := 6) rfl ?_); go_must (refine store_box 40 6 (.tmp 15) rfl rfl rfl (g := w5.heap.size) (e := 40) (.agg #[.bool b5, .slice A5 n5 c5, .int .i64 x5, .bool true]) ([.bool b5, .slice A5 n5 c5, .int .i64 x5, .bool true]) rfl rfl rfl info_told ?b1 HN.out rfl ?_; (case b1 => intro q hq; simp at hq; rcases hq with rfl | rfl | rfl | rfl <;> rfl); intro wb hbx hgx; have HX := yk hbx; have HG := yk hgx; clear hbx hgx)); replace P5 := yk (P5.out.grown_box HN.out (by decide) HG.out); have LB_XT := BELo.out.2; replace BEL := yk (BEL.out.grown HG.out (Nat.le_trans (Nat.le_add_right _ _) LB_XT)); replace X0 := yk (blk_grown X0.out HG.out (Nat.ne_of_lt L_X0)); replace XR := yk (blk_grown XR.out HG.out (Nat.ne_of_lt L_XR)); have NE_X0_XT := yk (Nat.ne_of_lt L_X0); have NE_XR_XT := yk (Nat.ne_of_lt L_XR); clear L_X0; clear L_XR; have LL_XT := yk LB_XT; clear LB_XT; have XT := HX; clear HG HN HX; obtain ⟨q3, q3', q4, q4', q5, q5', q6, q6'⟩ := bc4 XT.out) | (clear q3 q3' q4 q4' q5 q5' q6 q6'; ((with_reducible refine gate_store (p := 3) rfl ?_); go_must (refine store_box 40 3 (.tmp 18) rfl rfl rfl (g := w.heap.size + 1) (e := 40) (.agg #[.bool b5, .slice A5 n5 c5, .int .i64 x5, .bool true]) ([.bool b5, .slice A5 n5 c5, .int .i64 x5, .bool true]) rfl rfl rfl info_told ?b1 XR.out rfl ?_; (case b1 => intro q hq; simp at hq; rcases hq with rfl | rfl | rfl | rfl <;> rfl); intro wb hbx hgx; have HX := yk hbx; have HG := yk hgx; clear hbx hgx)); replace P5 := yk (P5.out.grown_box XR.out (by decide) HG.out); replace BEL := yk (BEL.out.grown HG.out (by omega)); replace X0 := yk (blk_grown X0.out HG.out (by have h_g := HGS.out; omega)); replace XT := yk (blk_grown XT.out HG.out (Ne.symm NE_XR_XT.out)); replace XR := HX; clear HG))
     refine bodyPost_ret (results_told rfl _ _ (w.heap.size + 1) _ rfl XR.out rfl) rfl ?_
     rw [first_some HI.out HNO.out HS5.out.symm]
     exact ⟨_, rfl, P5.out, BEL.out.1⟩
    case false =>
     clear hce hcf
     have hw : wrap64 ((i : Int) + 1) = (i : Int) + 1 := by unfold wrap64; omega
     have BELo := BEL
     go_wp2_with (replace BEL := yk ((BEL.out.alloc (.cells #[.bool false, .slice none 0 0, .int .i64 0, .bool false] 40)).less (j := 2) (by omega)); have HN := yk (blk_new w5 (.cells #[.bool false, .slice none 0 0, .int .i64 0, .bool false] 40)); have L_X0 := lt_blk X0.out; replace X0 := yk (blk_alloc X0.out (.cells #[.bool false, .slice none 0 0, .int .i64 0, .bool false] 40)); have L_XR := lt_blk XR.out; replace XR := yk (blk_alloc XR.out (.cells #[.bool false, .slice none 0 0, .int .i64 0, .bool false] 40)); replace P5 := yk (P5.out.below (below_alloc yr (.cells #[.bool false, .slice none 0 0, .int .i64 0, .bool false] 40))); ((with_reducible refine gate_store (p := 6) rfl ?_); go_must (refine store_box 40 6 (.tmp 15) rfl rfl rfl (g := w5.heap.size) (e := 40) (.agg #[.bool b5, .slice A5 n5 c5, .int .i64 x5, .bool false]) ([.bool b5, .slice A5 n5 c5, .int .i64 x5, .bool false]) rfl rfl rfl info_told ?b1 HN.out rfl ?_; (case b1 => intro q hq; simp at hq; rcases hq with rfl | rfl | rfl | rfl <;> rfl); intro wb hbx hgx; have HX := yk hbx; have HG := yk hgx; clear hbx hgx)); replace P5 := yk (P5.out.grown_box HN.out (by decide) HG.out); have LB_XT := BELo.out.2; replace BEL := yk (BEL.out.grown HG.out (Nat.le_trans (Nat.le_add_right _ _) LB_XT)); replace X0 := yk (blk_grown X0.out HG.out (Nat.ne_of_lt L_X0)); replace XR := yk (blk_grown XR.out HG.out (Nat.ne_of_lt L_XR)); have NE_X0_XT := yk (Nat.ne_of_lt L_X0); have NE_XR_XT := yk (Nat.ne_of_lt L_XR); clear L_X0; clear L_XR; have LL_XT := yk LB_XT; clear LB_XT; have XT := HX; clear HG HN HX; obtain ⟨q3, q3', q4, q4', q5, q5', q6, q6'⟩ := bc4 XT.out)
     go_roundw
     case rel => exact ⟨i + 1, by go_num, hlt, BEL, X0, XR, ⟨fun j hj => by rcases Nat.lt_or_ge j i with h | h; exact HNO.out j h; rw [show j = i by omega]; exact isSome_false HS5.out.symm⟩⟩
     case measure => exact meas_int hlt
  · have hlt' : ¬ (i : Int) < 3 := by omega
    have hld : decide ((i : Int) < 3) = false := decide_eq_false hlt'
    have he : i = 3 := by omega
    go_wp2_with (((with_reducible refine gate_store (p := 3) rfl ?_); go_must (refine store_box 40 3 (.tmp 20) rfl rfl rfl (g := w.heap.size + 1) (e := 40) (.agg #[.bool false, .slice none 0 0, .int .i64 0, .bool false]) ([.bool false, .slice none 0 0, .int .i64 0, .bool false]) rfl rfl rfl info_told ?b1 XR.out rfl ?_; (case b1 => intro q hq; simp at hq; rcases hq with rfl | rfl | rfl | rfl <;> rfl); intro wb hbx hgx; have HX := yk hbx; have HG := yk hgx; clear hbx hgx)); replace BEL := yk (BEL.out.grown HG.out (by omega)); replace X0 := yk (blk_grown X0.out HG.out (by have h_g := HGS.out; omega)); replace XR := HX; clear HG)
    refine bodyPost_ret (results_told rfl _ _ (w.heap.size + 1) _ rfl XR.out rfl) rfl ?_
    rw [first_none (fun j hj => HNO.out j (by omega))]
    exact ⟨_, rfl, PO.none _ _, BEL.out.1⟩
theorem one_word {m n x : Nat} (hl : (limbs m).length = n) (hx : (limbs m)[0]? = some x) (hn : n = 1) : m = x := by
 subst hn
 have h := nv_limbs m
 match hm : limbs m, hl, hx with
 | [y], _, hx =>
   rw [hm] at h
   simp at hx
   subst hx
   simp [nv] at h
   omega
theorem log2_yes {m n x : Nat} (hl : (limbs m).length = n) (hx : (limbs m)[0]? = some x) (hn : n = 1) (h1 : x = 1) : m = 1 := (one_word hl hx hn).trans h1
theorem log2_no {m n x : Nat} (hl : (limbs m).length = n) (hx : (limbs m)[0]? = some x) (hn : n = 1) (h1 : ¬ x = 1) : ¬ m = 1 := fun h => h1 ((one_word hl hx hn).symm.trans h)
theorem log2_len {m n : Nat} (hl : (limbs m).length = n) (hn : ¬ n = 1) : ¬ m = 1 := fun h => hn (by rw [← hl, h, limbs_one (by decide) (by decide)]; rfl)
theorem len1_word {w : World} {A : Option Addr} {n : Nat} {m : Nat} (hC : kU.C w A n (limbs m)) (hl : (limbs m).length = n) (hn : n = 1) : ∃ (ad : Addr) (x : Nat), A = some ad ∧ (limbs m)[0]? = some x ∧ w.cell? ad = some (.int .u64 (x : Int)) := by
 obtain ⟨ad, x, h1, h2, h3⟩ := at_word hC hl 0 (by omega)
 have hz0 : ad.add 0 = ad := by simp [Addr.add]
 rw [hz0] at h3
 exact ⟨ad, x, h1, h2, h3⟩
theorem cexp_small {t : Int} (h : t.natAbs < 2 ^ 2400) : -1074 ≤ cexp t (-1074) ∧ cexp t (-1074) ≤ 4000 := by
 by_cases h0 : t = 0
 · subst h0; rw [cexp_zero]; decide
 · obtain ⟨k, h1, _, h3⟩ := of_form (e := -1074) h0
   have h4 := tz_lt_bl (show t.natAbs ≠ 0 by omega)
   have h5 := bl_le_iff.2 h
   omega
def log2F (t : Int) : Option (Int × Int) := if cman t = 1 then some (cexp t (-1074), 0) else none
def logF (M : Int) (most : Nat) (t : Int) : Option (Int × Int) := ((List.range (most + 1)).find? (fun j => decide (t = tenI j * M))).map (fun j => ((j : Int), 0))
theorem log_some {M t : Int} {most i : Nat} (hi : i < most + 1) (h : ∀ j, j < i → ¬ t = tenI j * M) (h1 : t = tenI i * M) : logF M most t = some ((i : Int), 0) := by
 unfold logF
 rw [(List.find?_range_eq_some).2 ⟨by simpa using h1, by simpa using hi, fun j hj => by simpa using h j hj⟩]
 rfl
theorem log_none {M t : Int} {most : Nat} (h : ∀ j, j < most + 1 → ¬ t = tenI j * M) : logF M most t = none := by
 unfold logF
 rw [List.find?_eq_none.2 (fun j hj => by simpa using h j (by simpa using hj))]
 rfl

theorem log2_any {u : Value} {z more : Int} {most : Nat} {g1 g2 g3 : Nat} {w : World} (h : CDy w u z (-1074)) (hz : z.natAbs < 2 ^ 2098) (hm : more.natAbs < 2 ^ 20) (hmost : most ≤ 40)
 (h1 : w.heap[g1]? = some (.cells #[.int .i64 more] 2 (0, 0))) (h2 : w.heap[g2]? = some (.cells #[.int .i64 2] 3 (0, 0))) (h3 : w.heap[g3]? = some (.cells #[.int .i64 most] 3 (0, 0))) (hT : TabAt 0 Lib.deBruijn64tab w) :
 Calls Tryz.prog 70 #[u, .pointer (some ⟨g1, 0, none⟩), .pointer (some ⟨g2, 0, none⟩), .pointer (some ⟨g3, 0, none⟩)] w fun en w' => ∃ v', en = .returned v' ∧ PO w' w.heap.size v' (log2F (z + more * 2 ^ 1074)) ∧ Below w.heap.size w w' := by
 obtain ⟨b0, A, n0, c, x0, rfl⟩ := h.ex
 have HGS := yk (ya (lt_blk h1) (ya (lt_blk h2) (lt_blk h3)))
 have HG1 := yk h1
 have HG2 := yk h2
 have HG3 := yk h3
 have HT := yk hT
 have HCD := yk h
 have O1 := yk (Ok.of (e := -1074) _ hz (by decide) (by decide) (by decide))
 have O2 := yk (Ok.of (e := -1074) _ (sm_mul (k := 1074) hm) (by decide) (by decide) (by decide))
 have hts := sm_le (m := 2400) (sm_add hz (sm_le (m := 2098) (sm_mul (k := 1074) hm) (by decide))) (by decide)
 have L1 := yk (ya (show -9223372036854775808 ≤ more by omega) (show more < 9223372036854775808 by omega))
 have HM := yk hmost
 obtain ⟨M, hM⟩ : ∃ M : Int, M = 2 ^ 1074 := ⟨_, rfl⟩
 have HP := yk (fun (n : Int) (v : Value) (b : Nat) (W : World) (h : PDy W b v n 0) => (by
  have q := PDy.scale (e := -1074) 1074 h
  rw [← hM] at q; exact q : PDy W b v (n * M) (-1074)))
 have OTN := yk (fun (i : Nat) (hi : i ≤ 60) => (by
  have q := Ok.of (e := -1074) _ (sm_mul (k := 1074) (tenI_small hi)) (by decide) (by decide) (by decide)
  rw [← hM] at q; exact q : Ok (tenI i * M) (-1074)))
 rw [← hM] at O2 hts ⊢
 have CX := yk (cexp_small hts)
 have OT := yk (Ok.of (e := -1074) _ hts (by decide) (by decide) (by decide))
 obtain ⟨t, ht⟩ : ∃ t, t = z + more * M := ⟨_, rfl⟩
 have HTT := yk ht
 rw [← ht] at CX OT ⊢
 clear h hz hm hmost hM h1 h2 h3 hT hts ht
 go_enter Tryz.func70, Tryz.ntmps70
 go_upto_region 1 with fail
 obtain ⟨BEL, X0, XR⟩ := al2 w 2 #[.bool b0, .slice A n0 c, .int .i64 x0] 27 #[.bool false, .slice none 0 0, .int .i64 0, .bool false] 40
 have G1 := yk (blk_alloc (blk_alloc HG1.out (.cells #[.bool b0, .slice A n0 c, .int .i64 x0] 27)) (.cells #[.bool false, .slice none 0 0, .int .i64 0, .bool false] 40))
 have G2 := yk (blk_alloc (blk_alloc HG2.out (.cells #[.bool b0, .slice A n0 c, .int .i64 x0] 27)) (.cells #[.bool false, .slice none 0 0, .int .i64 0, .bool false] 40))
 have G3 := yk (blk_alloc (blk_alloc HG3.out (.cells #[.bool b0, .slice A n0 c, .int .i64 x0] 27)) (.cells #[.bool false, .slice none 0 0, .int .i64 0, .bool false] 40))
 obtain ⟨GM, hGM⟩ : ∃ G : (Nat → Prop) → (Nat → Value) → World → Prop, G = fun L v W => BelN w 2 W ∧ W.heap[w.heap.size]? = some (.cells #[.bool b0, .slice A n0 c, .int .i64 x0] 27 (0, 0)) ∧ W.heap[w.heap.size + 1]? = some (.cells #[.bool false, .slice none 0 0, .int .i64 0, .bool false] 40 (0, 0)) ∧ W.heap[g1]? = some (.cells #[.int .i64 more] 2 (0, 0)) ∧ W.heap[g2]? = some (.cells #[.int .i64 2] 3 (0, 0)) ∧ W.heap[g3]? = some (.cells #[.int .i64 most] 3 (0, 0)) ∧ (L 0 → (v 0) = .agg #[.bool b0, .slice A n0 c, .int .i64 x0]) ∧ (L 1 → (v 1) = .int .i64 more) ∧ (L 2 → PDy W w.heap.size (v 2) (more * M) (-1074)) ∧ (L 3 → PDy W w.heap.size (v 3) t (-1074)) ∧ (L 4 → ∃ g : Nat, (v 4) = .pointer (some ⟨g, 0, none⟩) ∧ w.heap.size + 2 ≤ g ∧ (¬ L 5 → W.heap[g]? = some (.cells #[.bool false, .slice none 0 0, .int .i64 0] 27 (0, 0))) ∧ (L 5 → ∃ (bb : Bool) (A : Option Addr) (n c : Nat) (x : Int), (v 3) = .agg #[.bool bb, .slice A n c, .int .i64 x] ∧ W.heap[g]? = some (.cells #[.bool bb, .slice A n c, .int .i64 x] 27 (0, 0)))) ∧ True := ⟨_, rfl⟩
 refine wp_region_slotsV [8, 9, 10, 11, 6] (by kernel_rfl) (by kernel_rfl) (G := GM) ?h0M ?hstepM ?hendM
 case h0M =>
  intro v; rw [hGM]
  exact ⟨BEL.out.next (below_drew yr), blk_drew X0.out, blk_drew XR.out, blk_drew G1.out, blk_drew G2.out, blk_drew G3.out, fun h => h.elim, fun h => h.elim, fun h => h.elim, fun h => h.elim, fun h => h.elim, trivial⟩
 case hstepM =>
  intro k o ho v W L hGv hnk haft hcl K hK
  rw [hGM] at hGv
  obtain ⟨hB, hb0, hb1, hb2, hb3, hb4, f0, f1, f2, f3, f4, f5⟩ := hGv
  rcases k with _ | _ | _ | _ | _ | _ | k
  all_goals first
   | (cases ho; done)
   | (obtain rfl := (Option.some.inj ho).symm
      clear ho
      rw [if_pos (by rfl)]
      simp only [setAll, List.setIfInBounds_toArray, List.set_cons_zero, List.set_cons_succ, List.set_nil, List.getElem_toArray, List.getElem_cons_zero, List.getElem_cons_succ, Nat.reduceAdd] at haft hK ⊢)
  ·
   have cc0 := (box_cell (v := .bool b0) hb0 0 rfl).1
   have cc1 := (box_cell (v := .slice A n0 c) hb0 1 rfl).1
   have cc2 := (box_cell (v := .int .i64 x0) hb0 2 rfl).1
   have hb := yw W
   have key := hK.out (.agg #[.bool b0, .slice A n0 c, .int .i64 x0]) W (by rw [hGM]; exact ⟨hB.next hb, yb hb0 hb, yb hb1 hb, yb hb2 hb, yb hb3 hb, yb hb4 hb, yu, (kV f1), (kD f2 hb), (kD f3 hb), (fun h => by obtain ⟨g, e1, e2, e3, e4⟩ := f4 (yx h); rw [upd_ne v _ (by decide), upd_ne v _ (by decide)]; exact ⟨g, e1, e2, fun h2 => yb (e3 (fun h3 => h2 (.inl h3))) hb, fun h2 => by obtain ⟨bb, A, n, c, x, y1, y2⟩ := e4 (yx h2); exact ⟨bb, A, n, c, x, y1, yb y2 hb⟩⟩), trivial⟩)
   clear hb0 hb1 hb2 hb3 hb4 f0 f1 f2 f3 f4 f5 hb hK
   go_simp
   simpa [upd] using key
  ·
   have cc0 := (box_cell (v := .int .i64 more) hb2 0 rfl).1
   have hb := yw W
   have key := hK.out (.int .i64 more) W (by rw [hGM]; exact ⟨hB.next hb, yb hb0 hb, yb hb1 hb, yb hb2 hb, yb hb3 hb, yb hb4 hb, (kV f0), yu, (kD f2 hb), (kD f3 hb), (fun h => by obtain ⟨g, e1, e2, e3, e4⟩ := f4 (yx h); rw [upd_ne v _ (by decide), upd_ne v _ (by decide)]; exact ⟨g, e1, e2, fun h2 => yb (e3 (fun h3 => h2 (.inl h3))) hb, fun h2 => by obtain ⟨bb, A, n, c, x, y1, y2⟩ := e4 (yx h2); exact ⟨bb, A, n, c, x, y1, yb y2 hb⟩⟩), trivial⟩)
   clear hb0 hb1 hb2 hb3 hb4 f0 f1 f2 f3 f4 f5 hb hK
   go_simp
   simpa [upd] using key
  ·
   have d1 := f1 (haft ⟨1, .data⟩ (by simp) rfl)
   have D1 := d1
   have HALL := yk (ya hK (ya hB (ya hb0 ( ya hb1 ( ya hb2 ( ya hb3 ( ya hb4 ( ya f0 ( ya f1 ( ya f2 ( ya f3 ( ya f4 ( ya f5 (True.intro))))))))))))))
   clear hK hb0 hb1 hb2 hb3 hb4 f0 f1 f2 f3 f4 f5
   go_simp
   go_at_call 52
   refine (pint_dy more _ L1.out.1 L1.out.2 (tab_below HT.out hB.1)).mono ?_
   rintro en w4 ⟨v1, rfl, hr, hb⟩
   obtain ⟨hK, hB, hb0, hb1, hb2, hb3, hb4, f0, f1, f2, f3, f4, f5, _⟩ := HALL.out
   have key := hK.out (v1) w4 (by rw [hGM]; exact ⟨hB.next hb, yb hb0 hb, yb hb1 hb, yb hb2 hb, yb hb3 hb, yb hb4 hb, (kV f0), (kV f1), fun _ => by rw [upd_eq]; exact (HP.out _ _ _ _ hr).lower (lw hB.2), (kD f3 hb), (fun h => by obtain ⟨g, e1, e2, e3, e4⟩ := f4 (yx h); rw [upd_ne v _ (by decide), upd_ne v _ (by decide)]; exact ⟨g, e1, e2, fun h2 => yb (e3 (fun h3 => h2 (.inl h3))) hb, fun h2 => by obtain ⟨bb, A, n, c, x, y1, y2⟩ := e4 (yx h2); exact ⟨bb, A, n, c, x, y1, yb y2 hb⟩⟩), trivial⟩)
   clear hb0 hb1 hb2 hb3 hb4 f0 f1 f2 f3 f4 f5 hK HALL
   simpa [upd, D1] using key
  ·
   have hns5 : ¬ L 5 := fun hs => hnk (hcl 5 _ rfl hs ⟨3, .data⟩ (by simp) rfl)
   have d0 := f0 (haft ⟨0, .data⟩ (by simp) rfl)
   have D0 := d0
   have d2 := f2 (haft ⟨2, .data⟩ (by simp) rfl)
   have D2 := d2
   have HALL := yk (ya hK (ya hB (ya hb0 ( ya hb1 ( ya hb2 ( ya hb3 ( ya hb4 ( ya f0 ( ya f1 ( ya f2 ( ya f3 ( ya f4 ( ya f5 (True.intro))))))))))))))
   clear hK hb0 hb1 hb2 hb3 hb4 f0 f1 f2 f3 f4 f5
   go_simp
   go_at_call 71
   refine (add_ok (HCD.out.below hB.1) d2.c O1.out O2.out (tab_below HT.out hB.1)).mono ?_
   rintro en w4 ⟨v1, rfl, hr, hb⟩
   obtain ⟨hK, hB, hb0, hb1, hb2, hb3, hb4, f0, f1, f2, f3, f4, f5, _⟩ := HALL.out
   have key := hK.out (v1) w4 (by rw [hGM]; exact ⟨hB.next hb, yb hb0 hb, yb hb1 hb, yb hb2 hb, yb hb3 hb, yb hb4 hb, (kV f0), (kV f1), (kD f2 hb), fun _ => by rw [upd_eq]; exact (by rw [HTT.out]; exact hr.lower (lw hB.2)), (fun h => by obtain ⟨g, e1, e2, e3, e4⟩ := f4 (yx h); rw [upd_ne v _ (by decide)]; exact ⟨g, e1, e2, fun h2 => yb (e3 (fun h3 => h2 (.inl h3))) hb, fun h2 => (hns5 (yx h2)).elim⟩), trivial⟩)
   clear hb0 hb1 hb2 hb3 hb4 f0 f1 f2 f3 f4 f5 hK HALL
   simpa [upd, D0] using key
  ·
   have hns5 : ¬ L 5 := fun hs => hnk (hcl 5 _ rfl hs ⟨4, .data⟩ (by simp) rfl)
   have hb := below_alloc (yw W) (.cells #[.bool false, .slice none 0 0, .int .i64 0] 27)
   have key := hK.out (.pointer (some ⟨W.heap.size, 0, none⟩)) (W.alloc (.cells #[.bool false, .slice none 0 0, .int .i64 0] 27)) (by rw [hGM]; exact ⟨hB.next hb, yb hb0 hb, yb hb1 hb, yb hb2 hb, yb hb3 hb, yb hb4 hb, (kV f0), (kV f1), (kD f2 hb), (kD f3 hb), fun _ => by rw [upd_eq]; exact ⟨W.heap.size, rfl, hB.2, fun _ => blk_new W _, fun h2 => (hns5 (yx h2)).elim⟩, trivial⟩)
   clear hb0 hb1 hb2 hb3 hb4 f0 f1 f2 f3 f4 f5 hK hb hns5
   go_simp
   simpa [upd] using key
  ·
   have h_g := HGS.out
   obtain ⟨g, e1, e2, e3, -⟩ := f4 (haft ⟨4, .data⟩ (by simp) rfl)
   have hgb := e3 hnk
   have ds := f3 (haft ⟨3, .data⟩ (by simp) rfl)
   obtain ⟨bb, A, n, c, x, es⟩ := ds.ex
   refine wp_store_box 27 6 (.tmp 11) rfl rfl (g := g) (e := 27) (v 3) [.bool bb, .slice A n c, .int .i64 x] (by first | rfl | exact e1) rfl (by rw [es]; rfl) info_dyad ?_ hgb rfl ?_
   · intro q hq; simp at hq; rcases hq with rfl | rfl | rfl <;> rfl
   · intro w1 hw1 hg
     have key := hK.out undef w1 (by rw [hGM]; exact ⟨hB.grown hg (by omega), blk_grown hb0 hg (by omega), blk_grown hb1 hg (by omega), blk_grown hb2 hg (by omega), blk_grown hb3 hg (by omega), blk_grown hb4 hg (by omega), (kV f0), (kV f1), (kG f2 hgb hg), (kG f3 hgb hg), (fun h => by rw [upd_ne v _ (by decide), upd_ne v _ (by decide)]; exact ⟨g, e1, e2, fun h2 => (h2 (.inr rfl)).elim, fun _ => ⟨bb, A, n, c, x, es, hw1⟩⟩), trivial⟩)
     clear hb0 hb1 hb2 hb3 hb4 f0 f1 f2 f3 f4 f5 hK
     simpa [upd] using key
 case hendM =>
  intro v W L0 hall hGv
  rw [hGM] at hGv
  obtain ⟨hB, hb0, hb1, hb2, hb3, hb4, f0, f1, f2, f3, f4, _⟩ := hGv
  have d3 := f3 (hall 3 (by decide))
  obtain ⟨g, p4, hgs, _, hg5⟩ := f4 (hall 4 (by decide))
  obtain ⟨b9, A9, n9, c9, x9, p9, hx9⟩ := hg5 (hall 5 (by decide))
  rw [p9] at d3
  replace BEL := yk hB
  replace XR := yk hb1
  replace G2 := yk hb3
  replace G3 := yk hb4
  have XT := yk hx9
  have P9 := yk d3
  have h_q := HGS.out
  have HGN := yk (ya hgs h_q)
  clear hall f0 f1 f2 f3 f4 hB hb0 hb1 hb2 hb3 hb4 d3 hx9 hg5 h_q hgs X0 G1
  simp only [setAll, List.setIfInBounds_toArray, List.set_cons_zero, List.set_cons_succ, Nat.reduceAdd, p4, p9]
  obtain ⟨-, ex9, hC9, hl9, -⟩ := CDy.parts P9.out.c
  have HX9 := yk ex9
  have HL9 := yk hl9
  have HC9 := yk hC9
  clear ex9 hl9 hC9
  by_cases hn : n9 = 1
  case neg =>
   have hnd : ((n9 : Int) == 1) = false := by simp; omega
   have HN9 := yk hn
   clear hn
   obtain ⟨q0, q0'⟩ := box_cell G2.out 0 rfl
   obtain ⟨q1, q1', q2, q2', q3, q3'⟩ := bc3 XT.out
   go_wp2_with (clear q0 q0' q1 q1' q2 q2' q3 q3'; ((with_reducible refine gate_store (p := 5) rfl ?_); go_must (refine store_box 40 5 (.tmp 28) rfl rfl rfl (g := w.heap.size + 1) (e := 40) (.agg #[.bool false, .slice none 0 0, .int .i64 0, .bool false]) ([.bool false, .slice none 0 0, .int .i64 0, .bool false]) rfl rfl rfl info_told ?b1 XR.out rfl ?_; (case b1 => intro q hq; simp at hq; rcases hq with rfl | rfl | rfl | rfl <;> rfl); intro wb hbx hgx; have HX := yk hbx; have HG := yk hgx; clear hbx hgx)); replace P9 := yk (P9.out.grown_box XR.out (by decide) HG.out); replace BEL := yk (BEL.out.grown HG.out (by omega)); replace G2 := yk (blk_grown G2.out HG.out (by have h_g := HGN.out; omega)); replace G3 := yk (blk_grown G3.out HG.out (by have h_g := HGN.out; omega)); replace XT := yk (blk_grown XT.out HG.out (by have h_g := HGN.out; omega)); replace XR := HX; clear HG)
   refine bodyPost_ret (results_told rfl _ _ (w.heap.size + 1) _ rfl XR.out rfl) rfl ?_
   rw [show log2F t = none from if_neg (log2_len HL9.out HN9.out)]
   exact ⟨_, rfl, PO.none _ _, BEL.out.1⟩
  case pos =>
   obtain ⟨ad, x, rfl, hx0, hcell⟩ := len1_word HC9.out HL9.out hn
   have HN9 := yk hn
   have HX0 := yk hx0
   subst hn
   clear hx0
   by_cases hx : x = 1
   case pos =>
    have hxd : ((x : Int) == 1) = true := by simp; omega
    have HXX := yk hx
    clear hx
    obtain ⟨q0, q0'⟩ := box_cell G2.out 0 rfl
    obtain ⟨q1, q1', q2, q2', q3, q3'⟩ := bc3 XT.out
    go_wp2_with fail
    have BLW := BEL
    clear q0 q0' q1 q1' q2 q2' q3 q3'
    go_at_call 32
    refine (whole_any x9 _ (by have := CX.out; rw [← HX9.out] at this; omega) (by have := CX.out; rw [← HX9.out] at this; omega) (tab_below HT.out BEL.out.1)).mono ?_
    rintro en10 w10 ⟨v10, rfl, hr, hb⟩
    replace BEL := yk (BEL.out.next hb)
    replace XR := yk (yb XR.out hb)
    replace G2 := yk (yb G2.out hb)
    replace G3 := yk (yb G3.out hb)
    replace XT := yk (yb XT.out hb)
    replace P9 := yk (P9.out.below hb)
    have P3 := yk hr
    obtain ⟨b10, A10, n10, c10, x10, rfl⟩ := hr.ex5
    clear hr hb
    go_wp2_with (((with_reducible refine gate_store (p := 5) rfl ?_); go_must (refine store_box 40 5 (.tmp 27) rfl rfl rfl (g := w.heap.size + 1) (e := 40) (.agg #[.bool b10, .slice A10 n10 c10, .int .i64 x10, .bool true]) ([.bool b10, .slice A10 n10 c10, .int .i64 x10, .bool true]) rfl rfl rfl info_told ?b1 XR.out rfl ?_; (case b1 => intro q hq; simp at hq; rcases hq with rfl | rfl | rfl | rfl <;> rfl); intro wb hbx hgx; have HX := yk hbx; have HG := yk hgx; clear hbx hgx)); replace P9 := yk (P9.out.grown_box XR.out (by decide) HG.out); replace P3 := yk (P3.out.grown_box XR.out (by decide) HG.out); replace BEL := yk (BEL.out.grown HG.out (by omega)); replace G2 := yk (blk_grown G2.out HG.out (by have h_g := HGN.out; omega)); replace G3 := yk (blk_grown G3.out HG.out (by have h_g := HGN.out; omega)); replace XT := yk (blk_grown XT.out HG.out (by have h_g := HGN.out; omega)); replace XR := HX; clear HG)
    refine bodyPost_ret (results_told rfl _ _ (w.heap.size + 1) _ rfl XR.out rfl) rfl ?_
    rw [show log2F t = some (x9, 0) from by unfold log2F; rw [if_pos (log2_yes HL9.out HX0.out rfl HXX.out), HX9.out]]
    exact ⟨_, rfl, P3.out.some.lower (lw BLW.out.2), BEL.out.1⟩
   case neg =>
    have hxd : ((x : Int) == 1) = false := by simp; omega
    have HXX := yk hx
    clear hx
    obtain ⟨q0, q0'⟩ := box_cell G2.out 0 rfl
    obtain ⟨q1, q1', q2, q2', q3, q3'⟩ := bc3 XT.out
    go_wp2_with (clear q0 q0' q1 q1' q2 q2' q3 q3'; ((with_reducible refine gate_store (p := 5) rfl ?_); go_must (refine store_box 40 5 (.tmp 28) rfl rfl rfl (g := w.heap.size + 1) (e := 40) (.agg #[.bool false, .slice none 0 0, .int .i64 0, .bool false]) ([.bool false, .slice none 0 0, .int .i64 0, .bool false]) rfl rfl rfl info_told ?b1 XR.out rfl ?_; (case b1 => intro q hq; simp at hq; rcases hq with rfl | rfl | rfl | rfl <;> rfl); intro wb hbx hgx; have HX := yk hbx; have HG := yk hgx; clear hbx hgx)); replace P9 := yk (P9.out.grown_box XR.out (by decide) HG.out); replace BEL := yk (BEL.out.grown HG.out (by omega)); replace G2 := yk (blk_grown G2.out HG.out (by have h_g := HGN.out; omega)); replace G3 := yk (blk_grown G3.out HG.out (by have h_g := HGN.out; omega)); replace XT := yk (blk_grown XT.out HG.out (by have h_g := HGN.out; omega)); replace XR := HX; clear HG)
    refine bodyPost_ret (results_told rfl _ _ (w.heap.size + 1) _ rfl XR.out rfl) rfl ?_
    rw [show log2F t = none from if_neg (log2_no HL9.out HX0.out rfl HXX.out)]
    exact ⟨_, rfl, PO.none _ _, BEL.out.1⟩

theorem log10_any {u : Value} {z more : Int} {most : Nat} {g1 g2 g3 : Nat} {w : World} (h : CDy w u z (-1074)) (hz : z.natAbs < 2 ^ 2098) (hm : more.natAbs < 2 ^ 20) (hmost : most ≤ 40)
 (h1 : w.heap[g1]? = some (.cells #[.int .i64 more] 2 (0, 0))) (h2 : w.heap[g2]? = some (.cells #[.int .i64 10] 3 (0, 0))) (h3 : w.heap[g3]? = some (.cells #[.int .i64 most] 3 (0, 0))) (hT : TabAt 0 Lib.deBruijn64tab w) :
 Calls Tryz.prog 70 #[u, .pointer (some ⟨g1, 0, none⟩), .pointer (some ⟨g2, 0, none⟩), .pointer (some ⟨g3, 0, none⟩)] w fun en w' => ∃ v', en = .returned v' ∧ PO w' w.heap.size v' (logF (2 ^ 1074) most (z + more * 2 ^ 1074)) ∧ Below w.heap.size w w' := by
 obtain ⟨b0, A, n0, c, x0, rfl⟩ := h.ex
 have HGS := yk (ya (lt_blk h1) (ya (lt_blk h2) (lt_blk h3)))
 have HG1 := yk h1
 have HG2 := yk h2
 have HG3 := yk h3
 have HT := yk hT
 have HCD := yk h
 have O1 := yk (Ok.of (e := -1074) _ hz (by decide) (by decide) (by decide))
 have O2 := yk (Ok.of (e := -1074) _ (sm_mul (k := 1074) hm) (by decide) (by decide) (by decide))
 have hts := sm_le (m := 2400) (sm_add hz (sm_le (m := 2098) (sm_mul (k := 1074) hm) (by decide))) (by decide)
 have L1 := yk (ya (show -9223372036854775808 ≤ more by omega) (show more < 9223372036854775808 by omega))
 have HM := yk hmost
 obtain ⟨M, hM⟩ : ∃ M : Int, M = 2 ^ 1074 := ⟨_, rfl⟩
 have HP := yk (fun (n : Int) (v : Value) (b : Nat) (W : World) (h : PDy W b v n 0) => (by
  have q := PDy.scale (e := -1074) 1074 h
  rw [← hM] at q; exact q : PDy W b v (n * M) (-1074)))
 have OTN := yk (fun (i : Nat) (hi : i ≤ 60) => (by
  have q := Ok.of (e := -1074) _ (sm_mul (k := 1074) (tenI_small hi)) (by decide) (by decide) (by decide)
  rw [← hM] at q; exact q : Ok (tenI i * M) (-1074)))
 rw [← hM] at O2 hts ⊢
 have CX := yk (cexp_small hts)
 have OT := yk (Ok.of (e := -1074) _ hts (by decide) (by decide) (by decide))
 obtain ⟨t, ht⟩ : ∃ t, t = z + more * M := ⟨_, rfl⟩
 have HTT := yk ht
 rw [← ht] at CX OT ⊢
 clear h hz hm hmost hM h1 h2 h3 hT hts ht
 go_enter Tryz.func70, Tryz.ntmps70
 go_upto_region 1 with fail
 obtain ⟨BEL, X0, XR⟩ := al2 w 2 #[.bool b0, .slice A n0 c, .int .i64 x0] 27 #[.bool false, .slice none 0 0, .int .i64 0, .bool false] 40
 have G1 := yk (blk_alloc (blk_alloc HG1.out (.cells #[.bool b0, .slice A n0 c, .int .i64 x0] 27)) (.cells #[.bool false, .slice none 0 0, .int .i64 0, .bool false] 40))
 have G2 := yk (blk_alloc (blk_alloc HG2.out (.cells #[.bool b0, .slice A n0 c, .int .i64 x0] 27)) (.cells #[.bool false, .slice none 0 0, .int .i64 0, .bool false] 40))
 have G3 := yk (blk_alloc (blk_alloc HG3.out (.cells #[.bool b0, .slice A n0 c, .int .i64 x0] 27)) (.cells #[.bool false, .slice none 0 0, .int .i64 0, .bool false] 40))
 obtain ⟨GM, hGM⟩ : ∃ G : (Nat → Prop) → (Nat → Value) → World → Prop, G = fun L v W => BelN w 2 W ∧ W.heap[w.heap.size]? = some (.cells #[.bool b0, .slice A n0 c, .int .i64 x0] 27 (0, 0)) ∧ W.heap[w.heap.size + 1]? = some (.cells #[.bool false, .slice none 0 0, .int .i64 0, .bool false] 40 (0, 0)) ∧ W.heap[g1]? = some (.cells #[.int .i64 more] 2 (0, 0)) ∧ W.heap[g2]? = some (.cells #[.int .i64 10] 3 (0, 0)) ∧ W.heap[g3]? = some (.cells #[.int .i64 most] 3 (0, 0)) ∧ (L 0 → (v 0) = .agg #[.bool b0, .slice A n0 c, .int .i64 x0]) ∧ (L 1 → (v 1) = .int .i64 more) ∧ (L 2 → PDy W w.heap.size (v 2) (more * M) (-1074)) ∧ (L 3 → PDy W w.heap.size (v 3) t (-1074)) ∧ (L 4 → ∃ g : Nat, (v 4) = .pointer (some ⟨g, 0, none⟩) ∧ w.heap.size + 2 ≤ g ∧ (¬ L 5 → W.heap[g]? = some (.cells #[.bool false, .slice none 0 0, .int .i64 0] 27 (0, 0))) ∧ (L 5 → ∃ (bb : Bool) (A : Option Addr) (n c : Nat) (x : Int), (v 3) = .agg #[.bool bb, .slice A n c, .int .i64 x] ∧ W.heap[g]? = some (.cells #[.bool bb, .slice A n c, .int .i64 x] 27 (0, 0)))) ∧ True := ⟨_, rfl⟩
 refine wp_region_slotsV [8, 9, 10, 11, 6] (by kernel_rfl) (by kernel_rfl) (G := GM) ?h0M ?hstepM ?hendM
 case h0M =>
  intro v; rw [hGM]
  exact ⟨BEL.out.next (below_drew yr), blk_drew X0.out, blk_drew XR.out, blk_drew G1.out, blk_drew G2.out, blk_drew G3.out, fun h => h.elim, fun h => h.elim, fun h => h.elim, fun h => h.elim, fun h => h.elim, trivial⟩
 case hstepM =>
  intro k o ho v W L hGv hnk haft hcl K hK
  rw [hGM] at hGv
  obtain ⟨hB, hb0, hb1, hb2, hb3, hb4, f0, f1, f2, f3, f4, f5⟩ := hGv
  rcases k with _ | _ | _ | _ | _ | _ | k
  all_goals first
   | (cases ho; done)
   | (obtain rfl := (Option.some.inj ho).symm
      clear ho
      rw [if_pos (by rfl)]
      simp only [setAll, List.setIfInBounds_toArray, List.set_cons_zero, List.set_cons_succ, List.set_nil, List.getElem_toArray, List.getElem_cons_zero, List.getElem_cons_succ, Nat.reduceAdd] at haft hK ⊢)
  ·
   have cc0 := (box_cell (v := .bool b0) hb0 0 rfl).1
   have cc1 := (box_cell (v := .slice A n0 c) hb0 1 rfl).1
   have cc2 := (box_cell (v := .int .i64 x0) hb0 2 rfl).1
   have hb := yw W
   have key := hK.out (.agg #[.bool b0, .slice A n0 c, .int .i64 x0]) W (by rw [hGM]; exact ⟨hB.next hb, yb hb0 hb, yb hb1 hb, yb hb2 hb, yb hb3 hb, yb hb4 hb, yu, (kV f1), (kD f2 hb), (kD f3 hb), (fun h => by obtain ⟨g, e1, e2, e3, e4⟩ := f4 (yx h); rw [upd_ne v _ (by decide), upd_ne v _ (by decide)]; exact ⟨g, e1, e2, fun h2 => yb (e3 (fun h3 => h2 (.inl h3))) hb, fun h2 => by obtain ⟨bb, A, n, c, x, y1, y2⟩ := e4 (yx h2); exact ⟨bb, A, n, c, x, y1, yb y2 hb⟩⟩), trivial⟩)
   clear hb0 hb1 hb2 hb3 hb4 f0 f1 f2 f3 f4 f5 hb hK
   go_simp
   simpa [upd] using key
  ·
   have cc0 := (box_cell (v := .int .i64 more) hb2 0 rfl).1
   have hb := yw W
   have key := hK.out (.int .i64 more) W (by rw [hGM]; exact ⟨hB.next hb, yb hb0 hb, yb hb1 hb, yb hb2 hb, yb hb3 hb, yb hb4 hb, (kV f0), yu, (kD f2 hb), (kD f3 hb), (fun h => by obtain ⟨g, e1, e2, e3, e4⟩ := f4 (yx h); rw [upd_ne v _ (by decide), upd_ne v _ (by decide)]; exact ⟨g, e1, e2, fun h2 => yb (e3 (fun h3 => h2 (.inl h3))) hb, fun h2 => by obtain ⟨bb, A, n, c, x, y1, y2⟩ := e4 (yx h2); exact ⟨bb, A, n, c, x, y1, yb y2 hb⟩⟩), trivial⟩)
   clear hb0 hb1 hb2 hb3 hb4 f0 f1 f2 f3 f4 f5 hb hK
   go_simp
   simpa [upd] using key
  ·
   have d1 := f1 (haft ⟨1, .data⟩ (by simp) rfl)
   have D1 := d1
   have HALL := yk (ya hK (ya hB (ya hb0 ( ya hb1 ( ya hb2 ( ya hb3 ( ya hb4 ( ya f0 ( ya f1 ( ya f2 ( ya f3 ( ya f4 ( ya f5 (True.intro))))))))))))))
   clear hK hb0 hb1 hb2 hb3 hb4 f0 f1 f2 f3 f4 f5
   go_simp
   go_at_call 52
   refine (pint_dy more _ L1.out.1 L1.out.2 (tab_below HT.out hB.1)).mono ?_
   rintro en w4 ⟨v1, rfl, hr, hb⟩
   obtain ⟨hK, hB, hb0, hb1, hb2, hb3, hb4, f0, f1, f2, f3, f4, f5, _⟩ := HALL.out
   have key := hK.out (v1) w4 (by rw [hGM]; exact ⟨hB.next hb, yb hb0 hb, yb hb1 hb, yb hb2 hb, yb hb3 hb, yb hb4 hb, (kV f0), (kV f1), fun _ => by rw [upd_eq]; exact (HP.out _ _ _ _ hr).lower (lw hB.2), (kD f3 hb), (fun h => by obtain ⟨g, e1, e2, e3, e4⟩ := f4 (yx h); rw [upd_ne v _ (by decide), upd_ne v _ (by decide)]; exact ⟨g, e1, e2, fun h2 => yb (e3 (fun h3 => h2 (.inl h3))) hb, fun h2 => by obtain ⟨bb, A, n, c, x, y1, y2⟩ := e4 (yx h2); exact ⟨bb, A, n, c, x, y1, yb y2 hb⟩⟩), trivial⟩)
   clear hb0 hb1 hb2 hb3 hb4 f0 f1 f2 f3 f4 f5 hK HALL
   simpa [upd, D1] using key
  ·
   have hns5 : ¬ L 5 := fun hs => hnk (hcl 5 _ rfl hs ⟨3, .data⟩ (by simp) rfl)
   have d0 := f0 (haft ⟨0, .data⟩ (by simp) rfl)
   have D0 := d0
   have d2 := f2 (haft ⟨2, .data⟩ (by simp) rfl)
   have D2 := d2
   have HALL := yk (ya hK (ya hB (ya hb0 ( ya hb1 ( ya hb2 ( ya hb3 ( ya hb4 ( ya f0 ( ya f1 ( ya f2 ( ya f3 ( ya f4 ( ya f5 (True.intro))))))))))))))
   clear hK hb0 hb1 hb2 hb3 hb4 f0 f1 f2 f3 f4 f5
   go_simp
   go_at_call 71
   refine (add_ok (HCD.out.below hB.1) d2.c O1.out O2.out (tab_below HT.out hB.1)).mono ?_
   rintro en w4 ⟨v1, rfl, hr, hb⟩
   obtain ⟨hK, hB, hb0, hb1, hb2, hb3, hb4, f0, f1, f2, f3, f4, f5, _⟩ := HALL.out
   have key := hK.out (v1) w4 (by rw [hGM]; exact ⟨hB.next hb, yb hb0 hb, yb hb1 hb, yb hb2 hb, yb hb3 hb, yb hb4 hb, (kV f0), (kV f1), (kD f2 hb), fun _ => by rw [upd_eq]; exact (by rw [HTT.out]; exact hr.lower (lw hB.2)), (fun h => by obtain ⟨g, e1, e2, e3, e4⟩ := f4 (yx h); rw [upd_ne v _ (by decide)]; exact ⟨g, e1, e2, fun h2 => yb (e3 (fun h3 => h2 (.inl h3))) hb, fun h2 => (hns5 (yx h2)).elim⟩), trivial⟩)
   clear hb0 hb1 hb2 hb3 hb4 f0 f1 f2 f3 f4 f5 hK HALL
   simpa [upd, D0] using key
  ·
   have hns5 : ¬ L 5 := fun hs => hnk (hcl 5 _ rfl hs ⟨4, .data⟩ (by simp) rfl)
   have hb := below_alloc (yw W) (.cells #[.bool false, .slice none 0 0, .int .i64 0] 27)
   have key := hK.out (.pointer (some ⟨W.heap.size, 0, none⟩)) (W.alloc (.cells #[.bool false, .slice none 0 0, .int .i64 0] 27)) (by rw [hGM]; exact ⟨hB.next hb, yb hb0 hb, yb hb1 hb, yb hb2 hb, yb hb3 hb, yb hb4 hb, (kV f0), (kV f1), (kD f2 hb), (kD f3 hb), fun _ => by rw [upd_eq]; exact ⟨W.heap.size, rfl, hB.2, fun _ => blk_new W _, fun h2 => (hns5 (yx h2)).elim⟩, trivial⟩)
   clear hb0 hb1 hb2 hb3 hb4 f0 f1 f2 f3 f4 f5 hK hb hns5
   go_simp
   simpa [upd] using key
  ·
   have h_g := HGS.out
   obtain ⟨g, e1, e2, e3, -⟩ := f4 (haft ⟨4, .data⟩ (by simp) rfl)
   have hgb := e3 hnk
   have ds := f3 (haft ⟨3, .data⟩ (by simp) rfl)
   obtain ⟨bb, A, n, c, x, es⟩ := ds.ex
   refine wp_store_box 27 6 (.tmp 11) rfl rfl (g := g) (e := 27) (v 3) [.bool bb, .slice A n c, .int .i64 x] (by first | rfl | exact e1) rfl (by rw [es]; rfl) info_dyad ?_ hgb rfl ?_
   · intro q hq; simp at hq; rcases hq with rfl | rfl | rfl <;> rfl
   · intro w1 hw1 hg
     have key := hK.out undef w1 (by rw [hGM]; exact ⟨hB.grown hg (by omega), blk_grown hb0 hg (by omega), blk_grown hb1 hg (by omega), blk_grown hb2 hg (by omega), blk_grown hb3 hg (by omega), blk_grown hb4 hg (by omega), (kV f0), (kV f1), (kG f2 hgb hg), (kG f3 hgb hg), (fun h => by rw [upd_ne v _ (by decide), upd_ne v _ (by decide)]; exact ⟨g, e1, e2, fun h2 => (h2 (.inr rfl)).elim, fun _ => ⟨bb, A, n, c, x, es, hw1⟩⟩), trivial⟩)
     clear hb0 hb1 hb2 hb3 hb4 f0 f1 f2 f3 f4 f5 hK
     simpa [upd] using key
 case hendM =>
  intro v W L0 hall hGv
  rw [hGM] at hGv
  obtain ⟨hB, hb0, hb1, hb2, hb3, hb4, f0, f1, f2, f3, f4, _⟩ := hGv
  have d3 := f3 (hall 3 (by decide))
  obtain ⟨g, p4, hgs, _, hg5⟩ := f4 (hall 4 (by decide))
  obtain ⟨b9, A9, n9, c9, x9, p9, hx9⟩ := hg5 (hall 5 (by decide))
  rw [p9] at d3
  replace BEL := yk hB
  replace XR := yk hb1
  replace G2 := yk hb3
  replace G3 := yk hb4
  have XT := yk hx9
  have P9 := yk d3
  have h_q := HGS.out
  have HGN := yk (ya hgs h_q)
  clear hall f0 f1 f2 f3 f4 hB hb0 hb1 hb2 hb3 hb4 d3 hx9 hg5 h_q hgs X0 G1
  simp only [setAll, List.setIfInBounds_toArray, List.set_cons_zero, List.set_cons_succ, Nat.reduceAdd, p4, p9]
  have hwm : wrap64 ((most : Int) + 1) = (most : Int) + 1 := by unfold wrap64; have := HM.out; omega
  obtain ⟨q0, q0'⟩ := box_cell G2.out 0 rfl
  obtain ⟨q1, q1'⟩ := box_cell G3.out 0 rfl
  go_wp2_with fail
  clear q0 q0' q1 q1'
  try rw [hwm]
  go_loopw [31] (fun v31 wr => ∃ i : Nat, v31 = .int .i64 i ∧ i ≤ most + 1 ∧ Aside0 (BelN w 2 wr) ∧ Aside0 (wr.heap[w.heap.size + 1]? = some (.cells #[.bool false, .slice none 0 0, .int .i64 0, .bool false] 40 (0, 0))) ∧ Aside0 (wr.heap[g]? = some (.cells #[.bool b9, .slice A9 n9 c9, .int .i64 x9] 27 (0, 0))) ∧ Aside0 (PDy wr w.heap.size (.agg #[.bool b9, .slice A9 n9 c9, .int .i64 x9]) t (-1074)) ∧ Aside0 (∀ j, j < i → ¬ t = tenI j * M)) (fun v31 _ => (most + 1) - (intOf v31).toNat)
  case atStart => exact ⟨0, rfl, Nat.zero_le _, BEL, XR, XT, P9, ⟨fun j hj => absurd hj (Nat.not_lt_zero _)⟩⟩
  case round =>
   clear BEL XR XT P9 G2 G3 hwm
   obtain ⟨i, rfl, hik, BEL, XR, XT, P9, HNO⟩ := hrel
   by_cases hlt : i < most + 1
   · have hlt' : (i : Int) < (most : Int) + 1 := by omega
     have hld : decide ((i : Int) < (most : Int) + 1) = true := decide_eq_true hlt'
     have HI := yk hlt
     obtain ⟨eq, heq⟩ : ∃ q, decide (t = tenI i * M) = q := ⟨_, rfl⟩
     have HEQ : Aside0 ((cmpZ t (tenI i * M) == 0) = eq) := ⟨(cmpZ_zero _ _).trans heq⟩
     have HE2 := yk heq
     clear heq
     go_upto_region 9 with fail
     obtain ⟨GN, hGN⟩ : ∃ G : (Nat → Prop) → (Nat → Value) → World → Prop, G = fun L v W => BelN w 2 W ∧ W.heap[w.heap.size + 1]? = some (.cells #[.bool false, .slice none 0 0, .int .i64 0, .bool false] 40 (0, 0)) ∧ W.heap[g]? = some (.cells #[.bool b9, .slice A9 n9 c9, .int .i64 x9] 27 (0, 0)) ∧ PDy W w.heap.size (.agg #[.bool b9, .slice A9 n9 c9, .int .i64 x9]) t (-1074) ∧ (L 0 → (v 0) = .agg #[.bool b9, .slice A9 n9 c9, .int .i64 x9]) ∧ (L 1 → (v 1) = .int .i64 i) ∧ (L 2 → PDy W w.heap.size (v 2) (tenI i * M) (-1074)) ∧ (L 3 → (v 3) = .int .i64 (cmpZ t (tenI i * M))) ∧ (L 4 → (v 4) = .bool eq) := ⟨_, rfl⟩
     refine wp_region_slotsV [34, 35, 36, 37, 38] (by kernel_rfl) (by kernel_rfl) (G := GN) ?h0N ?hstepN ?hendN
     case h0N =>
      intro v; rw [hGN]
      exact ⟨BEL.out.next (below_drew yr), blk_drew XR.out, blk_drew XT.out, P9.out.below (below_drew yr), fun h => h.elim, fun h => h.elim, fun h => h.elim, fun h => h.elim, fun h => h.elim⟩
     case hstepN =>
      intro k o ho v W L hGv hnk haft hcl K hK
      rw [hGN] at hGv
      obtain ⟨hB, hb0, hb1, hk0, f0, f1, f2, f3, f4⟩ := hGv
      rcases k with _ | _ | _ | _ | _ | k
      all_goals first
       | (cases ho; done)
       | (obtain rfl := (Option.some.inj ho).symm
          clear ho
          rw [if_pos (by rfl)]
          simp only [setAll, List.setIfInBounds_toArray, List.set_cons_zero, List.set_cons_succ, List.set_nil, List.getElem_toArray, List.getElem_cons_zero, List.getElem_cons_succ, Nat.reduceAdd] at haft hK ⊢)
      ·
       have cc0 := (box_cell (v := .bool b9) hb1 0 rfl).1
       have cc1 := (box_cell (v := .slice A9 n9 c9) hb1 1 rfl).1
       have cc2 := (box_cell (v := .int .i64 x9) hb1 2 rfl).1
       have hb := yw W
       have key := hK.out (.agg #[.bool b9, .slice A9 n9 c9, .int .i64 x9]) W (by rw [hGN]; exact ⟨hB.next hb, yb hb0 hb, yb hb1 hb, hk0.below hb, yu, (kV f1), (kD f2 hb), (kV f3), (kV f4)⟩)
       clear hb0 hb1 hk0 f0 f1 f2 f3 f4 hb hK
       go_simp
       simpa [upd] using key
      ·
       have hb := yw W
       have key := hK.out (.int .i64 i) W (by rw [hGN]; exact ⟨hB.next hb, yb hb0 hb, yb hb1 hb, hk0.below hb, (kV f0), yu, (kD f2 hb), (kV f3), (kV f4)⟩)
       clear hb0 hb1 hk0 f0 f1 f2 f3 f4 hb hK
       go_simp
       simpa [upd] using key
      ·
       have d1 := f1 (haft ⟨1, .data⟩ (by simp) rfl)
       have D1 := d1
       have HALL := yk (ya hK (ya hB (ya hb0 ( ya hb1 ( ya hk0 ( ya f0 ( ya f1 ( ya f2 ( ya f3 ( ya f4 (True.intro)))))))))))
       clear hK hb0 hb1 hk0 f0 f1 f2 f3 f4
       go_simp
       go_at_call 68
       refine (ten_any i (by have h1 := HI.out; have h2 := HM.out; omega) _ (tab_below HT.out hB.1)).mono ?_
       rintro en w4 ⟨v1, rfl, hr, hb⟩
       obtain ⟨hK, hB, hb0, hb1, hk0, f0, f1, f2, f3, f4, _⟩ := HALL.out
       have key := hK.out (v1) w4 (by rw [hGN]; exact ⟨hB.next hb, yb hb0 hb, yb hb1 hb, hk0.below hb, (kV f0), (kV f1), fun _ => by rw [upd_eq]; exact (HP.out _ _ _ _ hr).lower (lw hB.2), (kV f3), (kV f4)⟩)
       clear hb0 hb1 hk0 f0 f1 f2 f3 f4 hK HALL
       simpa [upd, D1] using key
      ·
       have d0 := f0 (haft ⟨0, .data⟩ (by simp) rfl)
       have D0 := d0
       have d2 := f2 (haft ⟨2, .data⟩ (by simp) rfl)
       have D2 := d2
       have K0 := hk0
       have HALL := yk (ya hK (ya hB (ya hb0 ( ya hb1 ( ya hk0 ( ya f0 ( ya f1 ( ya f2 ( ya f3 ( ya f4 (True.intro)))))))))))
       clear hK hb0 hb1 hk0 f0 f1 f2 f3 f4
       go_simp
       go_at_call 51
       refine (cmp_ok K0.c d2.c OT.out (OTN.out i (by have h1 := HI.out; have h2 := HM.out; omega)) (tab_below HT.out hB.1)).mono ?_
       rintro en w4 ⟨rfl, hb⟩
       obtain ⟨hK, hB, hb0, hb1, hk0, f0, f1, f2, f3, f4, _⟩ := HALL.out
       have key := hK.out (.int .i64 (cmpZ t (tenI i * M))) w4 (by rw [hGN]; exact ⟨hB.next hb, yb hb0 hb, yb hb1 hb, hk0.below hb, (kV f0), (kV f1), (kD f2 hb), yu, (kV f4)⟩)
       clear hb0 hb1 hk0 f0 f1 f2 f3 f4 hK HALL
       simpa [upd, D0] using key
      ·
       have d3 := f3 (haft ⟨3, .data⟩ (by simp) rfl)
       have D3 := d3
       have heq := HEQ.out
       have hb := yw W
       have key := hK.out (.bool eq) W (by rw [hGN]; exact ⟨hB.next hb, yb hb0 hb, yb hb1 hb, hk0.below hb, (kV f0), (kV f1), (kD f2 hb), (kV f3), yu⟩)
       clear hb0 hb1 hk0 f0 f1 f2 f3 f4 hb hK
       go_simp
       simpa [upd, D3] using key
     case hendN =>
      intro v W L0 hall hGv
      rw [hGN] at hGv
      obtain ⟨hB, hb0, hb1, hk0, f0, f1, f2, f3, f4⟩ := hGv
      have d4 := f4 (hall 4 (by decide))
      replace BEL := yk hB
      replace XR := yk hb0
      replace XT := yk hb1
      replace P9 := yk hk0
      clear hall f0 f1 f2 f3 f4 hB hb0 hb1 hk0
      simp only [setAll, List.setIfInBounds_toArray, List.set_cons_zero, List.set_cons_succ, Nat.reduceAdd, d4]
      clear d4 hld
      cases eq
      case true =>
       have HTE := yk (of_decide_eq_true HE2.out)
       go_wp2_with fail
       have BLW := BEL
       go_at_call 32
       refine (whole_any (i : Int) _ (by omega) (by have h1 := HI.out; have h2 := HM.out; omega) (tab_below HT.out BEL.out.1)).mono ?_
       rintro en31 w31 ⟨v31, rfl, hr, hb⟩
       replace BEL := yk (BEL.out.next hb)
       replace XR := yk (yb XR.out hb)
       replace XT := yk (yb XT.out hb)
       replace P9 := yk (P9.out.below hb)
       have P3 := yk hr
       obtain ⟨b31, A31, n31, c31, x31, rfl⟩ := hr.ex5
       clear hr hb
       go_wp2_with (((with_reducible refine gate_store (p := 5) rfl ?_); go_must (refine store_box 40 5 (.tmp 40) rfl rfl rfl (g := w.heap.size + 1) (e := 40) (.agg #[.bool b31, .slice A31 n31 c31, .int .i64 x31, .bool true]) ([.bool b31, .slice A31 n31 c31, .int .i64 x31, .bool true]) rfl rfl rfl info_told ?b1 XR.out rfl ?_; (case b1 => intro q hq; simp at hq; rcases hq with rfl | rfl | rfl | rfl <;> rfl); intro wb hbx hgx; have HX := yk hbx; have HG := yk hgx; clear hbx hgx)); replace P9 := yk (P9.out.grown_box XR.out (by decide) HG.out); replace P3 := yk (P3.out.grown_box XR.out (by decide) HG.out); replace BEL := yk (BEL.out.grown HG.out (by omega)); replace XT := yk (blk_grown XT.out HG.out (by have h_g := HGN.out; omega)); replace XR := HX; clear HG)
       refine bodyPost_ret (results_told rfl _ _ (w.heap.size + 1) _ rfl XR.out rfl) rfl ?_
       rw [log_some HI.out HNO.out HTE.out]
       exact ⟨_, rfl, P3.out.some.lower (lw BLW.out.2), BEL.out.1⟩
      case false =>
       have HTE := yk (of_decide_eq_false HE2.out)
       have hw : wrap64 ((i : Int) + 1) = (i : Int) + 1 := by unfold wrap64; have := HM.out; omega
       go_wp2_with fail
       go_roundw
       case rel => exact ⟨i + 1, by go_num, HI.out, BEL, XR, XT, P9, ⟨fun j hj => by rcases Nat.lt_or_ge j i with h | h; exact HNO.out j h; rw [show j = i by omega]; exact HTE.out⟩⟩
       case measure => (try rw [hw]); exact meas_int HI.out
   · have hlt' : ¬ (i : Int) < (most : Int) + 1 := by omega
     have hld : decide ((i : Int) < (most : Int) + 1) = false := decide_eq_false hlt'
     have he : i = most + 1 := by omega
     go_wp2_with (((with_reducible refine gate_store (p := 5) rfl ?_); go_must (refine store_box 40 5 (.tmp 42) rfl rfl rfl (g := w.heap.size + 1) (e := 40) (.agg #[.bool false, .slice none 0 0, .int .i64 0, .bool false]) ([.bool false, .slice none 0 0, .int .i64 0, .bool false]) rfl rfl rfl info_told ?b1 XR.out rfl ?_; (case b1 => intro q hq; simp at hq; rcases hq with rfl | rfl | rfl | rfl <;> rfl); intro wb hbx hgx; have HX := yk hbx; have HG := yk hgx; clear hbx hgx)); replace BEL := yk (BEL.out.grown HG.out (by omega)); replace XT := yk (blk_grown XT.out HG.out (by have h_g := HGN.out; omega)); replace XR := HX; clear HG)
     refine bodyPost_ret (results_told rfl _ _ (w.heap.size + 1) _ rfl XR.out rfl) rfl ?_
     rw [log_none (fun j hj => HNO.out j (by omega))]
     exact ⟨_, rfl, PO.none _ _, BEL.out.1⟩
theorem Clo.of {w : World} {b m : Nat} {cap : Array Value} {G : Int → Option (Int × Int)} (hE : Enters m) (h : ∀ (W : World) (u : Value) (z : Int), Below w.heap.size w W → CDy W u z (-1074) → z.natAbs < 2 ^ 2098 → TabAt 0 Lib.deBruijn64tab W →
 Calls Tryz.prog m (#[u] ++ cap) W fun en W' => ∃ v', en = .returned v' ∧ PO W' b v' (G z) ∧ Below W.heap.size W W') : Clo w b m cap G := ⟨hE, h⟩
theorem ok_z {z : Int} (h : z.natAbs < 2 ^ 2098) : Ok z (-1074) := Ok.of _ h (by decide) (by decide) (by decide)
theorem calls_lower {P : Program} {m : Nat} {args : Array Value} {W : World} {b b' : Nat} {G : Option (Int × Int)} (h : Calls P m args W fun en W' => ∃ v', en = .returned v' ∧ PO W' b v' G ∧ Below W.heap.size W W') (hb : b' ≤ b) :
 Calls P m args W fun en W' => ∃ v', en = .returned v' ∧ PO W' b' v' G ∧ Below W.heap.size W W' :=
 h.mono fun en W' h => by obtain ⟨v', h1, h2, h3⟩ := h; exact ⟨v', h1, h2.lower hb, h3⟩
def atF (n : Int) (y : Int × Int) (z : Int) : Option (Int × Int) := if z = n * 2 ^ 1074 then some y else none
def pow2F (less lo hi : Int) (z : Int) : Option (Int × Int) := (smallF (2 ^ 1074) z lo hi).map (fun n => powV n less)
def pow10F (less lo hi : Int) (z : Int) : Option (Int × Int) := (smallF (2 ^ 1074) z lo hi).map (fun n => (tenI n.toNat - less, 0))
def lg2F (more : Int) (z : Int) : Option (Int × Int) := log2F (z + more * 2 ^ 1074)
def lg10F (more : Int) (most : Nat) (z : Int) : Option (Int × Int) := logF (2 ^ 1074) most (z + more * 2 ^ 1074)
def turnF (K : Int → Int → Option (Int × Int)) (z : Int) : Option (Int × Int) := K (nearF z 1072 % 4) (z - nearF z 1072 * 2 ^ 1073)

def or3 (G0 G1 G2 : Int → Option (Int × Int)) (z : Int) : Option (Int × Int) := (G0 z).or ((G1 z).or (G2 z))
/-- The function values of the cases, by the boxes that they hold. -/
inductive IsClo (w : World) (b : Nat) : Value → (Int → Option (Int × Int)) → Prop where
 | atc {g1 g2 : Nat} {n z0 e0 tx : Int} {tb : Bool} {tA : Option Addr} {tn tc : Nat} (h1 : w.heap[g1]? = some (.cells #[.int .i64 n] 2 (0, 0))) (h2 : w.heap[g2]? = some (.cells #[.bool tb, .slice tA tn tc, .int .i64 tx, .bool true] 40 (0, 0))) (hP : PT w b (.agg #[.bool tb, .slice tA tn tc, .int .i64 tx, .bool true]) z0 e0 true) (hn : n.natAbs < 2 ^ 62) :
    IsClo w b (.func (.func 62) #[] #[.pointer (some ⟨g1, 0, none⟩), .pointer (some ⟨g2, 0, none⟩)]) (atF n (z0, e0))
 | pow2 {g1 g2 g3 g4 : Nat} {less lo hi : Int} (h1 : w.heap[g1]? = some (.cells #[.int .i64 lo] 2 (0, 0))) (h2 : w.heap[g2]? = some (.cells #[.int .i64 hi] 2 (0, 0))) (h3 : w.heap[g3]? = some (.cells #[.int .i64 2] 3 (0, 0))) (h4 : w.heap[g4]? = some (.cells #[.int .i64 less] 2 (0, 0))) (hlo : -16384 ≤ lo) (hhi : hi ≤ 16384) (hl0 : lo.natAbs < 2 ^ 20) (hh0 : hi.natAbs < 2 ^ 20) (hl : less.natAbs < 2 ^ 20) :
    IsClo w b (.func (.func 65) #[] #[.pointer (some ⟨g1, 0, none⟩), .pointer (some ⟨g2, 0, none⟩), .pointer (some ⟨g3, 0, none⟩), .pointer (some ⟨g4, 0, none⟩)]) (pow2F less lo hi)
 | pow10 {g1 g2 g3 g4 : Nat} {less lo hi : Int} (h1 : w.heap[g1]? = some (.cells #[.int .i64 lo] 2 (0, 0))) (h2 : w.heap[g2]? = some (.cells #[.int .i64 hi] 2 (0, 0))) (h3 : w.heap[g3]? = some (.cells #[.int .i64 10] 3 (0, 0))) (h4 : w.heap[g4]? = some (.cells #[.int .i64 less] 2 (0, 0))) (hlo : -16384 ≤ lo) (hhi : hi ≤ 16384) (hl0 : lo.natAbs < 2 ^ 20) (hh0 : hi.natAbs < 2 ^ 20) (hl : less.natAbs < 2 ^ 20) (ht1 : 0 ≤ lo) (ht2 : hi ≤ 50) :
    IsClo w b (.func (.func 65) #[] #[.pointer (some ⟨g1, 0, none⟩), .pointer (some ⟨g2, 0, none⟩), .pointer (some ⟨g3, 0, none⟩), .pointer (some ⟨g4, 0, none⟩)]) (pow10F less lo hi)
 | log2 {g1 g2 g3 most : Nat} {more : Int} (h1 : w.heap[g1]? = some (.cells #[.int .i64 more] 2 (0, 0))) (h2 : w.heap[g2]? = some (.cells #[.int .i64 2] 3 (0, 0))) (h3 : w.heap[g3]? = some (.cells #[.int .i64 most] 3 (0, 0))) (hm : more.natAbs < 2 ^ 20) (hmost : most ≤ 40) :
    IsClo w b (.func (.func 70) #[] #[.pointer (some ⟨g1, 0, none⟩), .pointer (some ⟨g2, 0, none⟩), .pointer (some ⟨g3, 0, none⟩)]) (lg2F more)
 | log10 {g1 g2 g3 most : Nat} {more : Int} (h1 : w.heap[g1]? = some (.cells #[.int .i64 more] 2 (0, 0))) (h2 : w.heap[g2]? = some (.cells #[.int .i64 10] 3 (0, 0))) (h3 : w.heap[g3]? = some (.cells #[.int .i64 most] 3 (0, 0))) (hm : more.natAbs < 2 ^ 20) (hmost : most ≤ 40) :
    IsClo w b (.func (.func 70) #[] #[.pointer (some ⟨g1, 0, none⟩), .pointer (some ⟨g2, 0, none⟩), .pointer (some ⟨g3, 0, none⟩)]) (lg10F more most)
 | turned {g1 m : Nat} {K : Int → Int → Option (Int × Int)} (h1 : w.heap[g1]? = some (.cells #[.func (.func m) #[] #[]] 62 (0, 0))) (hF : SpotFn m K) : IsClo w b (.func (.func 72) #[] #[.pointer (some ⟨g1, 0, none⟩)]) (turnF K)
 | first {g1 gl : Nat} {v0 v1 v2 : Value} {G0 G1 G2 : Int → Option (Int × Int)} (h1 : w.heap[g1]? = some (.cells #[.slice (some ⟨gl, 0, none⟩) 3 3] 91 (0, 0))) (h2 : w.heap[gl]? = some (.cells #[v0, v1, v2] 41 (0, 0))) (c0 : IsClo w b v0 G0) (c1 : IsClo w b v1 G1) (c2 : IsClo w b v2 G2) :
    IsClo w b (.func (.func 74) #[] #[.pointer (some ⟨g1, 0, none⟩)]) (or3 G0 G1 G2)
theorem IsClo.later {w w1 : World} {b : Nat} {v : Value} {G : Int → Option (Int × Int)} (h : IsClo w b v G) (hb : Below w.heap.size w w1) : IsClo w1 b v G := by
 induction h with
 | atc h1 h2 hP hn => exact .atc (yb h1 hb) (yb h2 hb) (hP.below hb) hn
 | pow2 h1 h2 h3 h4 a b c d e => exact .pow2 (yb h1 hb) (yb h2 hb) (yb h3 hb) (yb h4 hb) a b c d e
 | pow10 h1 h2 h3 h4 a b c d e f g => exact .pow10 (yb h1 hb) (yb h2 hb) (yb h3 hb) (yb h4 hb) a b c d e f g
 | log2 h1 h2 h3 a b => exact .log2 (yb h1 hb) (yb h2 hb) (yb h3 hb) a b
 | log10 h1 h2 h3 a b => exact .log10 (yb h1 hb) (yb h2 hb) (yb h3 hb) a b
 | turned h1 a => exact .turned (yb h1 hb) a
 | first h1 h2 _ _ _ i0 i1 i2 => exact .first (yb h1 hb) (yb h2 hb) i0 i1 i2
theorem PL.grown_map {w w1 : World} {b g cl : Nat} {v : Value} {l : List Nat} {es : Array MapEntry} (h : PL w b v l) (hb : w.heap[g]? = some (.map es cl)) (hg : w.grownBy w1 (some g)) : PL w1 b v l := by
 obtain ⟨A, n, c, c', l', h1, h2, h3, h4, hr⟩ := h
 have hr2 := Kd.R_mono (ok' := fun k => k ≠ g) (Kd.R_bound hr) (fun k hk => by
  obtain ⟨_, _, _, q, hq, cells', hc⟩ := hk
  rintro rfl
  rw [hc] at hb
  cases hb)
 refine ⟨A, n, c, c', l', h1, h2, h3, h4, Kd.R_mono (Kd.R_grown hr2 hg ?_) (fun _ _ => trivial)⟩
 intro k hk he
 cases he
 exact hk rfl
theorem PT.grown_map {w w1 : World} {b g cl : Nat} {v : Value} {z e : Int} {s : Bool} {es : Array MapEntry} (h : PT w b v z e s) (hb : w.heap[g]? = Option.some (.map es cl)) (hg : w.grownBy w1 (Option.some g)) : PT w1 b v z e s := by
 obtain ⟨bb, A, n, c, x, rfl, A', n', c', h1, hr⟩ := h
 exact ⟨_, _, _, _, _, rfl, A', n', c', h1, hr.grown_map hb hg⟩
theorem blk_map {w w1 : World} {k g cl : Nat} {cs : Array Value} {t : TypeId} {es : Array MapEntry} (h : w.heap[k]? = some (.cells cs t (0, 0))) (hb : w.heap[g]? = some (.map es cl)) (hg : w.grownBy w1 (some g)) : w1.heap[k]? = some (.cells cs t (0, 0)) :=
 blk_grown h hg (by rintro rfl; rw [h] at hb; cases hb)
theorem IsClo.grown_map {w w1 : World} {b g cl : Nat} {v : Value} {G : Int → Option (Int × Int)} {es : Array MapEntry} (h : IsClo w b v G) (hb : w.heap[g]? = some (.map es cl)) (hg : w.grownBy w1 (some g)) : IsClo w1 b v G := by
 induction h with
 | atc h1 h2 hP hn => exact .atc (blk_map h1 hb hg) (blk_map h2 hb hg) (hP.grown_map hb hg) hn
 | pow2 h1 h2 h3 h4 a b c d e => exact .pow2 (blk_map h1 hb hg) (blk_map h2 hb hg) (blk_map h3 hb hg) (blk_map h4 hb hg) a b c d e
 | pow10 h1 h2 h3 h4 a b c d e f g => exact .pow10 (blk_map h1 hb hg) (blk_map h2 hb hg) (blk_map h3 hb hg) (blk_map h4 hb hg) a b c d e f g
 | log2 h1 h2 h3 a b => exact .log2 (blk_map h1 hb hg) (blk_map h2 hb hg) (blk_map h3 hb hg) a b
 | log10 h1 h2 h3 a b => exact .log10 (blk_map h1 hb hg) (blk_map h2 hb hg) (blk_map h3 hb hg) a b
 | turned h1 a => exact .turned (blk_map h1 hb hg) a
 | first h1 h2 _ _ _ i0 i1 i2 => exact .first (blk_map h1 hb hg) (blk_map h2 hb hg) i0 i1 i2
/-- Such a value can be called. -/
theorem IsClo.call {w : World} {b : Nat} {v : Value} {G : Int → Option (Int × Int)} (h : IsClo w b v G) (hb : b ≤ w.heap.size) : ∃ n cap, v = .func (.func n) #[] cap ∧ Clo w b n cap G := by
 induction h with
 | atc h1 h2 hP hn => exact ⟨_, _, rfl, Clo.of (enters_of Tryz.func62 rfl rfl) (fun W u z hW hu hz hT => at1_any hu (ok_z hz) hn (yb h1 hW) (yb h2 hW) (hP.below hW) hT)⟩
 | pow2 h1 h2 h3 h4 hlo hhi hl0 hh0 hl => exact ⟨_, _, rfl, Clo.of (enters_of Tryz.func65 rfl rfl) (fun W u z hW hu hz hT => calls_lower (power2_any hu (ok_z hz) hlo hhi hl0 hh0 hl (yb h1 hW) (yb h2 hW) (yb h3 hW) (yb h4 hW) hT) (Nat.le_trans hb hW.size))⟩
 | pow10 h1 h2 h3 h4 hlo hhi hl0 hh0 hl t1 t2 => exact ⟨_, _, rfl, Clo.of (enters_of Tryz.func65 rfl rfl) (fun W u z hW hu hz hT => calls_lower (power10_any hu (ok_z hz) hlo hhi hl0 hh0 hl t1 t2 (yb h1 hW) (yb h2 hW) (yb h3 hW) (yb h4 hW) hT) (Nat.le_trans hb hW.size))⟩
 | log2 h1 h2 h3 hm hmost => exact ⟨_, _, rfl, Clo.of (enters_of Tryz.func70 rfl rfl) (fun W u z hW hu hz hT => calls_lower (log2_any hu hz hm hmost (yb h1 hW) (yb h2 hW) (yb h3 hW) hT) (Nat.le_trans hb hW.size))⟩
 | log10 h1 h2 h3 hm hmost => exact ⟨_, _, rfl, Clo.of (enters_of Tryz.func70 rfl rfl) (fun W u z hW hu hz hT => calls_lower (log10_any hu hz hm hmost (yb h1 hW) (yb h2 hW) (yb h3 hW) hT) (Nat.le_trans hb hW.size))⟩
 | turned h1 hF => exact ⟨_, _, rfl, Clo.of (enters_of Tryz.func72 rfl rfl) (fun W u z hW hu hz hT => calls_lower (turned1_any hu hz hF (yb h1 hW) hT) (Nat.le_trans hb hW.size))⟩
 | @first g1 gl v0 v1 v2 G0 G1 G2 h1 h2 _ _ _ i0 i1 i2 =>
   obtain ⟨m0, cap0, rfl, q0⟩ := i0
   obtain ⟨m1, cap1, rfl, q1⟩ := i1
   obtain ⟨m2, cap2, rfl, q2⟩ := i2
   refine ⟨_, _, rfl, Clo.of (enters_of Tryz.func74 rfl rfl) (fun W u z hW hu hz hT => ?_)⟩
   exact first1_any (ms := fun i => match i with | 0 => m0 | 1 => m1 | _ => m2) (caps := fun i => match i with | 0 => cap0 | 1 => cap1 | _ => cap2) (Gs := fun i => match i with | 0 => G0 | 1 => G1 | _ => G2) hu hz (fun i hi => by
    rcases i with _ | _ | _ | i
    · exact q0.below hW
    · exact q1.below hW
    · exact q2.below hW
    · omega) (yb h1 hW) (yb h2 hW) hT

theorem at_fn {v : Value} {n z0 e0 : Int} {b : Nat} (w : World) (hP : PT w b v z0 e0 true) (hn : n.natAbs < 2 ^ 62) :
 Calls Tryz.prog 31 #[.int .i64 n, v] w fun en w' => ∃ v', en = .returned v' ∧ IsClo w' b v' (atF n (z0, e0)) ∧ Below w.heap.size w w' := by
 obtain ⟨tb, tA, tn, tc, tx, rfl⟩ := hP.ex5
 have HN := yk hn
 have P0 := yk (hP.below (below_alloc (below_alloc yr (.cells #[.int .i64 n] 2)) (.cells #[.bool tb, .slice tA tn tc, .int .i64 tx, .bool true] 40)))
 clear hP hn
 have hmf : ∀ (fn : Fn) (first cap : Array Value) (w : World), (Instr.makeFunc fn first cap).run Tryz.prog w = .ok (.func fn first cap) w := fun _ _ _ _ => rfl
 go_enter Tryz.func31, Tryz.ntmps31
 obtain ⟨BEL, X0, X1⟩ := al2 w 2 #[.int .i64 n] 2 #[.bool tb, .slice tA tn tc, .int .i64 tx, .bool true] 40
 go_wp2_with fail
 go_ret
 exact ⟨_, rfl, .atc X0.out X1.out P0.out HN.out, BEL.out.1⟩

theorem power2_fn {b : Nat} {less lo hi : Int} (w : World) (hlo : -16384 ≤ lo) (hhi : hi ≤ 16384) (hl0 : lo.natAbs < 2 ^ 20) (hh0 : hi.natAbs < 2 ^ 20) (hl : less.natAbs < 2 ^ 20) :
 Calls Tryz.prog 33 #[.int .i64 2, .int .i64 less, .int .i64 lo, .int .i64 hi] w fun en w' => ∃ v', en = .returned v' ∧ IsClo w' b v' (pow2F less lo hi) ∧ Below w.heap.size w w' := by
 have Hhlo := yk hlo
 have Hhhi := yk hhi
 have Hhl0 := yk hl0
 have Hhh0 := yk hh0
 have Hhl := yk hl
 clear hlo hhi hl0 hh0 hl
 have hmf : ∀ (fn : Fn) (first cap : Array Value) (w : World), (Instr.makeFunc fn first cap).run Tryz.prog w = .ok (.func fn first cap) w := fun _ _ _ _ => rfl
 go_enter Tryz.func33, Tryz.ntmps33
 obtain ⟨BEL, X0, X1, X2, X3⟩ := al4 w 4 #[.int .i64 2] 3 #[.int .i64 less] 2 #[.int .i64 lo] 2 #[.int .i64 hi] 2
 go_wp2_with fail
 go_ret
 exact ⟨_, rfl, .pow2 X2.out X3.out X0.out X1.out Hhlo.out Hhhi.out Hhl0.out Hhh0.out Hhl.out, BEL.out.1⟩

theorem power10_fn {b : Nat} {less lo hi : Int} (w : World) (hlo : -16384 ≤ lo) (hhi : hi ≤ 16384) (hl0 : lo.natAbs < 2 ^ 20) (hh0 : hi.natAbs < 2 ^ 20) (hl : less.natAbs < 2 ^ 20) (hten : 0 ≤ lo) (hten2 : hi ≤ 50) :
 Calls Tryz.prog 33 #[.int .i64 10, .int .i64 less, .int .i64 lo, .int .i64 hi] w fun en w' => ∃ v', en = .returned v' ∧ IsClo w' b v' (pow10F less lo hi) ∧ Below w.heap.size w w' := by
 have Hhlo := yk hlo
 have Hhhi := yk hhi
 have Hhl0 := yk hl0
 have Hhh0 := yk hh0
 have Hhl := yk hl
 have Hhten := yk hten
 have Hhten2 := yk hten2
 clear hlo hhi hl0 hh0 hl hten hten2
 have hmf : ∀ (fn : Fn) (first cap : Array Value) (w : World), (Instr.makeFunc fn first cap).run Tryz.prog w = .ok (.func fn first cap) w := fun _ _ _ _ => rfl
 go_enter Tryz.func33, Tryz.ntmps33
 obtain ⟨BEL, X0, X1, X2, X3⟩ := al4 w 4 #[.int .i64 10] 3 #[.int .i64 less] 2 #[.int .i64 lo] 2 #[.int .i64 hi] 2
 go_wp2_with fail
 go_ret
 exact ⟨_, rfl, .pow10 X2.out X3.out X0.out X1.out Hhlo.out Hhhi.out Hhl0.out Hhh0.out Hhl.out Hhten.out Hhten2.out, BEL.out.1⟩

theorem log2_fn {b most : Nat} {more : Int} (w : World) (hm : more.natAbs < 2 ^ 20) (hmost : most ≤ 40) :
 Calls Tryz.prog 34 #[.int .i64 2, .int .i64 more, .int .i64 most] w fun en w' => ∃ v', en = .returned v' ∧ IsClo w' b v' (lg2F more) ∧ Below w.heap.size w w' := by
 have Hhm := yk hm
 have Hhmost := yk hmost
 clear hm hmost
 have hmf : ∀ (fn : Fn) (first cap : Array Value) (w : World), (Instr.makeFunc fn first cap).run Tryz.prog w = .ok (.func fn first cap) w := fun _ _ _ _ => rfl
 go_enter Tryz.func34, Tryz.ntmps34
 obtain ⟨BEL, X0, X1, X2⟩ := al3 w 3 #[.int .i64 2] 3 #[.int .i64 more] 2 #[.int .i64 most] 3
 go_wp2_with fail
 go_ret
 exact ⟨_, rfl, .log2 X1.out X0.out X2.out Hhm.out Hhmost.out, BEL.out.1⟩

theorem log10_fn {b most : Nat} {more : Int} (w : World) (hm : more.natAbs < 2 ^ 20) (hmost : most ≤ 40) :
 Calls Tryz.prog 34 #[.int .i64 10, .int .i64 more, .int .i64 most] w fun en w' => ∃ v', en = .returned v' ∧ IsClo w' b v' (lg10F more most) ∧ Below w.heap.size w w' := by
 have Hhm := yk hm
 have Hhmost := yk hmost
 clear hm hmost
 have hmf : ∀ (fn : Fn) (first cap : Array Value) (w : World), (Instr.makeFunc fn first cap).run Tryz.prog w = .ok (.func fn first cap) w := fun _ _ _ _ => rfl
 go_enter Tryz.func34, Tryz.ntmps34
 obtain ⟨BEL, X0, X1, X2⟩ := al3 w 3 #[.int .i64 10] 3 #[.int .i64 more] 2 #[.int .i64 most] 3
 go_wp2_with fail
 go_ret
 exact ⟨_, rfl, .log10 X1.out X0.out X2.out Hhm.out Hhmost.out, BEL.out.1⟩

theorem turned_fn {b m : Nat} {K : Int → Int → Option (Int × Int)} (w : World) (hF : SpotFn m K) :
 Calls Tryz.prog 35 #[.func (.func m) #[] #[]] w fun en w' => ∃ v', en = .returned v' ∧ IsClo w' b v' (turnF K) ∧ Below w.heap.size w w' := by
 have HF := yk hF
 clear hF
 have hmf : ∀ (fn : Fn) (first cap : Array Value) (w : World), (Instr.makeFunc fn first cap).run Tryz.prog w = .ok (.func fn first cap) w := fun _ _ _ _ => rfl
 go_enter Tryz.func35, Tryz.ntmps35
 obtain ⟨BEL, X0⟩ := al1 w 1 #[.func (.func m) #[] #[]] 62
 go_wp2_with fail
 go_ret
 exact ⟨_, rfl, .turned X0.out HF.out, BEL.out.1⟩

theorem first_fn {b gl : Nat} {v0 v1 v2 : Value} {G0 G1 G2 : Int → Option (Int × Int)} (w : World) (h2 : w.heap[gl]? = some (.cells #[v0, v1, v2] 41 (0, 0))) (c0 : IsClo w b v0 G0) (c1 : IsClo w b v1 G1) (c2 : IsClo w b v2 G2) :
 Calls Tryz.prog 39 #[.slice (some ⟨gl, 0, none⟩) 3 3] w fun en w' => ∃ v', en = .returned v' ∧ IsClo w' b v' (or3 G0 G1 G2) ∧ Below w.heap.size w w' := by
 have H2 := yk (blk_alloc h2 (.cells #[.slice (some ⟨gl, 0, none⟩) 3 3] 91))
 have C0 := yk (c0.later (below_alloc yr (.cells #[.slice (some ⟨gl, 0, none⟩) 3 3] 91)))
 have C1 := yk (c1.later (below_alloc yr (.cells #[.slice (some ⟨gl, 0, none⟩) 3 3] 91)))
 have C2 := yk (c2.later (below_alloc yr (.cells #[.slice (some ⟨gl, 0, none⟩) 3 3] 91)))
 clear h2 c0 c1 c2
 have hmf : ∀ (fn : Fn) (first cap : Array Value) (w : World), (Instr.makeFunc fn first cap).run Tryz.prog w = .ok (.func fn first cap) w := fun _ _ _ _ => rfl
 go_enter Tryz.func39, Tryz.ntmps39
 obtain ⟨BEL, X0⟩ := al1 w 1 #[.slice (some ⟨gl, 0, none⟩) 3 3] 91
 go_wp2_with fail
 go_ret
 exact ⟨_, rfl, .first X0.out H2.out C0.out C1.out C2.out, BEL.out.1⟩

/-- A map whose keys are 1, 2, .. in order; its values. -/
def MapB (w : World) (m : Nat) (L : List Value) : Prop :=
 ∃ es clock, w.heap[m]? = some (.map es clock) ∧ es.toList.map (·.key) = (List.range L.length).map (fun i : Nat => Value.int .u8 ((i : Int) + 1)) ∧ es.toList.map (·.val) = L
theorem MapB.new (w : World) : MapB (w.alloc (.map #[] 0)) w.heap.size [] := ⟨#[], 0, (MapKept.heap_alloc w _).1, rfl, rfl⟩
theorem MapB.below {w w1 : World} {m : Nat} {L : List Value} (h : MapB w m L) (hb : Below w.heap.size w w1) : MapB w1 m L := by
 obtain ⟨es, cl, h1, h2, h3⟩ := h
 exact ⟨es, cl, yb h1 hb, h2, h3⟩
theorem map_under : ∃ e, Tryz.prog.underlying 42 = some (.map 22 e) := ⟨41, by kernel_rfl⟩
theorem key_under : Tryz.prog.underlying 22 = some (.int .u8) := by kernel_rfl
theorem MapB.keys {L : List Value} {es : Array MapEntry} (h : es.toList.map (·.key) = (List.range L.length).map (fun i : Nat => Value.int .u8 ((i : Int) + 1))) : (∀ x ∈ es.toList, MapKept.IsKey (.int .u8) x.key) ∧ ∀ x ∈ es.toList, ∃ i : Nat, i < L.length ∧ x.key = .int .u8 ((i : Int) + 1) := by
 have h2 : ∀ x ∈ es.toList, ∃ i : Nat, i < L.length ∧ x.key = .int .u8 ((i : Int) + 1) := by
  intro x hx
  have h3 : x.key ∈ es.toList.map (·.key) := List.mem_map.2 ⟨x, hx, rfl⟩
  rw [h] at h3
  obtain ⟨i, hi, he⟩ := List.mem_map.1 h3
  exact ⟨i, by simpa using hi, he.symm⟩
 exact ⟨fun x hx => by obtain ⟨i, _, he⟩ := h2 x hx; rw [he]; rfl, h2⟩
theorem map_insert {w : World} {m : Nat} {L : List Value} {k : Int} {v : Value} (h : MapB w m L) (hk : k = (L.length : Int) + 1) :
 ∃ w1, (Instr.mapUpdate 42 (.map (some m)) (.int .u8 k) v).run Tryz.prog w = .ok () w1 ∧ MapB w1 m (L ++ [v]) ∧ w.grownBy w1 (some m) := by
 obtain ⟨es, cl, hb, h2, h3⟩ := h
 obtain ⟨e, hm⟩ := map_under
 obtain ⟨hks, hkk⟩ := MapB.keys h2
 have hkey : MapKept.IsKey (.int .u8) (.int .u8 k) := rfl
 rcases MapKept.findNow_spec hkey es.toList 0 hks with ⟨h5, h6⟩ | ⟨j, e, h5, h6, h7⟩
 · refine ⟨{ w with heap := w.heap.setIfInBounds m (.map (es.push { key := .int .u8 k, val := v, born := cl }) (cl + 1)) }, by simp [Instr.mapUpdate, run_underlying hm, MapKept.run_getObj_map hb, MapKept.run_checkKey key_under hkey, MapKept.run_findKey key_under h5, MapKept.run_setObj_map _ hb, Result.andThen], ⟨_, _, (MapKept.heap_set hb).1, ?_, ?_⟩, ⟨rfl, rfl, rfl, by simp, fun k _ hne => (MapKept.heap_set hb).2 k (fun he => hne (by rw [he]))⟩⟩
   · simp [List.range_succ, h2, hk]
   · simp [h3]
 · exfalso
   obtain ⟨i, hi, he⟩ := hkk e (List.mem_of_getElem? h6)
   rw [he] at h7
   injection h7 with _ h7
   omega
theorem map_lookup {w : World} {m : Nat} {L : List Value} {f : Nat} {v : Value} (h : MapB w m L) (hf : L[f]? = some v) :
 (Instr.lookup 42 (.map (some m)) (.int .u8 ((f : Int) + 1)) false).run Tryz.prog w = .ok v w := by
 obtain ⟨es, cl, hb, h2, h3⟩ := h
 obtain ⟨e, hm⟩ := map_under
 obtain ⟨hks, hkk⟩ := MapB.keys h2
 have hkey : MapKept.IsKey (.int .u8) (.int .u8 ((f : Int) + 1)) := rfl
 have hlen : es.toList.length = L.length := by rw [← h3]; simp
 have hfl : f < L.length := by
  refine Classical.byContradiction fun hc => ?_
  rw [List.getElem?_eq_none (by omega)] at hf
  cases hf
 obtain ⟨x, hx⟩ : ∃ x, es.toList[f]? = some x := ⟨_, List.getElem?_eq_getElem (by omega)⟩
 have keyAt : ∀ (j : Nat) (y : MapEntry), es.toList[j]? = some y → y.key = .int .u8 ((j : Int) + 1) := by
  intro j y hy
  have h8 : (es.toList.map (·.key))[j]? = some y.key := by rw [List.getElem?_map, hy]; rfl
  rw [h2, List.getElem?_map] at h8
  have hj : j < L.length := by
   refine Classical.byContradiction fun hc => ?_
   rw [List.getElem?_eq_none (by omega)] at hy
   cases hy
  rw [List.getElem?_range hj] at h8
  exact (Option.some.inj h8).symm
 rcases MapKept.findNow_spec hkey es.toList 0 hks with ⟨h5, h6⟩ | ⟨j, e, h5, h6, h7⟩
 · exact absurd (keyAt f x hx) (h6 x (List.mem_of_getElem? hx))
 · have h8 := keyAt j e h6
   rw [h7] at h8
   injection h8 with _ h8
   have hjf : j = f := by omega
   subst hjf
   have h9 : e.val = v := by
    have : (es.toList.map (·.val))[j]? = some e.val := by rw [List.getElem?_map, h6]; rfl
    rw [h3, hf] at this
    exact (Option.some.inj this).symm
   simp [Instr.lookup, run_underlying hm, MapKept.run_getObj_map hb, MapKept.run_checkKey key_under hkey, MapKept.run_findKey key_under h5, Result.andThen, h9]
section
variable {P : Program} {ops : Array Oper} {rest : List Oper} {o : Oper} {a : Act} {Q : Exit → Act → World → Prop} {W : World}
end
/-- A map of the cases' function values, in the order of its keys. -/
def MapC (w : World) (b m : Nat) (Gs : List (Int → Option (Int × Int))) : Prop := ∃ L, MapB w m L ∧ L.length = Gs.length ∧ ∀ (i : Nat) (v : Value) (G : Int → Option (Int × Int)), L[i]? = some v → Gs[i]? = some G → IsClo w b v G
theorem MapC.new (w : World) (b : Nat) : MapC (w.alloc (.map #[] 0)) b w.heap.size [] := ⟨[], MapB.new w, rfl, fun i v G h => by cases h⟩
theorem MapC.later {w w1 : World} {b m : Nat} {Gs : List (Int → Option (Int × Int))} (h : MapC w b m Gs) (hb : Below w.heap.size w w1) : MapC w1 b m Gs := by
 obtain ⟨L, h1, h2, h3⟩ := h
 exact ⟨L, h1.below hb, h2, fun i v G hv hG => (h3 i v G hv hG).later hb⟩
theorem MapC.blk {w : World} {b m : Nat} {Gs : List (Int → Option (Int × Int))} (h : MapC w b m Gs) : ∃ es cl, w.heap[m]? = some (.map es cl) := by
 obtain ⟨L, ⟨es, cl, h1, _⟩, _⟩ := h
 exact ⟨es, cl, h1⟩
theorem ins_fact {W : World} {k : Int} {xv : Value} {b m : Nat} {Gs : List (Int → Option (Int × Int))} {G : Int → Option (Int × Int)} (hM : MapC W b m Gs) (hC : IsClo W b xv G) (hk : k = (Gs.length : Int) + 1) :
 ∃ w1, (Instr.mapUpdate 42 (.map (some m)) (.int .u8 k) xv).run Tryz.prog W = .ok () w1 ∧ MapC w1 b m (Gs ++ [G]) ∧ W.grownBy w1 (some m) := by
 obtain ⟨L, h1, h2, h3⟩ := hM
 obtain ⟨w1, e1, e2, e3⟩ := map_insert (v := xv) h1 (k := k) (by rw [hk, h2])
 refine ⟨w1, e1, ?_, e3⟩
 obtain ⟨es, cl, hb, _⟩ := h1
 refine ⟨_, e2, by simp [h2], fun i v G' hv hG => ?_⟩
 rcases Nat.lt_or_ge i L.length with hi | hi
 · rw [List.getElem?_append_left hi] at hv
   rw [List.getElem?_append_left (by omega)] at hG
   exact (h3 i v G' hv hG).grown_map hb e3
 · rw [List.getElem?_append_right hi] at hv
   rw [List.getElem?_append_right (by omega)] at hG
   rw [h2] at hv
   cases hj : i - Gs.length with
   | zero =>
     rw [hj] at hv hG
     obtain rfl := Option.some.inj hv
     obtain rfl := Option.some.inj hG
     exact hC.grown_map hb e3
   | succ j => rw [hj] at hv; cases hv
theorem IsClo.shape {w : World} {b : Nat} {v : Value} {G : Int → Option (Int × Int)} (h : IsClo w b v G) : ∃ n cap, v = .func (.func n) #[] cap := by
 cases h <;> exact ⟨_, _, rfl⟩
theorem clo_map {w w1 : World} {b m : Nat} {v : Value} {G : Int → Option (Int × Int)} {Gs : List (Int → Option (Int × Int))} (h : IsClo w b v G) (hM : MapC w b m Gs) (hg : w.grownBy w1 (some m)) : IsClo w1 b v G := by
 obtain ⟨es, cl, hb⟩ := hM.blk
 exact h.grown_map hb hg
def sineK (k r : Int) : Option (Int × Int) := if r = 0 then some (sel 0 1 0 (-1) k, 0) else none
def cosineK (k r : Int) : Option (Int × Int) := if r = 0 then some (sel 1 0 (-1) 0 k, 0) else none
def tangentK (k r : Int) : Option (Int × Int) := tanF k r (2 ^ 1072)
def caseL : List (Int → Option (Int × Int)) := [atF 0 (1, 0), pow2F 0 (-16384) 16384, pow10F 0 0 23, atF 0 (0, 0), pow2F 1 (-54) 54, pow10F 1 0 16, atF 1 (0, 0), lg2F 0, lg10F 0 22, atF 0 (0, 0), lg2F 1, lg10F 1 16, atF 0 (0, 0), atF 0 (1, 0), atF 0 (0, 0), turnF sineK, turnF cosineK, turnF tangentK, atF 0 (0, 0), atF 1 (0, 0), atF 0 (0, 0), or3 (atF 0 (0, 0)) (atF 1 (1, 0 + -1)) (atF (-1) (-1, 0 + -1)), or3 (atF 1 (0, 0)) (atF 0 (1, 0 + -1)) (atF (-1) (1, 0)), or3 (atF 0 (0, 0)) (atF 1 (1, 0 + -2)) (atF (-1) (-1, 0 + -2)), atF 0 (0, 0), atF 0 (1, 0), atF 0 (0, 0), atF 0 (0, 0), atF 1 (0, 0), atF 0 (0, 0)]

theorem cases_any (w : World) (hT : TabAt 0 Lib.deBruijn64tab w) :
 Calls Tryz.prog 18 #[] w fun en w' => ∃ m, en = .returned (.map (some m)) ∧ MapC w' w.heap.size m caseL ∧ Below w.heap.size w w' := by
 have HT := yk hT
 have hmm := @run_makeMap
 clear hT
 have BEL := yk (BelN.zero w)
 go_enter Tryz.func18, Tryz.ntmps18
 go_wp2_with fail
 go_at_call 32
 refine (whole_any (0) _ (by decide) (by decide) (tab_below HT.out BEL.out.1)).mono ?_
 rintro en1 w1 ⟨v1, rfl, hr, hb⟩
 have hl := hr.lower (Nat.le_trans (Nat.le_add_right _ _) BEL.out.2)
 replace BEL := yk (BEL.out.next hb)
 have T1 := yk hl
 clear hr hb hl
 go_wp2_with fail
 go_at_call 31
 refine (at_fn (n := 0) _ T1.out (by decide)).mono ?_
 rintro en2 w2 ⟨v2, rfl, hr, hb⟩
 replace BEL := yk (BEL.out.next hb)
 replace T1 := yk (T1.out.below hb)
 obtain ⟨n2, c2, rfl⟩ := hr.shape
 have CZ := yk hr
 clear hr hb
 clear T1
 go_wp2_with fail
 go_at_call 32
 refine (whole_any (1) _ (by decide) (by decide) (tab_below HT.out BEL.out.1)).mono ?_
 rintro en3 w3 ⟨v3, rfl, hr, hb⟩
 have hl := hr.lower (Nat.le_trans (Nat.le_add_right _ _) BEL.out.2)
 replace BEL := yk (BEL.out.next hb)
 replace CZ := yk (CZ.out.later hb)
 have T1 := yk hl
 clear hr hb hl
 go_wp2_with fail
 go_at_call 31
 refine (at_fn (n := 0) _ T1.out (by decide)).mono ?_
 rintro en4 w4 ⟨v4, rfl, hr, hb⟩
 replace BEL := yk (BEL.out.next hb)
 replace CZ := yk (CZ.out.later hb)
 replace T1 := yk (T1.out.below hb)
 obtain ⟨n4, c4, rfl⟩ := hr.shape
 have CO := yk hr
 clear hr hb
 clear T1
 have LM := yk (show w.heap.size ≤ w4.heap.size from BEL.out.1.size)
 replace BEL := yk (BEL.out.next (below_alloc yr (.map #[] 0)))
 replace CZ := yk (CZ.out.later (below_alloc yr (.map #[] 0)))
 replace CO := yk (CO.out.later (below_alloc yr (.map #[] 0)))
 have MC := yk (MapC.new w4 w.heap.size)
 obtain ⟨wi1, hi1, hmc, hgi⟩ := ins_fact (k := 1) MC.out CO.out (by rfl)
 replace BEL := yk (BEL.out.grown hgi LM.out)
 replace CZ := yk (clo_map CZ.out MC.out hgi)
 replace CO := yk (clo_map CO.out MC.out hgi)
 replace MC := yk hmc
 clear hmc hgi
 go_wp2_with fail
 clear hi1
 go_at_call 33
 refine (power2_fn (b := w.heap.size) _ (by decide) (by decide) (by decide) (by decide) (by decide)).mono ?_
 rintro en5 w5 ⟨v5, rfl, hr, hb⟩
 replace BEL := yk (BEL.out.next hb)
 replace MC := yk (MC.out.later hb)
 replace CZ := yk (CZ.out.later hb)
 replace CO := yk (CO.out.later hb)
 obtain ⟨n5, c5, rfl⟩ := hr.shape
 have C9 := yk hr
 clear hr hb
 obtain ⟨wi2, hi2, hmc, hgi⟩ := ins_fact (k := 2) MC.out C9.out (by rfl)
 replace BEL := yk (BEL.out.grown hgi LM.out)
 replace CZ := yk (clo_map CZ.out MC.out hgi)
 replace CO := yk (clo_map CO.out MC.out hgi)
 replace C9 := yk (clo_map C9.out MC.out hgi)
 replace MC := yk hmc
 clear hmc hgi
 go_wp2_with fail
 clear hi2
 clear C9
 go_at_call 33
 refine (power10_fn (b := w.heap.size) _ (by decide) (by decide) (by decide) (by decide) (by decide) (by decide) (by decide)).mono ?_
 rintro en6 w6 ⟨v6, rfl, hr, hb⟩
 replace BEL := yk (BEL.out.next hb)
 replace MC := yk (MC.out.later hb)
 replace CZ := yk (CZ.out.later hb)
 replace CO := yk (CO.out.later hb)
 obtain ⟨n6, c6, rfl⟩ := hr.shape
 have C10 := yk hr
 clear hr hb
 obtain ⟨wi3, hi3, hmc, hgi⟩ := ins_fact (k := 3) MC.out C10.out (by rfl)
 replace BEL := yk (BEL.out.grown hgi LM.out)
 replace CZ := yk (clo_map CZ.out MC.out hgi)
 replace CO := yk (clo_map CO.out MC.out hgi)
 replace C10 := yk (clo_map C10.out MC.out hgi)
 replace MC := yk hmc
 clear hmc hgi
 obtain ⟨wi4, hi4, hmc, hgi⟩ := ins_fact (k := 4) MC.out CZ.out (by rfl)
 replace BEL := yk (BEL.out.grown hgi LM.out)
 replace CZ := yk (clo_map CZ.out MC.out hgi)
 replace CO := yk (clo_map CO.out MC.out hgi)
 replace C10 := yk (clo_map C10.out MC.out hgi)
 replace MC := yk hmc
 clear hmc hgi
 go_wp2_with fail
 clear hi3 hi4
 clear C10
 go_at_call 33
 refine (power2_fn (b := w.heap.size) _ (by decide) (by decide) (by decide) (by decide) (by decide)).mono ?_
 rintro en7 w7 ⟨v7, rfl, hr, hb⟩
 replace BEL := yk (BEL.out.next hb)
 replace MC := yk (MC.out.later hb)
 replace CZ := yk (CZ.out.later hb)
 replace CO := yk (CO.out.later hb)
 obtain ⟨n7, c7, rfl⟩ := hr.shape
 have C12 := yk hr
 clear hr hb
 obtain ⟨wi5, hi5, hmc, hgi⟩ := ins_fact (k := 5) MC.out C12.out (by rfl)
 replace BEL := yk (BEL.out.grown hgi LM.out)
 replace CZ := yk (clo_map CZ.out MC.out hgi)
 replace CO := yk (clo_map CO.out MC.out hgi)
 replace C12 := yk (clo_map C12.out MC.out hgi)
 replace MC := yk hmc
 clear hmc hgi
 go_wp2_with fail
 clear hi5
 clear C12
 go_at_call 33
 refine (power10_fn (b := w.heap.size) _ (by decide) (by decide) (by decide) (by decide) (by decide) (by decide) (by decide)).mono ?_
 rintro en8 w8 ⟨v8, rfl, hr, hb⟩
 replace BEL := yk (BEL.out.next hb)
 replace MC := yk (MC.out.later hb)
 replace CZ := yk (CZ.out.later hb)
 replace CO := yk (CO.out.later hb)
 obtain ⟨n8, c8, rfl⟩ := hr.shape
 have C13 := yk hr
 clear hr hb
 obtain ⟨wi6, hi6, hmc, hgi⟩ := ins_fact (k := 6) MC.out C13.out (by rfl)
 replace BEL := yk (BEL.out.grown hgi LM.out)
 replace CZ := yk (clo_map CZ.out MC.out hgi)
 replace CO := yk (clo_map CO.out MC.out hgi)
 replace C13 := yk (clo_map C13.out MC.out hgi)
 replace MC := yk hmc
 clear hmc hgi
 go_wp2_with fail
 clear hi6
 clear C13
 go_at_call 32
 refine (whole_any (0) _ (by decide) (by decide) (tab_below HT.out BEL.out.1)).mono ?_
 rintro en9 w9 ⟨v9, rfl, hr, hb⟩
 have hl := hr.lower (Nat.le_trans (Nat.le_add_right _ _) BEL.out.2)
 replace BEL := yk (BEL.out.next hb)
 replace MC := yk (MC.out.later hb)
 replace CZ := yk (CZ.out.later hb)
 replace CO := yk (CO.out.later hb)
 have T1 := yk hl
 clear hr hb hl
 go_wp2_with fail
 go_at_call 31
 refine (at_fn (n := 1) _ T1.out (by decide)).mono ?_
 rintro en10 w10 ⟨v10, rfl, hr, hb⟩
 replace BEL := yk (BEL.out.next hb)
 replace MC := yk (MC.out.later hb)
 replace CZ := yk (CZ.out.later hb)
 replace CO := yk (CO.out.later hb)
 replace T1 := yk (T1.out.below hb)
 obtain ⟨n10, c10, rfl⟩ := hr.shape
 have C15 := yk hr
 clear hr hb
 clear T1
 obtain ⟨wi7, hi7, hmc, hgi⟩ := ins_fact (k := 7) MC.out C15.out (by rfl)
 replace BEL := yk (BEL.out.grown hgi LM.out)
 replace CZ := yk (clo_map CZ.out MC.out hgi)
 replace CO := yk (clo_map CO.out MC.out hgi)
 replace C15 := yk (clo_map C15.out MC.out hgi)
 replace MC := yk hmc
 clear hmc hgi
 go_wp2_with fail
 clear hi7
 clear C15
 go_at_call 34
 refine (log2_fn (b := w.heap.size) (most := 0) _ (by decide) (by decide)).mono ?_
 rintro en11 w11 ⟨v11, rfl, hr, hb⟩
 replace BEL := yk (BEL.out.next hb)
 replace MC := yk (MC.out.later hb)
 replace CZ := yk (CZ.out.later hb)
 replace CO := yk (CO.out.later hb)
 obtain ⟨n11, c11, rfl⟩ := hr.shape
 have C16 := yk hr
 clear hr hb
 obtain ⟨wi8, hi8, hmc, hgi⟩ := ins_fact (k := 8) MC.out C16.out (by rfl)
 replace BEL := yk (BEL.out.grown hgi LM.out)
 replace CZ := yk (clo_map CZ.out MC.out hgi)
 replace CO := yk (clo_map CO.out MC.out hgi)
 replace C16 := yk (clo_map C16.out MC.out hgi)
 replace MC := yk hmc
 clear hmc hgi
 go_wp2_with fail
 clear hi8
 clear C16
 go_at_call 34
 refine (log10_fn (b := w.heap.size) (most := 22) _ (by decide) (by decide)).mono ?_
 rintro en12 w12 ⟨v12, rfl, hr, hb⟩
 replace BEL := yk (BEL.out.next hb)
 replace MC := yk (MC.out.later hb)
 replace CZ := yk (CZ.out.later hb)
 replace CO := yk (CO.out.later hb)
 obtain ⟨n12, c12, rfl⟩ := hr.shape
 have C17 := yk hr
 clear hr hb
 obtain ⟨wi9, hi9, hmc, hgi⟩ := ins_fact (k := 9) MC.out C17.out (by rfl)
 replace BEL := yk (BEL.out.grown hgi LM.out)
 replace CZ := yk (clo_map CZ.out MC.out hgi)
 replace CO := yk (clo_map CO.out MC.out hgi)
 replace C17 := yk (clo_map C17.out MC.out hgi)
 replace MC := yk hmc
 clear hmc hgi
 obtain ⟨wi10, hi10, hmc, hgi⟩ := ins_fact (k := 10) MC.out CZ.out (by rfl)
 replace BEL := yk (BEL.out.grown hgi LM.out)
 replace CZ := yk (clo_map CZ.out MC.out hgi)
 replace CO := yk (clo_map CO.out MC.out hgi)
 replace C17 := yk (clo_map C17.out MC.out hgi)
 replace MC := yk hmc
 clear hmc hgi
 go_wp2_with fail
 clear hi9 hi10
 clear C17
 go_at_call 34
 refine (log2_fn (b := w.heap.size) (most := 0) _ (by decide) (by decide)).mono ?_
 rintro en13 w13 ⟨v13, rfl, hr, hb⟩
 replace BEL := yk (BEL.out.next hb)
 replace MC := yk (MC.out.later hb)
 replace CZ := yk (CZ.out.later hb)
 replace CO := yk (CO.out.later hb)
 obtain ⟨n13, c13, rfl⟩ := hr.shape
 have C19 := yk hr
 clear hr hb
 obtain ⟨wi11, hi11, hmc, hgi⟩ := ins_fact (k := 11) MC.out C19.out (by rfl)
 replace BEL := yk (BEL.out.grown hgi LM.out)
 replace CZ := yk (clo_map CZ.out MC.out hgi)
 replace CO := yk (clo_map CO.out MC.out hgi)
 replace C19 := yk (clo_map C19.out MC.out hgi)
 replace MC := yk hmc
 clear hmc hgi
 go_wp2_with fail
 clear hi11
 clear C19
 go_at_call 34
 refine (log10_fn (b := w.heap.size) (most := 16) _ (by decide) (by decide)).mono ?_
 rintro en14 w14 ⟨v14, rfl, hr, hb⟩
 replace BEL := yk (BEL.out.next hb)
 replace MC := yk (MC.out.later hb)
 replace CZ := yk (CZ.out.later hb)
 replace CO := yk (CO.out.later hb)
 obtain ⟨n14, c14, rfl⟩ := hr.shape
 have C20 := yk hr
 clear hr hb
 obtain ⟨wi12, hi12, hmc, hgi⟩ := ins_fact (k := 12) MC.out C20.out (by rfl)
 replace BEL := yk (BEL.out.grown hgi LM.out)
 replace CZ := yk (clo_map CZ.out MC.out hgi)
 replace CO := yk (clo_map CO.out MC.out hgi)
 replace C20 := yk (clo_map C20.out MC.out hgi)
 replace MC := yk hmc
 clear hmc hgi
 obtain ⟨wi13, hi13, hmc, hgi⟩ := ins_fact (k := 13) MC.out CZ.out (by rfl)
 replace BEL := yk (BEL.out.grown hgi LM.out)
 replace CZ := yk (clo_map CZ.out MC.out hgi)
 replace CO := yk (clo_map CO.out MC.out hgi)
 replace C20 := yk (clo_map C20.out MC.out hgi)
 replace MC := yk hmc
 clear hmc hgi
 obtain ⟨wi14, hi14, hmc, hgi⟩ := ins_fact (k := 14) MC.out CO.out (by rfl)
 replace BEL := yk (BEL.out.grown hgi LM.out)
 replace CZ := yk (clo_map CZ.out MC.out hgi)
 replace CO := yk (clo_map CO.out MC.out hgi)
 replace C20 := yk (clo_map C20.out MC.out hgi)
 replace MC := yk hmc
 clear hmc hgi
 obtain ⟨wi15, hi15, hmc, hgi⟩ := ins_fact (k := 15) MC.out CZ.out (by rfl)
 replace BEL := yk (BEL.out.grown hgi LM.out)
 replace CZ := yk (clo_map CZ.out MC.out hgi)
 replace CO := yk (clo_map CO.out MC.out hgi)
 replace C20 := yk (clo_map C20.out MC.out hgi)
 replace MC := yk hmc
 clear hmc hgi
 go_wp2_with fail
 clear hi12 hi13 hi14 hi15
 clear C20
 go_at_call 35
 refine (turned_fn (b := w.heap.size) (K := sineK) _ sine_fn).mono ?_
 rintro en15 w15 ⟨v15, rfl, hr, hb⟩
 replace BEL := yk (BEL.out.next hb)
 replace MC := yk (MC.out.later hb)
 replace CZ := yk (CZ.out.later hb)
 replace CO := yk (CO.out.later hb)
 obtain ⟨n15, c15, rfl⟩ := hr.shape
 have C24 := yk hr
 clear hr hb
 obtain ⟨wi16, hi16, hmc, hgi⟩ := ins_fact (k := 16) MC.out C24.out (by rfl)
 replace BEL := yk (BEL.out.grown hgi LM.out)
 replace CZ := yk (clo_map CZ.out MC.out hgi)
 replace CO := yk (clo_map CO.out MC.out hgi)
 replace C24 := yk (clo_map C24.out MC.out hgi)
 replace MC := yk hmc
 clear hmc hgi
 go_wp2_with fail
 clear hi16
 clear C24
 go_at_call 35
 refine (turned_fn (b := w.heap.size) (K := cosineK) _ cosine_fn).mono ?_
 rintro en16 w16 ⟨v16, rfl, hr, hb⟩
 replace BEL := yk (BEL.out.next hb)
 replace MC := yk (MC.out.later hb)
 replace CZ := yk (CZ.out.later hb)
 replace CO := yk (CO.out.later hb)
 obtain ⟨n16, c16, rfl⟩ := hr.shape
 have C25 := yk hr
 clear hr hb
 obtain ⟨wi17, hi17, hmc, hgi⟩ := ins_fact (k := 17) MC.out C25.out (by rfl)
 replace BEL := yk (BEL.out.grown hgi LM.out)
 replace CZ := yk (clo_map CZ.out MC.out hgi)
 replace CO := yk (clo_map CO.out MC.out hgi)
 replace C25 := yk (clo_map C25.out MC.out hgi)
 replace MC := yk hmc
 clear hmc hgi
 go_wp2_with fail
 clear hi17
 clear C25
 go_at_call 35
 refine (turned_fn (b := w.heap.size) (K := tangentK) _ tangent_fn).mono ?_
 rintro en17 w17 ⟨v17, rfl, hr, hb⟩
 replace BEL := yk (BEL.out.next hb)
 replace MC := yk (MC.out.later hb)
 replace CZ := yk (CZ.out.later hb)
 replace CO := yk (CO.out.later hb)
 obtain ⟨n17, c17, rfl⟩ := hr.shape
 have C26 := yk hr
 clear hr hb
 obtain ⟨wi18, hi18, hmc, hgi⟩ := ins_fact (k := 18) MC.out C26.out (by rfl)
 replace BEL := yk (BEL.out.grown hgi LM.out)
 replace CZ := yk (clo_map CZ.out MC.out hgi)
 replace CO := yk (clo_map CO.out MC.out hgi)
 replace C26 := yk (clo_map C26.out MC.out hgi)
 replace MC := yk hmc
 clear hmc hgi
 obtain ⟨wi19, hi19, hmc, hgi⟩ := ins_fact (k := 19) MC.out CZ.out (by rfl)
 replace BEL := yk (BEL.out.grown hgi LM.out)
 replace CZ := yk (clo_map CZ.out MC.out hgi)
 replace CO := yk (clo_map CO.out MC.out hgi)
 replace C26 := yk (clo_map C26.out MC.out hgi)
 replace MC := yk hmc
 clear hmc hgi
 go_wp2_with fail
 clear hi18 hi19
 clear C26
 go_at_call 32
 refine (whole_any (0) _ (by decide) (by decide) (tab_below HT.out BEL.out.1)).mono ?_
 rintro en18 w18 ⟨v18, rfl, hr, hb⟩
 have hl := hr.lower (Nat.le_trans (Nat.le_add_right _ _) BEL.out.2)
 replace BEL := yk (BEL.out.next hb)
 replace MC := yk (MC.out.later hb)
 replace CZ := yk (CZ.out.later hb)
 replace CO := yk (CO.out.later hb)
 have T1 := yk hl
 clear hr hb hl
 go_wp2_with fail
 go_at_call 31
 refine (at_fn (n := 1) _ T1.out (by decide)).mono ?_
 rintro en19 w19 ⟨v19, rfl, hr, hb⟩
 replace BEL := yk (BEL.out.next hb)
 replace MC := yk (MC.out.later hb)
 replace CZ := yk (CZ.out.later hb)
 replace CO := yk (CO.out.later hb)
 replace T1 := yk (T1.out.below hb)
 obtain ⟨n19, c19, rfl⟩ := hr.shape
 have C29 := yk hr
 clear hr hb
 clear T1
 obtain ⟨wi20, hi20, hmc, hgi⟩ := ins_fact (k := 20) MC.out C29.out (by rfl)
 replace BEL := yk (BEL.out.grown hgi LM.out)
 replace CZ := yk (clo_map CZ.out MC.out hgi)
 replace CO := yk (clo_map CO.out MC.out hgi)
 replace C29 := yk (clo_map C29.out MC.out hgi)
 replace MC := yk hmc
 clear hmc hgi
 obtain ⟨wi21, hi21, hmc, hgi⟩ := ins_fact (k := 21) MC.out CZ.out (by rfl)
 replace BEL := yk (BEL.out.grown hgi LM.out)
 replace CZ := yk (clo_map CZ.out MC.out hgi)
 replace CO := yk (clo_map CO.out MC.out hgi)
 replace C29 := yk (clo_map C29.out MC.out hgi)
 replace MC := yk hmc
 clear hmc hgi
 go_wp2_with fail
 clear hi20 hi21
 clear C29
 go_at_call 40
 refine (part_any (1) 1 _ (by decide) (by decide) (by decide) (tab_below HT.out BEL.out.1)).mono ?_
 rintro en20 w20 ⟨v20, rfl, hr, hb⟩
 have hl := hr.lower (Nat.le_trans (Nat.le_add_right _ _) BEL.out.2)
 replace BEL := yk (BEL.out.next hb)
 replace MC := yk (MC.out.later hb)
 replace CZ := yk (CZ.out.later hb)
 replace CO := yk (CO.out.later hb)
 have T1 := yk hl
 clear hr hb hl
 go_wp2_with fail
 go_at_call 31
 refine (at_fn (n := 1) _ T1.out (by decide)).mono ?_
 rintro en21 w21 ⟨v21, rfl, hr, hb⟩
 replace BEL := yk (BEL.out.next hb)
 replace MC := yk (MC.out.later hb)
 replace CZ := yk (CZ.out.later hb)
 replace CO := yk (CO.out.later hb)
 replace T1 := yk (T1.out.below hb)
 obtain ⟨n21, c21, rfl⟩ := hr.shape
 have C33 := yk hr
 clear hr hb
 clear T1
 go_wp2_with fail
 go_at_call 40
 refine (part_any (-1) 1 _ (by decide) (by decide) (by decide) (tab_below HT.out BEL.out.1)).mono ?_
 rintro en22 w22 ⟨v22, rfl, hr, hb⟩
 have hl := hr.lower (Nat.le_trans (Nat.le_add_right _ _) BEL.out.2)
 replace BEL := yk (BEL.out.next hb)
 replace MC := yk (MC.out.later hb)
 replace CZ := yk (CZ.out.later hb)
 replace CO := yk (CO.out.later hb)
 replace C33 := yk (C33.out.later hb)
 have T1 := yk hl
 clear hr hb hl
 go_wp2_with fail
 go_at_call 31
 refine (at_fn (n := -1) _ T1.out (by decide)).mono ?_
 rintro en23 w23 ⟨v23, rfl, hr, hb⟩
 replace BEL := yk (BEL.out.next hb)
 replace MC := yk (MC.out.later hb)
 replace CZ := yk (CZ.out.later hb)
 replace CO := yk (CO.out.later hb)
 replace C33 := yk (C33.out.later hb)
 replace T1 := yk (T1.out.below hb)
 obtain ⟨n23, c23, rfl⟩ := hr.shape
 have C35 := yk hr
 clear hr hb
 clear T1
 go_wp2_with fail
 have HSL := yk (blk_new w23 (.cells #[.func (.func n2) #[] c2, .func (.func n21) #[] c21, .func (.func n23) #[] c23] 41))
 replace BEL := yk (BEL.out.next (below_alloc (Below.refl w23.heap.size w23) (.cells #[.func (.func n2) #[] c2, .func (.func n21) #[] c21, .func (.func n23) #[] c23] 41)))
 replace MC := yk (MC.out.later (below_alloc (Below.refl w23.heap.size w23) (.cells #[.func (.func n2) #[] c2, .func (.func n21) #[] c21, .func (.func n23) #[] c23] 41)))
 replace CZ := yk (CZ.out.later (below_alloc (Below.refl w23.heap.size w23) (.cells #[.func (.func n2) #[] c2, .func (.func n21) #[] c21, .func (.func n23) #[] c23] 41)))
 replace CO := yk (CO.out.later (below_alloc (Below.refl w23.heap.size w23) (.cells #[.func (.func n2) #[] c2, .func (.func n21) #[] c21, .func (.func n23) #[] c23] 41)))
 replace C33 := yk (C33.out.later (below_alloc (Below.refl w23.heap.size w23) (.cells #[.func (.func n2) #[] c2, .func (.func n21) #[] c21, .func (.func n23) #[] c23] 41)))
 replace C35 := yk (C35.out.later (below_alloc (Below.refl w23.heap.size w23) (.cells #[.func (.func n2) #[] c2, .func (.func n21) #[] c21, .func (.func n23) #[] c23] 41)))
 go_at_call 39
 refine (first_fn _ HSL.out CZ.out C33.out C35.out).mono ?_
 rintro en24 w24 ⟨v24, rfl, hr, hb⟩
 replace BEL := yk (BEL.out.next hb)
 replace MC := yk (MC.out.later hb)
 replace CZ := yk (CZ.out.later hb)
 replace CO := yk (CO.out.later hb)
 replace C33 := yk (C33.out.later hb)
 replace C35 := yk (C35.out.later hb)
 obtain ⟨n24, c24, rfl⟩ := hr.shape
 have C37 := yk hr
 clear hr hb
 clear HSL
 clear C33
 clear C35
 obtain ⟨wi22, hi22, hmc, hgi⟩ := ins_fact (k := 22) MC.out C37.out (by rfl)
 replace BEL := yk (BEL.out.grown hgi LM.out)
 replace CZ := yk (clo_map CZ.out MC.out hgi)
 replace CO := yk (clo_map CO.out MC.out hgi)
 replace C37 := yk (clo_map C37.out MC.out hgi)
 replace MC := yk hmc
 clear hmc hgi
 go_wp2_with fail
 clear hi22
 clear C37
 go_at_call 32
 refine (whole_any (0) _ (by decide) (by decide) (tab_below HT.out BEL.out.1)).mono ?_
 rintro en25 w25 ⟨v25, rfl, hr, hb⟩
 have hl := hr.lower (Nat.le_trans (Nat.le_add_right _ _) BEL.out.2)
 replace BEL := yk (BEL.out.next hb)
 replace MC := yk (MC.out.later hb)
 replace CZ := yk (CZ.out.later hb)
 replace CO := yk (CO.out.later hb)
 have T1 := yk hl
 clear hr hb hl
 go_wp2_with fail
 go_at_call 31
 refine (at_fn (n := 1) _ T1.out (by decide)).mono ?_
 rintro en26 w26 ⟨v26, rfl, hr, hb⟩
 replace BEL := yk (BEL.out.next hb)
 replace MC := yk (MC.out.later hb)
 replace CZ := yk (CZ.out.later hb)
 replace CO := yk (CO.out.later hb)
 replace T1 := yk (T1.out.below hb)
 obtain ⟨n26, c26, rfl⟩ := hr.shape
 have C39 := yk hr
 clear hr hb
 clear T1
 go_wp2_with fail
 go_at_call 40
 refine (part_any (1) 1 _ (by decide) (by decide) (by decide) (tab_below HT.out BEL.out.1)).mono ?_
 rintro en27 w27 ⟨v27, rfl, hr, hb⟩
 have hl := hr.lower (Nat.le_trans (Nat.le_add_right _ _) BEL.out.2)
 replace BEL := yk (BEL.out.next hb)
 replace MC := yk (MC.out.later hb)
 replace CZ := yk (CZ.out.later hb)
 replace CO := yk (CO.out.later hb)
 replace C39 := yk (C39.out.later hb)
 have T1 := yk hl
 clear hr hb hl
 go_wp2_with fail
 go_at_call 31
 refine (at_fn (n := 0) _ T1.out (by decide)).mono ?_
 rintro en28 w28 ⟨v28, rfl, hr, hb⟩
 replace BEL := yk (BEL.out.next hb)
 replace MC := yk (MC.out.later hb)
 replace CZ := yk (CZ.out.later hb)
 replace CO := yk (CO.out.later hb)
 replace C39 := yk (C39.out.later hb)
 replace T1 := yk (T1.out.below hb)
 obtain ⟨n28, c28, rfl⟩ := hr.shape
 have C41 := yk hr
 clear hr hb
 clear T1
 go_wp2_with fail
 go_at_call 32
 refine (whole_any (1) _ (by decide) (by decide) (tab_below HT.out BEL.out.1)).mono ?_
 rintro en29 w29 ⟨v29, rfl, hr, hb⟩
 have hl := hr.lower (Nat.le_trans (Nat.le_add_right _ _) BEL.out.2)
 replace BEL := yk (BEL.out.next hb)
 replace MC := yk (MC.out.later hb)
 replace CZ := yk (CZ.out.later hb)
 replace CO := yk (CO.out.later hb)
 replace C39 := yk (C39.out.later hb)
 replace C41 := yk (C41.out.later hb)
 have T1 := yk hl
 clear hr hb hl
 go_wp2_with fail
 go_at_call 31
 refine (at_fn (n := -1) _ T1.out (by decide)).mono ?_
 rintro en30 w30 ⟨v30, rfl, hr, hb⟩
 replace BEL := yk (BEL.out.next hb)
 replace MC := yk (MC.out.later hb)
 replace CZ := yk (CZ.out.later hb)
 replace CO := yk (CO.out.later hb)
 replace C39 := yk (C39.out.later hb)
 replace C41 := yk (C41.out.later hb)
 replace T1 := yk (T1.out.below hb)
 obtain ⟨n30, c30, rfl⟩ := hr.shape
 have C43 := yk hr
 clear hr hb
 clear T1
 go_wp2_with fail
 have HSL := yk (blk_new w30 (.cells #[.func (.func n26) #[] c26, .func (.func n28) #[] c28, .func (.func n30) #[] c30] 41))
 replace BEL := yk (BEL.out.next (below_alloc (Below.refl w30.heap.size w30) (.cells #[.func (.func n26) #[] c26, .func (.func n28) #[] c28, .func (.func n30) #[] c30] 41)))
 replace MC := yk (MC.out.later (below_alloc (Below.refl w30.heap.size w30) (.cells #[.func (.func n26) #[] c26, .func (.func n28) #[] c28, .func (.func n30) #[] c30] 41)))
 replace CZ := yk (CZ.out.later (below_alloc (Below.refl w30.heap.size w30) (.cells #[.func (.func n26) #[] c26, .func (.func n28) #[] c28, .func (.func n30) #[] c30] 41)))
 replace CO := yk (CO.out.later (below_alloc (Below.refl w30.heap.size w30) (.cells #[.func (.func n26) #[] c26, .func (.func n28) #[] c28, .func (.func n30) #[] c30] 41)))
 replace C39 := yk (C39.out.later (below_alloc (Below.refl w30.heap.size w30) (.cells #[.func (.func n26) #[] c26, .func (.func n28) #[] c28, .func (.func n30) #[] c30] 41)))
 replace C41 := yk (C41.out.later (below_alloc (Below.refl w30.heap.size w30) (.cells #[.func (.func n26) #[] c26, .func (.func n28) #[] c28, .func (.func n30) #[] c30] 41)))
 replace C43 := yk (C43.out.later (below_alloc (Below.refl w30.heap.size w30) (.cells #[.func (.func n26) #[] c26, .func (.func n28) #[] c28, .func (.func n30) #[] c30] 41)))
 go_at_call 39
 refine (first_fn _ HSL.out C39.out C41.out C43.out).mono ?_
 rintro en31 w31 ⟨v31, rfl, hr, hb⟩
 replace BEL := yk (BEL.out.next hb)
 replace MC := yk (MC.out.later hb)
 replace CZ := yk (CZ.out.later hb)
 replace CO := yk (CO.out.later hb)
 replace C39 := yk (C39.out.later hb)
 replace C41 := yk (C41.out.later hb)
 replace C43 := yk (C43.out.later hb)
 obtain ⟨n31, c31, rfl⟩ := hr.shape
 have C45 := yk hr
 clear hr hb
 clear HSL
 clear C39
 clear C41
 clear C43
 obtain ⟨wi23, hi23, hmc, hgi⟩ := ins_fact (k := 23) MC.out C45.out (by rfl)
 replace BEL := yk (BEL.out.grown hgi LM.out)
 replace CZ := yk (clo_map CZ.out MC.out hgi)
 replace CO := yk (clo_map CO.out MC.out hgi)
 replace C45 := yk (clo_map C45.out MC.out hgi)
 replace MC := yk hmc
 clear hmc hgi
 go_wp2_with fail
 clear hi23
 clear C45
 go_at_call 40
 refine (part_any (1) 2 _ (by decide) (by decide) (by decide) (tab_below HT.out BEL.out.1)).mono ?_
 rintro en32 w32 ⟨v32, rfl, hr, hb⟩
 have hl := hr.lower (Nat.le_trans (Nat.le_add_right _ _) BEL.out.2)
 replace BEL := yk (BEL.out.next hb)
 replace MC := yk (MC.out.later hb)
 replace CZ := yk (CZ.out.later hb)
 replace CO := yk (CO.out.later hb)
 have T1 := yk hl
 clear hr hb hl
 go_wp2_with fail
 go_at_call 31
 refine (at_fn (n := 1) _ T1.out (by decide)).mono ?_
 rintro en33 w33 ⟨v33, rfl, hr, hb⟩
 replace BEL := yk (BEL.out.next hb)
 replace MC := yk (MC.out.later hb)
 replace CZ := yk (CZ.out.later hb)
 replace CO := yk (CO.out.later hb)
 replace T1 := yk (T1.out.below hb)
 obtain ⟨n33, c33, rfl⟩ := hr.shape
 have C48 := yk hr
 clear hr hb
 clear T1
 go_wp2_with fail
 go_at_call 40
 refine (part_any (-1) 2 _ (by decide) (by decide) (by decide) (tab_below HT.out BEL.out.1)).mono ?_
 rintro en34 w34 ⟨v34, rfl, hr, hb⟩
 have hl := hr.lower (Nat.le_trans (Nat.le_add_right _ _) BEL.out.2)
 replace BEL := yk (BEL.out.next hb)
 replace MC := yk (MC.out.later hb)
 replace CZ := yk (CZ.out.later hb)
 replace CO := yk (CO.out.later hb)
 replace C48 := yk (C48.out.later hb)
 have T1 := yk hl
 clear hr hb hl
 go_wp2_with fail
 go_at_call 31
 refine (at_fn (n := -1) _ T1.out (by decide)).mono ?_
 rintro en35 w35 ⟨v35, rfl, hr, hb⟩
 replace BEL := yk (BEL.out.next hb)
 replace MC := yk (MC.out.later hb)
 replace CZ := yk (CZ.out.later hb)
 replace CO := yk (CO.out.later hb)
 replace C48 := yk (C48.out.later hb)
 replace T1 := yk (T1.out.below hb)
 obtain ⟨n35, c35, rfl⟩ := hr.shape
 have C50 := yk hr
 clear hr hb
 clear T1
 go_wp2_with fail
 have HSL := yk (blk_new w35 (.cells #[.func (.func n2) #[] c2, .func (.func n33) #[] c33, .func (.func n35) #[] c35] 41))
 replace BEL := yk (BEL.out.next (below_alloc (Below.refl w35.heap.size w35) (.cells #[.func (.func n2) #[] c2, .func (.func n33) #[] c33, .func (.func n35) #[] c35] 41)))
 replace MC := yk (MC.out.later (below_alloc (Below.refl w35.heap.size w35) (.cells #[.func (.func n2) #[] c2, .func (.func n33) #[] c33, .func (.func n35) #[] c35] 41)))
 replace CZ := yk (CZ.out.later (below_alloc (Below.refl w35.heap.size w35) (.cells #[.func (.func n2) #[] c2, .func (.func n33) #[] c33, .func (.func n35) #[] c35] 41)))
 replace CO := yk (CO.out.later (below_alloc (Below.refl w35.heap.size w35) (.cells #[.func (.func n2) #[] c2, .func (.func n33) #[] c33, .func (.func n35) #[] c35] 41)))
 replace C48 := yk (C48.out.later (below_alloc (Below.refl w35.heap.size w35) (.cells #[.func (.func n2) #[] c2, .func (.func n33) #[] c33, .func (.func n35) #[] c35] 41)))
 replace C50 := yk (C50.out.later (below_alloc (Below.refl w35.heap.size w35) (.cells #[.func (.func n2) #[] c2, .func (.func n33) #[] c33, .func (.func n35) #[] c35] 41)))
 go_at_call 39
 refine (first_fn _ HSL.out CZ.out C48.out C50.out).mono ?_
 rintro en36 w36 ⟨v36, rfl, hr, hb⟩
 replace BEL := yk (BEL.out.next hb)
 replace MC := yk (MC.out.later hb)
 replace CZ := yk (CZ.out.later hb)
 replace CO := yk (CO.out.later hb)
 replace C48 := yk (C48.out.later hb)
 replace C50 := yk (C50.out.later hb)
 obtain ⟨n36, c36, rfl⟩ := hr.shape
 have C52 := yk hr
 clear hr hb
 clear HSL
 clear C48
 clear C50
 obtain ⟨wi24, hi24, hmc, hgi⟩ := ins_fact (k := 24) MC.out C52.out (by rfl)
 replace BEL := yk (BEL.out.grown hgi LM.out)
 replace CZ := yk (clo_map CZ.out MC.out hgi)
 replace CO := yk (clo_map CO.out MC.out hgi)
 replace C52 := yk (clo_map C52.out MC.out hgi)
 replace MC := yk hmc
 clear hmc hgi
 obtain ⟨wi25, hi25, hmc, hgi⟩ := ins_fact (k := 25) MC.out CZ.out (by rfl)
 replace BEL := yk (BEL.out.grown hgi LM.out)
 replace CZ := yk (clo_map CZ.out MC.out hgi)
 replace CO := yk (clo_map CO.out MC.out hgi)
 replace C52 := yk (clo_map C52.out MC.out hgi)
 replace MC := yk hmc
 clear hmc hgi
 obtain ⟨wi26, hi26, hmc, hgi⟩ := ins_fact (k := 26) MC.out CO.out (by rfl)
 replace BEL := yk (BEL.out.grown hgi LM.out)
 replace CZ := yk (clo_map CZ.out MC.out hgi)
 replace CO := yk (clo_map CO.out MC.out hgi)
 replace C52 := yk (clo_map C52.out MC.out hgi)
 replace MC := yk hmc
 clear hmc hgi
 obtain ⟨wi27, hi27, hmc, hgi⟩ := ins_fact (k := 27) MC.out CZ.out (by rfl)
 replace BEL := yk (BEL.out.grown hgi LM.out)
 replace CZ := yk (clo_map CZ.out MC.out hgi)
 replace CO := yk (clo_map CO.out MC.out hgi)
 replace C52 := yk (clo_map C52.out MC.out hgi)
 replace MC := yk hmc
 clear hmc hgi
 obtain ⟨wi28, hi28, hmc, hgi⟩ := ins_fact (k := 28) MC.out CZ.out (by rfl)
 replace BEL := yk (BEL.out.grown hgi LM.out)
 replace CZ := yk (clo_map CZ.out MC.out hgi)
 replace CO := yk (clo_map CO.out MC.out hgi)
 replace C52 := yk (clo_map C52.out MC.out hgi)
 replace MC := yk hmc
 clear hmc hgi
 go_wp2_with fail
 clear hi24 hi25 hi26 hi27 hi28
 clear C52
 go_at_call 32
 refine (whole_any (0) _ (by decide) (by decide) (tab_below HT.out BEL.out.1)).mono ?_
 rintro en37 w37 ⟨v37, rfl, hr, hb⟩
 have hl := hr.lower (Nat.le_trans (Nat.le_add_right _ _) BEL.out.2)
 replace BEL := yk (BEL.out.next hb)
 replace MC := yk (MC.out.later hb)
 replace CZ := yk (CZ.out.later hb)
 replace CO := yk (CO.out.later hb)
 have T1 := yk hl
 clear hr hb hl
 go_wp2_with fail
 go_at_call 31
 refine (at_fn (n := 1) _ T1.out (by decide)).mono ?_
 rintro en38 w38 ⟨v38, rfl, hr, hb⟩
 replace BEL := yk (BEL.out.next hb)
 replace MC := yk (MC.out.later hb)
 replace CZ := yk (CZ.out.later hb)
 replace CO := yk (CO.out.later hb)
 replace T1 := yk (T1.out.below hb)
 obtain ⟨n38, c38, rfl⟩ := hr.shape
 have C58 := yk hr
 clear hr hb
 clear T1
 obtain ⟨wi29, hi29, hmc, hgi⟩ := ins_fact (k := 29) MC.out C58.out (by rfl)
 replace BEL := yk (BEL.out.grown hgi LM.out)
 replace CZ := yk (clo_map CZ.out MC.out hgi)
 replace CO := yk (clo_map CO.out MC.out hgi)
 replace C58 := yk (clo_map C58.out MC.out hgi)
 replace MC := yk hmc
 clear hmc hgi
 obtain ⟨wi30, hi30, hmc, hgi⟩ := ins_fact (k := 30) MC.out CZ.out (by rfl)
 replace BEL := yk (BEL.out.grown hgi LM.out)
 replace CZ := yk (clo_map CZ.out MC.out hgi)
 replace CO := yk (clo_map CO.out MC.out hgi)
 replace C58 := yk (clo_map C58.out MC.out hgi)
 replace MC := yk hmc
 clear hmc hgi
 go_wp2_with fail
 clear hi29 hi30
 clear C58
 go_ret
 exact ⟨_, rfl, MC.out, BEL.out.1⟩
/-- Whether a function has a real value at a number, in units of 2^-1074. -/
def insideF (f : Nat) (z : Int) : Bool :=
 if f = 7 ∨ f = 8 ∨ f = 9 then decide (0 < z)
 else if f = 10 ∨ f = 11 ∨ f = 12 then decide (-1 * 2 ^ 1074 < z)
 else if f = 18 then (!decide (z - nearF z 1072 * 2 ^ 1073 = 0) || (Int.tmod (nearF z 1072 % 4) 2 == 0))
 else if f = 19 ∨ f = 20 ∨ f = 22 ∨ f = 23 then decide ((z.natAbs : Int) ≤ 1 * 2 ^ 1074)
 else if f = 29 then decide (1 * 2 ^ 1074 ≤ z)
 else if f = 30 then decide ((z.natAbs : Int) < 1 * 2 ^ 1074)
 else true
theorem cmpZ_dle (y z : Int) : decide (cmpZ y z ≤ 0) = decide (y ≤ z) := by
 unfold cmpZ
 by_cases h : y ≤ z
 · rw [decide_eq_true h]; repeat' split
   all_goals first | rfl | omega
 · rw [decide_eq_false h]; repeat' split
   all_goals first | rfl | omega
theorem cmpZ_dge (y z : Int) : decide (0 ≤ cmpZ y z) = decide (z ≤ y) := by
 unfold cmpZ
 by_cases h : z ≤ y
 · rw [decide_eq_true h]; repeat' split
   all_goals first | rfl | omega
 · rw [decide_eq_false h]; repeat' split
   all_goals first | rfl | omega

theorem inside_a {f : Nat} (hf : f = 7 ∨ f = 8 ∨ f = 9) {v : Value} {z : Int} {w : World} (h : CDy w v z (-1074)) (hz : z.natAbs < 2 ^ 2098) (hT : TabAt 0 Lib.deBruijn64tab w) :
 Calls Tryz.prog 23 #[.int .u8 f, v] w fun en w' => en = .returned (.bool (decide (0 < z))) ∧ Below w.heap.size w w' := by
 obtain ⟨b0, A, n0, c, x0, rfl⟩ := h.ex
 have HT := yk hT
 have HCD := yk h
 have OZ := yk (ok_z hz)
 have HS := yk (sgn_pos z)
 obtain ⟨q, hq⟩ : ∃ q, decide (0 < z) = q := ⟨_, rfl⟩
 rw [hq] at HS ⊢
 clear h hz hT hq
 rcases hf with rfl | rfl | rfl
 all_goals (
  go_enter Tryz.func23, Tryz.ntmps23
  obtain ⟨BEL, X0⟩ := al1 w 1 #[.bool b0, .slice A n0 c, .int .i64 x0] 27
  obtain ⟨q0, q0', q1, q1', q2, q2'⟩ := bc3 X0.out
  go_wp2_with fail
  clear q0 q0' q1 q1' q2 q2'
  go_at_call 50
  refine (sign_ok (HCD.out.below BEL.out.1) OZ.out).mono ?_
  rintro en1 w1 ⟨rfl, hb⟩
  replace BEL := yk (BEL.out.next hb)
  replace X0 := yk (yb X0.out hb)
  clear hb
  have hs := HS.out
  go_wp2_with fail
  go_ret
  exact ⟨rfl, BEL.out.1⟩)

theorem inside_b {f : Nat} (hf : f = 10 ∨ f = 11 ∨ f = 12) {v : Value} {z : Int} {w : World} (h : CDy w v z (-1074)) (hz : z.natAbs < 2 ^ 2098) (hT : TabAt 0 Lib.deBruijn64tab w) :
 Calls Tryz.prog 23 #[.int .u8 f, v] w fun en w' => en = .returned (.bool (decide (-1 * 2 ^ 1074 < z))) ∧ Below w.heap.size w w' := by
 obtain ⟨b0, A, n0, c, x0, rfl⟩ := h.ex
 have HT := yk hT
 have HCD := yk h
 have OZ := yk (ok_z hz)
 have OM := yk (Ok.of (e := -1074) _ (sm_mul (a := -1) (n := 2) (k := 1074) (by decide)) (by decide) (by decide) (by decide))
 obtain ⟨M, hM⟩ : ∃ M : Int, M = -1 * 2 ^ 1074 := ⟨_, rfl⟩
 have HP := yk (fun (v : Value) (b : Nat) (W : World) (h : PDy W b v (-1) 0) => (by
  have q := PDy.scale (e := -1074) 1074 h
  rw [← hM] at q; exact q : PDy W b v M (-1074)))
 rw [← hM] at OM ⊢
 obtain ⟨q, hq⟩ : ∃ q, decide (M < z) = q := ⟨_, rfl⟩
 have HC : Aside0 (decide (0 < cmpZ z M) = q) := ⟨by rw [← hq]; exact cmpZ_dgt z M⟩
 rw [hq]
 clear h hz hT hM hq
 rcases hf with rfl | rfl | rfl
 all_goals (
  go_enter Tryz.func23, Tryz.ntmps23
  obtain ⟨BEL, X0⟩ := al1 w 1 #[.bool b0, .slice A n0 c, .int .i64 x0] 27
  go_upto_region 9 with fail
  obtain ⟨GM, hGM⟩ : ∃ G : (Nat → Prop) → (Nat → Value) → World → Prop, G = fun L v W => BelN w 1 W ∧ W.heap[w.heap.size]? = some (.cells #[.bool b0, .slice A n0 c, .int .i64 x0] 27 (0, 0)) ∧ (L 0 → (v 0) = .agg #[.bool b0, .slice A n0 c, .int .i64 x0]) ∧ (L 1 → PDy W w.heap.size (v 1) M (-1074)) ∧ (L 2 → (v 2) = .int .i64 (cmpZ z M)) ∧ (L 3 → (v 3) = .bool q) ∧ (L 4 → (v 4) = .bool q) := ⟨_, rfl⟩
  refine wp_region_slotsV [18, 19, 20, 21, 4] (by kernel_rfl) (by kernel_rfl) (G := GM) ?h0M ?hstepM ?hendM
  case h0M =>
   intro v; rw [hGM]
   exact ⟨BEL.out.next (below_drew yr), blk_drew X0.out, fun h => h.elim, fun h => h.elim, fun h => h.elim, fun h => h.elim, fun h => h.elim⟩
  case hstepM =>
   intro k o ho v W L hGv hnk haft hcl K hK
   rw [hGM] at hGv
   obtain ⟨hB, hb0, f0, f1, f2, f3, f4⟩ := hGv
   rcases k with _ | _ | _ | _ | _ | k
   all_goals first
    | (cases ho; done)
    | (obtain rfl := (Option.some.inj ho).symm
       clear ho
       rw [if_pos (by rfl)]
       simp only [setAll, List.setIfInBounds_toArray, List.set_cons_zero, List.set_cons_succ, List.set_nil, List.getElem_toArray, List.getElem_cons_zero, List.getElem_cons_succ, Nat.reduceAdd] at haft hK ⊢)
   ·
    have cc0 := (box_cell (v := .bool b0) hb0 0 rfl).1
    have cc1 := (box_cell (v := .slice A n0 c) hb0 1 rfl).1
    have cc2 := (box_cell (v := .int .i64 x0) hb0 2 rfl).1
    have hb := yw W
    have key := hK.out (.agg #[.bool b0, .slice A n0 c, .int .i64 x0]) W (by rw [hGM]; exact ⟨hB.next hb, yb hb0 hb, yu, (kD f1 hb), (kV f2), (kV f3), (kV f4)⟩)
    clear hb0 f0 f1 f2 f3 f4 hb hK
    go_simp
    simpa [upd] using key
   ·
    have HALL := yk (ya hK (ya hB (ya hb0 ( ya f0 ( ya f1 ( ya f2 ( ya f3 ( ya f4 (True.intro)))))))))
    clear hK hb0 f0 f1 f2 f3 f4
    go_simp
    go_at_call 52
    refine (pint_dy (-1) _ (by decide) (by decide) (tab_below HT.out hB.1)).mono ?_
    rintro en w4 ⟨v1, rfl, hr, hb⟩
    obtain ⟨hK, hB, hb0, f0, f1, f2, f3, f4, _⟩ := HALL.out
    have key := hK.out (v1) w4 (by rw [hGM]; exact ⟨hB.next hb, yb hb0 hb, (kV f0), fun _ => by rw [upd_eq]; exact (HP.out _ _ _ hr).lower (lw hB.2), (kV f2), (kV f3), (kV f4)⟩)
    clear hb0 f0 f1 f2 f3 f4 hK HALL
    simpa [upd] using key
   ·
    have d0 := f0 (haft ⟨0, .data⟩ (by simp) rfl)
    have D0 := d0
    have d1 := f1 (haft ⟨1, .data⟩ (by simp) rfl)
    have D1 := d1
    have HALL := yk (ya hK (ya hB (ya hb0 ( ya f0 ( ya f1 ( ya f2 ( ya f3 ( ya f4 (True.intro)))))))))
    clear hK hb0 f0 f1 f2 f3 f4
    go_simp
    go_at_call 51
    refine (cmp_ok (HCD.out.below hB.1) d1.c OZ.out OM.out (tab_below HT.out hB.1)).mono ?_
    rintro en w4 ⟨rfl, hb⟩
    obtain ⟨hK, hB, hb0, f0, f1, f2, f3, f4, _⟩ := HALL.out
    have key := hK.out (.int .i64 (cmpZ z M)) w4 (by rw [hGM]; exact ⟨hB.next hb, yb hb0 hb, (kV f0), (kD f1 hb), yu, (kV f3), (kV f4)⟩)
    clear hb0 f0 f1 f2 f3 f4 hK HALL
    simpa [upd, D0] using key
   ·
    have d2 := f2 (haft ⟨2, .data⟩ (by simp) rfl)
    have D2 := d2
    have hcq := HC.out
    have hb := yw W
    have key := hK.out (.bool q) W (by rw [hGM]; exact ⟨hB.next hb, yb hb0 hb, (kV f0), (kD f1 hb), (kV f2), yu, (kV f4)⟩)
    clear hb0 f0 f1 f2 f3 f4 hb hK
    go_simp
    simpa [upd, D2] using key
   ·
    have d3 := f3 (haft ⟨3, .data⟩ (by simp) rfl)
    have D3 := d3
    have hb := yw W
    have key := hK.out (.bool q) W (by rw [hGM]; exact ⟨hB.next hb, yb hb0 hb, (kV f0), (kD f1 hb), (kV f2), (kV f3), yu⟩)
    clear hb0 f0 f1 f2 f3 f4 hb hK
    go_simp
    simpa [upd, D3] using key
  case hendM =>
   intro v W L0 hall hGv
   rw [hGM] at hGv
   obtain ⟨hB, hb0, f0, f1, f2, f3, f4⟩ := hGv
   have d4 := f4 (hall 4 (by decide))
   replace BEL := yk hB
   clear hall hB hb0 f0 f1 f2 f3 f4
   simp only [setAll, List.setIfInBounds_toArray, List.set_cons_zero, List.set_cons_succ, Nat.reduceAdd, d4]
   clear d4
   go_wp2
   go_ret
   exact ⟨rfl, BEL.out.1⟩)

theorem inside_e {f : Nat} (hf : f = 29) {v : Value} {z : Int} {w : World} (h : CDy w v z (-1074)) (hz : z.natAbs < 2 ^ 2098) (hT : TabAt 0 Lib.deBruijn64tab w) :
 Calls Tryz.prog 23 #[.int .u8 f, v] w fun en w' => en = .returned (.bool (decide (1 * 2 ^ 1074 ≤ z))) ∧ Below w.heap.size w w' := by
 obtain ⟨b0, A, n0, c, x0, rfl⟩ := h.ex
 have HT := yk hT
 have HCD := yk h
 have OZ := yk (ok_z hz)
 have OM := yk (Ok.of (e := -1074) _ (sm_mul (a := 1) (n := 2) (k := 1074) (by decide)) (by decide) (by decide) (by decide))
 obtain ⟨M, hM⟩ : ∃ M : Int, M = 1 * 2 ^ 1074 := ⟨_, rfl⟩
 have HP := yk (fun (v : Value) (b : Nat) (W : World) (h : PDy W b v (1) 0) => (by
  have q := PDy.scale (e := -1074) 1074 h
  rw [← hM] at q; exact q : PDy W b v M (-1074)))
 rw [← hM] at OM ⊢
 obtain ⟨q, hq⟩ : ∃ q, decide (M ≤ z) = q := ⟨_, rfl⟩
 have HC : Aside0 (decide (0 ≤ cmpZ z M) = q) := ⟨by rw [← hq]; exact cmpZ_dge z M⟩
 rw [hq]
 clear h hz hT hM hq
 rcases hf with rfl
 all_goals (
  go_enter Tryz.func23, Tryz.ntmps23
  obtain ⟨BEL, X0⟩ := al1 w 1 #[.bool b0, .slice A n0 c, .int .i64 x0] 27
  go_upto_region 19 with fail
  obtain ⟨GM, hGM⟩ : ∃ G : (Nat → Prop) → (Nat → Value) → World → Prop, G = fun L v W => BelN w 1 W ∧ W.heap[w.heap.size]? = some (.cells #[.bool b0, .slice A n0 c, .int .i64 x0] 27 (0, 0)) ∧ (L 0 → (v 0) = .agg #[.bool b0, .slice A n0 c, .int .i64 x0]) ∧ (L 1 → PDy W w.heap.size (v 1) M (-1074)) ∧ (L 2 → (v 2) = .int .i64 (cmpZ z M)) ∧ (L 3 → (v 3) = .bool q) ∧ (L 4 → (v 4) = .bool q) := ⟨_, rfl⟩
  refine wp_region_slotsV [48, 49, 50, 51, 4] (by kernel_rfl) (by kernel_rfl) (G := GM) ?h0M ?hstepM ?hendM
  case h0M =>
   intro v; rw [hGM]
   exact ⟨BEL.out.next (below_drew yr), blk_drew X0.out, fun h => h.elim, fun h => h.elim, fun h => h.elim, fun h => h.elim, fun h => h.elim⟩
  case hstepM =>
   intro k o ho v W L hGv hnk haft hcl K hK
   rw [hGM] at hGv
   obtain ⟨hB, hb0, f0, f1, f2, f3, f4⟩ := hGv
   rcases k with _ | _ | _ | _ | _ | k
   all_goals first
    | (cases ho; done)
    | (obtain rfl := (Option.some.inj ho).symm
       clear ho
       rw [if_pos (by rfl)]
       simp only [setAll, List.setIfInBounds_toArray, List.set_cons_zero, List.set_cons_succ, List.set_nil, List.getElem_toArray, List.getElem_cons_zero, List.getElem_cons_succ, Nat.reduceAdd] at haft hK ⊢)
   ·
    have cc0 := (box_cell (v := .bool b0) hb0 0 rfl).1
    have cc1 := (box_cell (v := .slice A n0 c) hb0 1 rfl).1
    have cc2 := (box_cell (v := .int .i64 x0) hb0 2 rfl).1
    have hb := yw W
    have key := hK.out (.agg #[.bool b0, .slice A n0 c, .int .i64 x0]) W (by rw [hGM]; exact ⟨hB.next hb, yb hb0 hb, yu, (kD f1 hb), (kV f2), (kV f3), (kV f4)⟩)
    clear hb0 f0 f1 f2 f3 f4 hb hK
    go_simp
    simpa [upd] using key
   ·
    have HALL := yk (ya hK (ya hB (ya hb0 ( ya f0 ( ya f1 ( ya f2 ( ya f3 ( ya f4 (True.intro)))))))))
    clear hK hb0 f0 f1 f2 f3 f4
    go_simp
    go_at_call 52
    refine (pint_dy (1) _ (by decide) (by decide) (tab_below HT.out hB.1)).mono ?_
    rintro en w4 ⟨v1, rfl, hr, hb⟩
    obtain ⟨hK, hB, hb0, f0, f1, f2, f3, f4, _⟩ := HALL.out
    have key := hK.out (v1) w4 (by rw [hGM]; exact ⟨hB.next hb, yb hb0 hb, (kV f0), fun _ => by rw [upd_eq]; exact (HP.out _ _ _ hr).lower (lw hB.2), (kV f2), (kV f3), (kV f4)⟩)
    clear hb0 f0 f1 f2 f3 f4 hK HALL
    simpa [upd] using key
   ·
    have d0 := f0 (haft ⟨0, .data⟩ (by simp) rfl)
    have D0 := d0
    have d1 := f1 (haft ⟨1, .data⟩ (by simp) rfl)
    have D1 := d1
    have HALL := yk (ya hK (ya hB (ya hb0 ( ya f0 ( ya f1 ( ya f2 ( ya f3 ( ya f4 (True.intro)))))))))
    clear hK hb0 f0 f1 f2 f3 f4
    go_simp
    go_at_call 51
    refine (cmp_ok (HCD.out.below hB.1) d1.c OZ.out OM.out (tab_below HT.out hB.1)).mono ?_
    rintro en w4 ⟨rfl, hb⟩
    obtain ⟨hK, hB, hb0, f0, f1, f2, f3, f4, _⟩ := HALL.out
    have key := hK.out (.int .i64 (cmpZ z M)) w4 (by rw [hGM]; exact ⟨hB.next hb, yb hb0 hb, (kV f0), (kD f1 hb), yu, (kV f3), (kV f4)⟩)
    clear hb0 f0 f1 f2 f3 f4 hK HALL
    simpa [upd, D0] using key
   ·
    have d2 := f2 (haft ⟨2, .data⟩ (by simp) rfl)
    have D2 := d2
    have hcq := HC.out
    have hb := yw W
    have key := hK.out (.bool q) W (by rw [hGM]; exact ⟨hB.next hb, yb hb0 hb, (kV f0), (kD f1 hb), (kV f2), yu, (kV f4)⟩)
    clear hb0 f0 f1 f2 f3 f4 hb hK
    go_simp
    simpa [upd, D2] using key
   ·
    have d3 := f3 (haft ⟨3, .data⟩ (by simp) rfl)
    have D3 := d3
    have hb := yw W
    have key := hK.out (.bool q) W (by rw [hGM]; exact ⟨hB.next hb, yb hb0 hb, (kV f0), (kD f1 hb), (kV f2), (kV f3), yu⟩)
    clear hb0 f0 f1 f2 f3 f4 hb hK
    go_simp
    simpa [upd, D3] using key
  case hendM =>
   intro v W L0 hall hGv
   rw [hGM] at hGv
   obtain ⟨hB, hb0, f0, f1, f2, f3, f4⟩ := hGv
   have d4 := f4 (hall 4 (by decide))
   replace BEL := yk hB
   clear hall hB hb0 f0 f1 f2 f3 f4
   simp only [setAll, List.setIfInBounds_toArray, List.set_cons_zero, List.set_cons_succ, Nat.reduceAdd, d4]
   clear d4
   go_wp2
   go_ret
   exact ⟨rfl, BEL.out.1⟩)

theorem inside_d {f : Nat} (hf : f = 19 ∨ f = 20 ∨ f = 22 ∨ f = 23) {v : Value} {z : Int} {w : World} (h : CDy w v z (-1074)) (hz : z.natAbs < 2 ^ 2098) (hT : TabAt 0 Lib.deBruijn64tab w) :
 Calls Tryz.prog 23 #[.int .u8 f, v] w fun en w' => en = .returned (.bool (decide ((z.natAbs : Int) ≤ 1 * 2 ^ 1074))) ∧ Below w.heap.size w w' := by
 obtain ⟨b0, A, n0, c, x0, rfl⟩ := h.ex
 have HT := yk hT
 have HCD := yk h
 have OZ := yk (ok_z hz)
 have OM := yk (Ok.of (e := -1074) _ (sm_mul (a := 1) (n := 2) (k := 1074) (by decide)) (by decide) (by decide) (by decide))
 obtain ⟨M, hM⟩ : ∃ M : Int, M = 1 * 2 ^ 1074 := ⟨_, rfl⟩
 have HP := yk (fun (v : Value) (b : Nat) (W : World) (h : PDy W b v (1) 0) => (by
  have q := PDy.scale (e := -1074) 1074 h
  rw [← hM] at q; exact q : PDy W b v M (-1074)))
 rw [← hM] at OM ⊢
 have OA := yk (ok_z (z := (z.natAbs : Int)) (by rw [Int.natAbs_natCast]; exact hz))
 obtain ⟨q, hq⟩ : ∃ q, decide ((z.natAbs : Int) ≤ M) = q := ⟨_, rfl⟩
 have HC : Aside0 (decide (cmpZ (z.natAbs : Int) M ≤ 0) = q) := ⟨by rw [← hq]; exact cmpZ_dle (z.natAbs : Int) M⟩
 rw [hq]
 clear h hz hT hM hq
 rcases hf with rfl | rfl | rfl | rfl
 all_goals (
  go_enter Tryz.func23, Tryz.ntmps23
  obtain ⟨BEL, X0⟩ := al1 w 1 #[.bool b0, .slice A n0 c, .int .i64 x0] 27
  obtain ⟨q0, q0', q1, q1', q2, q2'⟩ := bc3 X0.out
  go_wp2_with fail
  clear q0 q0' q1 q1' q2 q2'
  go_at_call 54
  refine (abs_ok (HCD.out.below BEL.out.1) OZ.out (tab_below HT.out BEL.out.1)).mono ?_
  rintro en1 w1 ⟨v1, rfl, hr, hb⟩
  replace BEL := yk (BEL.out.next hb)
  replace X0 := yk (yb X0.out hb)
  have P1 := yk hr
  obtain ⟨b1, A1, n1, c1, x1, rfl⟩ := hr.ex
  clear hr hb
  go_wp2_with fail
  go_at_call 52
  refine (pint_dy 1 _ (by decide) (by decide) (tab_below HT.out BEL.out.1)).mono ?_
  rintro en2 w2 ⟨v2, rfl, hr, hb⟩
  replace BEL := yk (BEL.out.next hb)
  replace X0 := yk (yb X0.out hb)
  replace P1 := yk (P1.out.below hb)
  have P2 := yk hr
  obtain ⟨b2, A2, n2, c2, x2, rfl⟩ := hr.ex
  clear hr hb
  go_wp2_with fail
  go_at_call 51
  refine (cmp_ok P1.out.c (HP.out _ _ _ P2.out).c OA.out OM.out (tab_below HT.out BEL.out.1)).mono ?_
  rintro en3 w3 ⟨rfl, hb⟩
  replace BEL := yk (BEL.out.next hb)
  replace X0 := yk (yb X0.out hb)
  replace P1 := yk (P1.out.below hb)
  replace P2 := yk (P2.out.below hb)
  clear hb
  have hcq := HC.out
  go_wp2_with fail
  go_ret
  exact ⟨rfl, BEL.out.1⟩)

theorem inside_f {f : Nat} (hf : f = 30) {v : Value} {z : Int} {w : World} (h : CDy w v z (-1074)) (hz : z.natAbs < 2 ^ 2098) (hT : TabAt 0 Lib.deBruijn64tab w) :
 Calls Tryz.prog 23 #[.int .u8 f, v] w fun en w' => en = .returned (.bool (decide ((z.natAbs : Int) < 1 * 2 ^ 1074))) ∧ Below w.heap.size w w' := by
 obtain ⟨b0, A, n0, c, x0, rfl⟩ := h.ex
 have HT := yk hT
 have HCD := yk h
 have OZ := yk (ok_z hz)
 have OM := yk (Ok.of (e := -1074) _ (sm_mul (a := 1) (n := 2) (k := 1074) (by decide)) (by decide) (by decide) (by decide))
 obtain ⟨M, hM⟩ : ∃ M : Int, M = 1 * 2 ^ 1074 := ⟨_, rfl⟩
 have HP := yk (fun (v : Value) (b : Nat) (W : World) (h : PDy W b v (1) 0) => (by
  have q := PDy.scale (e := -1074) 1074 h
  rw [← hM] at q; exact q : PDy W b v M (-1074)))
 rw [← hM] at OM ⊢
 have OA := yk (ok_z (z := (z.natAbs : Int)) (by rw [Int.natAbs_natCast]; exact hz))
 obtain ⟨q, hq⟩ : ∃ q, decide ((z.natAbs : Int) < M) = q := ⟨_, rfl⟩
 have HC : Aside0 (decide (cmpZ (z.natAbs : Int) M < 0) = q) := ⟨by rw [← hq]; exact cmpZ_dlt (z.natAbs : Int) M⟩
 rw [hq]
 clear h hz hT hM hq
 rcases hf with rfl
 all_goals (
  go_enter Tryz.func23, Tryz.ntmps23
  obtain ⟨BEL, X0⟩ := al1 w 1 #[.bool b0, .slice A n0 c, .int .i64 x0] 27
  obtain ⟨q0, q0', q1, q1', q2, q2'⟩ := bc3 X0.out
  go_wp2_with fail
  clear q0 q0' q1 q1' q2 q2'
  go_at_call 54
  refine (abs_ok (HCD.out.below BEL.out.1) OZ.out (tab_below HT.out BEL.out.1)).mono ?_
  rintro en1 w1 ⟨v1, rfl, hr, hb⟩
  replace BEL := yk (BEL.out.next hb)
  replace X0 := yk (yb X0.out hb)
  have P1 := yk hr
  obtain ⟨b1, A1, n1, c1, x1, rfl⟩ := hr.ex
  clear hr hb
  go_wp2_with fail
  go_at_call 52
  refine (pint_dy 1 _ (by decide) (by decide) (tab_below HT.out BEL.out.1)).mono ?_
  rintro en2 w2 ⟨v2, rfl, hr, hb⟩
  replace BEL := yk (BEL.out.next hb)
  replace X0 := yk (yb X0.out hb)
  replace P1 := yk (P1.out.below hb)
  have P2 := yk hr
  obtain ⟨b2, A2, n2, c2, x2, rfl⟩ := hr.ex
  clear hr hb
  go_wp2_with fail
  go_at_call 51
  refine (cmp_ok P1.out.c (HP.out _ _ _ P2.out).c OA.out OM.out (tab_below HT.out BEL.out.1)).mono ?_
  rintro en3 w3 ⟨rfl, hb⟩
  replace BEL := yk (BEL.out.next hb)
  replace X0 := yk (yb X0.out hb)
  replace P1 := yk (P1.out.below hb)
  replace P2 := yk (P2.out.below hb)
  clear hb
  have hcq := HC.out
  go_wp2_with fail
  go_ret
  exact ⟨rfl, BEL.out.1⟩)

theorem inside_c {f : Nat} (hf : f = 18) {v : Value} {z : Int} {w : World} (h : CDy w v z (-1074)) (hz : z.natAbs < 2 ^ 2098) (hT : TabAt 0 Lib.deBruijn64tab w) :
 Calls Tryz.prog 23 #[.int .u8 f, v] w fun en w' => en = .returned (.bool (!decide (z - nearF z 1072 * 2 ^ 1073 = 0) || (Int.tmod (nearF z 1072 % 4) 2 == 0))) ∧ Below w.heap.size w w' := by
 obtain ⟨b0, A, n0, c, x0, rfl⟩ := h.ex
 have HT := yk hT
 have HCD := yk h
 have OZ := yk (ok_z hz)
 have QO := yk (fun (W : World) (hb : Below w.heap.size w W) => spotOf_any (h.below hb) hz (tab_below hT hb))
 have OR := yk (ok_r (left_small hz))
 have hk := mod4 (nearF z 1072)
 subst hf
 clear h hz hT
 generalize nearF z 1072 % 4 = k at *
 generalize z - nearF z 1072 * 2 ^ 1073 = r at *
 have hkw : wrap64 (k.tmod 2) = k.tmod 2 := by unfold wrap64; rcases hk with rfl | rfl | rfl | rfl <;> decide
 have HKW := yk hkw
 obtain ⟨kev, hkev⟩ : ∃ q, (k.tmod 2 == 0) = q := ⟨_, rfl⟩
 have HKE := yk hkev
 rw [hkev]
 clear hk hkw hkev
 go_enter Tryz.func23, Tryz.ntmps23
 obtain ⟨BEL, X0⟩ := al1 w 1 #[.bool b0, .slice A n0 c, .int .i64 x0] 27
 obtain ⟨q0, q0', q1, q1', q2, q2'⟩ := bc3 X0.out
 go_wp2_with fail
 clear q0 q0' q1 q1' q2 q2'
 go_at_call 53
 refine (QO.out _ BEL.out.1).mono ?_
 rintro en1 w1 ⟨v1, rfl, hr, hb⟩
 replace BEL := yk (BEL.out.next hb)
 replace X0 := yk (yb X0.out hb)
 have P1 := yk hr
 obtain ⟨b1, A1, n1, c1, x1, rfl⟩ := hr.ex5
 clear hr hb
 have BELo := BEL
 go_wp2_with (replace BEL := yk ((BEL.out.alloc (.cells #[.int .i64 0, .bool false, .slice none 0 0, .int .i64 0] 65)).less (j := 1) (by omega)); have HN := yk (blk_new w1 (.cells #[.int .i64 0, .bool false, .slice none 0 0, .int .i64 0] 65)); have L_X0 := lt_blk X0.out; replace X0 := yk (blk_alloc X0.out (.cells #[.int .i64 0, .bool false, .slice none 0 0, .int .i64 0] 65)); replace P1 := yk (P1.out.below (below_alloc yr (.cells #[.int .i64 0, .bool false, .slice none 0 0, .int .i64 0] 65))); ((with_reducible refine gate_store (p := 5) rfl ?_); go_must (refine store_box 65 5 (.tmp 25) rfl rfl rfl (g := w1.heap.size) (e := 65) (.agg #[.int .i64 k, .bool b1, .slice A1 n1 c1, .int .i64 x1]) ([.int .i64 k, .bool b1, .slice A1 n1 c1, .int .i64 x1]) rfl rfl rfl info_spot ?b1 HN.out rfl ?_; (case b1 => intro q hq; simp at hq; rcases hq with rfl | rfl | rfl | rfl <;> rfl); intro wb hbx hgx; have HX := yk hbx; have HG := yk hgx; clear hbx hgx)); replace P1 := yk (P1.out.grown_box HN.out (by decide) HG.out); have LB_XS := BELo.out.2; replace BEL := yk (BEL.out.grown HG.out (Nat.le_trans (Nat.le_add_right _ _) LB_XS)); replace X0 := yk (blk_grown X0.out HG.out (Nat.ne_of_lt L_X0)); have NE_X0_XS := yk (Nat.ne_of_lt L_X0); clear L_X0; have LL_XS := yk LB_XS; clear LB_XS; have XS := HX; clear HG HN HX; obtain ⟨q3, q3', q4, q4', q5, q5', q6, q6'⟩ := bc4 XS.out)
 clear q3 q3' q4 q4' q5 q5' q6 q6'
 go_at_call 27
 refine (zero_ok P1.out.d.1.c OR.out).mono ?_
 rintro en2 w2 ⟨rfl, hb⟩
 replace BEL := yk (BEL.out.next hb)
 replace X0 := yk (yb X0.out hb)
 replace XS := yk (yb XS.out hb)
 replace P1 := yk (P1.out.below hb)
 clear hb
 by_cases hr : r = 0
 case neg =>
  have hd : decide (r = 0) = false := decide_eq_false hr
  clear hr
  obtain ⟨q7, q7', q8, q8', q9, q9', q10, q10'⟩ := bc4 XS.out
  go_wp2_with fail
  go_ret
  exact ⟨ret_bool (by rw [hd]; rfl), BEL.out.1⟩
 case pos =>
  have hd : decide (r = 0) = true := decide_eq_true hr
  have HR := yk hr
  have hkw := HKW.out
  have hkev := HKE.out
  clear hr
  cases kev
  case true =>
   obtain ⟨q7, q7', q8, q8', q9, q9', q10, q10'⟩ := bc4 XS.out
   go_wp2_with fail
   go_ret
   exact ⟨ret_bool (by rw [hd]; rfl), BEL.out.1⟩
  case false =>
   obtain ⟨q7, q7', q8, q8', q9, q9', q10, q10'⟩ := bc4 XS.out
   go_wp2_with fail
   go_ret
   exact ⟨ret_bool (by rw [hd]; rfl), BEL.out.1⟩

theorem inside_g {f : Nat} (hf : ¬ f = 7 ∧ ¬ f = 8 ∧ ¬ f = 9 ∧ ¬ f = 10 ∧ ¬ f = 11 ∧ ¬ f = 12 ∧ ¬ f = 18 ∧ ¬ f = 19 ∧ ¬ f = 20 ∧ ¬ f = 22 ∧ ¬ f = 23 ∧ ¬ f = 29 ∧ ¬ f = 30) {v : Value} {z : Int} {w : World} (h : CDy w v z (-1074)) (hz : z.natAbs < 2 ^ 2098) (hT : TabAt 0 Lib.deBruijn64tab w) :
 Calls Tryz.prog 23 #[.int .u8 f, v] w fun en w' => en = .returned (.bool (true)) ∧ Below w.heap.size w w' := by
 obtain ⟨b0, A, n0, c, x0, rfl⟩ := h.ex
 have HT := yk hT
 have HCD := yk h
 have OZ := yk (ok_z hz)
 have e7 : ((f : Int) == 7) = false := by simp; omega
 have e8 : ((f : Int) == 8) = false := by simp; omega
 have e9 : ((f : Int) == 9) = false := by simp; omega
 have e10 : ((f : Int) == 10) = false := by simp; omega
 have e11 : ((f : Int) == 11) = false := by simp; omega
 have e12 : ((f : Int) == 12) = false := by simp; omega
 have e18 : ((f : Int) == 18) = false := by simp; omega
 have e19 : ((f : Int) == 19) = false := by simp; omega
 have e20 : ((f : Int) == 20) = false := by simp; omega
 have e22 : ((f : Int) == 22) = false := by simp; omega
 have e23 : ((f : Int) == 23) = false := by simp; omega
 have e29 : ((f : Int) == 29) = false := by simp; omega
 have e30 : ((f : Int) == 30) = false := by simp; omega
 clear h hz hT hf
 go_enter Tryz.func23, Tryz.ntmps23
 obtain ⟨BEL, X0⟩ := al1 w 1 #[.bool b0, .slice A n0 c, .int .i64 x0] 27
 obtain ⟨q0, q0', q1, q1', q2, q2'⟩ := bc3 X0.out
 go_wp2_with fail
 go_ret
 exact ⟨rfl, BEL.out.1⟩

theorem inside_any {f : Nat} {v : Value} {z : Int} {w : World} (h : CDy w v z (-1074)) (hz : z.natAbs < 2 ^ 2098) (hT : TabAt 0 Lib.deBruijn64tab w) :
 Calls Tryz.prog 23 #[.int .u8 f, v] w fun en w' => en = .returned (.bool (insideF f z)) ∧ Below w.heap.size w w' := by
 unfold insideF
 by_cases h1 : f = 7 ∨ f = 8 ∨ f = 9
 · rw [if_pos h1]; exact inside_a h1 h hz hT
 rw [if_neg h1]
 by_cases h2 : f = 10 ∨ f = 11 ∨ f = 12
 · rw [if_pos h2]; exact inside_b h2 h hz hT
 rw [if_neg h2]
 by_cases h3 : f = 18
 · rw [if_pos h3]; exact inside_c h3 h hz hT
 rw [if_neg h3]
 by_cases h4 : f = 19 ∨ f = 20 ∨ f = 22 ∨ f = 23
 · rw [if_pos h4]; exact inside_d h4 h hz hT
 rw [if_neg h4]
 by_cases h5 : f = 29
 · rw [if_pos h5]; exact inside_e h5 h hz hT
 rw [if_neg h5]
 by_cases h6 : f = 30
 · rw [if_pos h6]; exact inside_f h6 h hz hT
 rw [if_neg h6]
 exact inside_g (by omega) h hz hT
end Go.Proofs.YtgpjplelgffocaaGreatDoor
