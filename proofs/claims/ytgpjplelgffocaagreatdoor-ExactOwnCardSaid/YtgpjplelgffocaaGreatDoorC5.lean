/- Part 5 of the library of this claim: what the program and the document compute, as contracts of their functions. -/
import Derived.Test.YtgpjplelgffocaaGreatDoorC4
set_option maxRecDepth 100000
set_option maxHeartbeats 8000000
namespace Go.Proofs.YtgpjplelgffocaaGreatDoor
open Go.RowKit Go.Proofs.YtgpjplelgffocaaGreatDoorW.PrintWords Limb
set_option linter.unusedVariables false
set_option linter.unusedSimpArgs false

theorem nd_form {b : Bool} {m : Nat} {z e x d : Int} {w : World} {B : Nat} {v : Value} (h : (m = 0 ∧ z = 0) ∨ ∃ k : Nat, x = e + k ∧ z = sgn b m * 2 ^ k) (hr : RDy w B v (sgn b m) (x + d)) : RDy w B v z (e + d) := by
 rcases h with ⟨rfl, rfl⟩ | ⟨k, rfl, rfl⟩
 · rw [sgn_zero] at hr; exact hr.zero_unit
 · rw [show e + (k : Int) + d = e + d + k by omega] at hr
   exact hr.scale k
theorem twice_nd {v : Value} {z e : Int} {w : World} (d : Int) (h : NDy w v z e) (h1 : -65536 ≤ d) (h2 : d ≤ 65536) :
 Calls Tryz.prog 57 #[v, .int .i64 d] w fun en w' => ∃ v', en = .returned v' ∧ RDy w' w.heap.size v' z (e + d) ∧ Below w.heap.size w w' := by
 obtain ⟨b0, l, A, n0, c, x0, rfl, hC, hn, hc, hw, hl, l1, l2, hz⟩ := h
 have QF := yk (fun (W : World) (hb : Below w.heap.size w W) => form_any b0 l A n0 c (x0 + d) hn W (Kd.C_below hC hb) hc hw (by omega) (by omega) (by omega))
 have QR := yk (fun (W : World) (b : Nat) (v : Value) (h : RDy W b v (sgn b0 (nv l)) (x0 + d)) => nd_form hz h)
 have hwr : IntKind.i64.wrap (x0 + d) = x0 + d := wrap_i64 (by omega) (by omega)
 clear hC hn hc hw hl hz l1 l2 h1 h2
 go_enter Tryz.func57, Tryz.ntmps57
 obtain ⟨BEL, X0, XR⟩ := al2 w 2 #[.bool b0, .slice A n0 c, .int .i64 x0] 27 #[.bool false, .slice none 0 0, .int .i64 0] 27
 obtain ⟨q0, q0', q1, q1', q2, q2'⟩ := bc3 X0.out
 go_wp2_with fail
 have BL := BEL
 clear q0 q0' q1 q1' q2 q2'
 go_at_call 42
 refine (QF.out _ BEL.out.1).mono ?_
 rintro en1 w1 ⟨v1, rfl, hr, hb⟩
 replace BEL := yk (BEL.out.next hb)
 replace X0 := yk (yb X0.out hb)
 replace XR := yk (yb XR.out hb)
 have P1 := yk hr
 obtain ⟨b1, A1, n1, c1, x1, rfl⟩ := hr.ex
 clear hr hb
 go_wp2_with (((with_reducible refine gate_store (p := 4) rfl ?_); go_must (refine sdy 4 (.tmp 13) rfl rfl rfl rfl rfl XR.out rfl ?_; intro wb HX HG)); replace P1 := yk (P1.out.grown_box XR.out (by decide) HG.out); replace BEL := yk (BEL.out.grown HG.out (by omega)); replace X0 := yk (blk_grown X0.out HG.out (by omega)); replace XR := HX; clear HG)
 refine bodyPost_ret (results_dyad rfl _ _ (w.heap.size + 1) _ rfl XR.out rfl) rfl ?_
 exact ⟨_, rfl, QR.out _ _ _ (P1.out.lower (lw BL.out.2)), BEL.out.1⟩

theorem dord_any {v : Value} {z : Int} {w : World} (n : Int) (h : NDy w v z (-1074)) (o : Ok z (-1074)) (hn : n.natAbs < 2 ^ 20) :
 Calls Tryz.prog 25 #[v, .int .i64 n] w fun en w' => en = .returned (.int .i64 (sgnI (z - n * 2 ^ 1074))) ∧ Below w.heap.size w w' := by
 obtain ⟨b0, A, n0, c, x0, rfl⟩ := h.ex
 have HCD := yk h
 have OZ := yk o
 have OM := yk (Ok.of (e := -1074) _ (sm_mul (k := 1074) hn) (by decide) (by decide) (by decide))
 obtain ⟨M, hM⟩ : ∃ M : Int, M = n * 2 ^ 1074 := ⟨_, rfl⟩
 have HP := yk (fun (v : Value) (b : Nat) (W : World) (h : RDy W b v n 0) => (by
  have q := RDy.scale (e := -1074) 1074 h
  rw [← hM] at q; exact q : RDy W b v M (-1074)))
 have HN := yk (show -9223372036854775808 ≤ n ∧ n < 9223372036854775808 by omega)
 rw [← hM] at OM ⊢
 clear h o hn hM
 obtain ⟨q, hq⟩ : ∃ q, q = sgnI (z - M) := ⟨_, rfl⟩
 have QO := yk (fun (u u' : Value) (W : World) (h : NDy W u z (-1074)) (h' : NDy W u' M (-1074)) => (by
  rw [hq]; exact order_nd h h' OZ.out OM.out : Calls Tryz.prog 55 #[u, u'] W fun en w' => en = .returned (.int .i64 q) ∧ Below W.heap.size W w'))
 rw [← hq]
 clear hq
 go_enter Tryz.func25, Tryz.ntmps25
 go_upto_region 1 with fail
 obtain ⟨BEL, X0⟩ := al1 w 1 #[.bool b0, .slice A n0 c, .int .i64 x0] 27
 obtain ⟨TM, hTM⟩ : ∃ T : List (Option Value), T = [some (.agg #[.bool b0, .slice A n0 c, .int .i64 x0]), some (.int .i64 n), none, none, some (.int .i64 q)] := ⟨_, rfl⟩
 obtain ⟨GM, hGM⟩ : ∃ G : (Nat → Prop) → (Nat → Value) → World → Prop, G = fun L v W => BelN w 1 W ∧ W.heap[w.heap.size]? = some (.cells #[.bool b0, .slice A n0 c, .int .i64 x0] 27 (0, 0)) ∧ (∀ j c, L j → TM[j]? = some (some c) → v j = c) ∧ (L 2 → RDy W w.heap.size (v 2) M (-1074)) ∧ (L 3 → (v 3) = .int .i64 q) := ⟨_, rfl⟩
 refine wp_region_slotsV [5, 6, 7, 8, 4] (by kernel_rfl) (by kernel_rfl) (G := GM) ?h0M ?hstepM ?hendM
 case h0M =>
  intro v; rw [hGM]
  exact ⟨BEL.out.next (below_drew yr), blk_drew X0.out, fun _ _ h => h.elim, fun h => h.elim, fun h => h.elim⟩
 case hstepM =>
  intro k o ho v W L hGv hnk haft hcl K hK
  rw [hGM] at hGv
  obtain ⟨hB, hb0, fT, f2, f3⟩ := hGv
  rcases k with _ | _ | _ | _ | _ | k
  all_goals first
   | (cases ho; done)
   | (obtain rfl := (Option.some.inj ho).symm
      clear ho
      rw [if_pos (by rfl)]
      simp only [setAll, List.setIfInBounds_toArray, List.set_cons_zero, List.set_cons_succ, List.set_nil, List.getElem_toArray, List.getElem_cons_zero, List.getElem_cons_succ, Nat.reduceAdd] at haft hK ⊢)
  ·
   have cc0 := (box_cell (v := .bool b0) hb0 0 rfl).1
   have cc1 := (box_cell (v := .slice A n0 c) hb0 1 rfl).1
   have cc2 := (box_cell (v := .int .i64 x0) hb0 2 rfl).1
   have hb := yw W
   have key := hK.out (.agg #[.bool b0, .slice A n0 c, .int .i64 x0]) W (by rw [hGM]; exact ⟨hB.next hb, yb hb0 hb, tabs_step fT (fun c h => by rw [hTM] at h; exact yo h), (fun h => by rw [upd_ne v _ (by decide)]; exact (f2 (yx h)).below hb), (kV f3)⟩)
   clear hb0 fT f2 f3 hK hb
   go_simp
   simpa [upd] using key
  ·
   have hb := yw W
   have key := hK.out (.int .i64 n) W (by rw [hGM]; exact ⟨hB.next hb, yb hb0 hb, tabs_step fT (fun c h => by rw [hTM] at h; exact yo h), (fun h => by rw [upd_ne v _ (by decide)]; exact (f2 (yx h)).below hb), (kV f3)⟩)
   clear hb0 fT f2 f3 hK hb
   go_simp
   simpa [upd] using key
  ·
   have d1 := fT 1 _ (haft ⟨1, .data⟩ (by simp) rfl) (by rw [hTM]; rfl)
   have HALL := yk (ya hK (ya hB (ya hb0 ( ya fT ( ya f2 ( ya f3 (True.intro)))))))
   clear hK hb0 fT f2 f3
   go_simp
   go_at_call 21
   refine (dint_any n _ HN.out.1 HN.out.2).mono ?_
   rintro en w4 ⟨v1, rfl, hr, hb⟩
   obtain ⟨hK, hB, hb0, fT, f2, f3, _⟩ := HALL.out
   have key := hK.out (v1) w4 (by rw [hGM]; exact ⟨hB.next hb, yb hb0 hb, tabs_step fT (fun c h => by rw [hTM] at h; cases h), fun _ => by rw [upd_eq]; exact (HP.out _ _ _ hr).lower (lw hB.2), (kV f3)⟩)
   clear hb0 fT f2 f3 hK HALL
   simpa [upd, d1] using key
  ·
   have d0 := fT 0 _ (haft ⟨0, .data⟩ (by simp) rfl) (by rw [hTM]; rfl)
   have d2 := f2 (haft ⟨2, .data⟩ (by simp) rfl)
   have HALL := yk (ya hK (ya hB (ya hb0 ( ya fT ( ya f2 ( ya f3 (True.intro)))))))
   clear hK hb0 fT f2 f3
   go_simp
   go_at_call 55
   refine (QO.out _ _ _ (HCD.out.below hB.1) (d2.c.nd OM.out)).mono ?_
   rintro en w4 ⟨rfl, hb⟩
   obtain ⟨hK, hB, hb0, fT, f2, f3, _⟩ := HALL.out
   have key := hK.out (.int .i64 q) w4 (by rw [hGM]; exact ⟨hB.next hb, yb hb0 hb, tabs_step fT (fun c h => by rw [hTM] at h; cases h), (fun h => by rw [upd_ne v _ (by decide)]; exact (f2 (yx h)).below hb), yu⟩)
   clear hb0 fT f2 f3 hK HALL
   simpa [upd, d0] using key
  ·
   have d3 := f3 (haft ⟨3, .data⟩ (by simp) rfl)
   have hb := yw W
   have key := hK.out (.int .i64 q) W (by rw [hGM]; exact ⟨hB.next hb, yb hb0 hb, tabs_step fT (fun c h => by rw [hTM] at h; exact yo h), (fun h => by rw [upd_ne v _ (by decide)]; exact (f2 (yx h)).below hb), (kV f3)⟩)
   clear hb0 fT f2 f3 hK hb
   go_simp
   simpa [upd, d3] using key
 case hendM =>
  intro v W L0 hall hGv
  rw [hGM] at hGv
  obtain ⟨hB, hb0, fT, f2, f3⟩ := hGv
  have d4 := fT 4 _ (hall 4 (by decide)) (by rw [hTM]; rfl)
  replace BEL := yk hB
  clear hall hB fT f2 f3 hb0 hTM hGM TM GM X0
  simp only [setAll, List.setIfInBounds_toArray, List.set_cons_zero, List.set_cons_succ, Nat.reduceAdd, d4]
  clear d4
  go_wp2
  go_ret
  exact ⟨rfl, BEL.out.1⟩

theorem dtold_nd {v : Value} {z e : Int} {w : World} (h : NDy w v z e) :
 Calls Tryz.prog 79 #[v] w fun en w' => ∃ v', en = .returned (.tuple #[v', .bool true]) ∧ RDy w' w.heap.size v' z e ∧ Below w.heap.size w w' := by
 obtain ⟨b0, A, n0, c, x0, rfl⟩ := h.ex
 have QO := yk (fun (W : World) (hb : Below w.heap.size w W) => one_nd (h.below hb))
 clear h
 go_enter Tryz.func79, Tryz.ntmps79
 obtain ⟨BEL, X0, XR⟩ := al2 w 2 #[.bool b0, .slice A n0 c, .int .i64 x0] 27 #[.bool false, .slice none 0 0, .int .i64 0] 27
 obtain ⟨q0, q0', q1, q1', q2, q2'⟩ := bc3 X0.out
 go_wp2_with fail
 have BL := BEL
 clear q0 q0' q1 q1' q2 q2'
 go_at_call 56
 refine (QO.out _ BEL.out.1).mono ?_
 rintro en1 w1 ⟨v1, rfl, hr, hb⟩
 replace BEL := yk (BEL.out.next hb)
 replace X0 := yk (yb X0.out hb)
 replace XR := yk (yb XR.out hb)
 have P1 := yk hr
 obtain ⟨b1, A1, n1, c1, x1, rfl⟩ := hr.ex
 clear hr hb
 go_wp2_with (((with_reducible refine gate_store (p := 2) rfl ?_); go_must (refine sdy 2 (.tmp 5) rfl rfl rfl rfl rfl XR.out rfl ?_; intro wb HX HG)); replace P1 := yk (P1.out.grown_box XR.out (by decide) HG.out); replace BEL := yk (BEL.out.grown HG.out (by omega)); replace X0 := yk (blk_grown X0.out HG.out (by omega)); replace XR := HX; clear HG)
 refine bodyPost_ret (results_list (rs := [.cell 2 27, .tmp 3]) rfl (by simp) (Vals.box any_dyad info_dyad (g := w.heap.size + 1) rfl XR.out rfl (.tmp .nil))) rfl ?_
 exact ⟨_, rfl, P1.out.lower (lw BL.out.2), BEL.out.1⟩

theorem dpower_any (n : Int) (w : World) :
 Calls Tryz.prog 80 #[.int .i64 n] w fun en w' => ∃ v', en = .returned v' ∧ RDy w' w.heap.size v' 1 n ∧ Below w.heap.size w w' := by
 have HV := yk (show (Value.agg #[.bool false, .slice (some ⟨w.heap.size + 1, 0, none⟩) 1 1, .int .i64 n]) = .agg #[.bool (cneg 1), .slice (some ⟨w.heap.size + 1, 0, none⟩) 1 1, .int .i64 (cexp 1 n)] by
  rw [show cneg 1 = false from rfl, show cexp 1 n = n by unfold cexp; simp [tz_odd]])
 have HL := yk (show limbs (cman 1) = [1] by rw [show cman 1 = 1 by unfold cman; simp [tz_odd]]; exact limbs_one (by decide) (by decide))
 go_enter Tryz.func80, Tryz.ntmps80
 go_wp2
 refine bodyPost_ret (results_dyad rfl _ _ w.heap.size _ rfl (blk_alloc (blk_new _ _) _) rfl) rfl ?_
 refine ⟨_, rfl, ⟨some ⟨w.heap.size + 1, 0, none⟩, 1, 1, HV.out, ?_⟩, below_alloc (below_alloc yr _) _⟩
 rw [HL.out]
 have h := row_one (w.alloc (.cells #[.bool false, .slice (some ⟨w.heap.size + 1, 0, none⟩) 1 1, .int .i64 n] 27)) 1
 rw [size_alloc'] at h
 exact Kd.R_lower h (by omega)

theorem dless1_nd {v : Value} {z e one : Int} {w : World} (h : NDy w v z e) (o : Ok z e) (ho : Ok one e) (h1 : ∀ (b : Nat) (u : Value) (W : World), RDy W b u 1 0 → RDy W b u one e) :
 Calls Tryz.prog 82 #[v] w fun en w' => ∃ v', en = .returned v' ∧ RDy w' w.heap.size v' (z - one) e ∧ Below w.heap.size w w' := by
 obtain ⟨b0, A, n0, c, x0, rfl⟩ := h.ex
 have H1 := yk h1
 have QL := yk (fun (W : World) (hb : Below w.heap.size w W) (v1 : Value) (h1 : CDy W v1 one e) => less_nd (h.below hb) (h1.nd ho) o ho)
 clear h o ho h1
 go_enter Tryz.func82, Tryz.ntmps82
 go_upto_region 1 with fail
 obtain ⟨BEL, X0, XR⟩ := al2 w 2 #[.bool b0, .slice A n0 c, .int .i64 x0] 27 #[.bool false, .slice none 0 0, .int .i64 0] 27
 obtain ⟨GM, hGM⟩ : ∃ G : (Nat → Prop) → (Nat → Value) → World → Prop, G = fun L v W => BelN w 2 W ∧ W.heap[w.heap.size]? = some (.cells #[.bool b0, .slice A n0 c, .int .i64 x0] 27 (0, 0)) ∧ (L 0 → (v 0) = .agg #[.bool b0, .slice A n0 c, .int .i64 x0]) ∧ (L 1 → RDy W w.heap.size (v 1) one e) ∧ (L 2 → RDy W w.heap.size (v 2) (z - one) e) ∧ ((¬ L 3 → W.heap[w.heap.size + 1]? = some (.cells #[.bool false, .slice none 0 0, .int .i64 0] 27 (0, 0))) ∧ (L 3 → ∃ (bb : Bool) (A : Option Addr) (n c : Nat) (x : Int), (v 2) = .agg #[.bool bb, .slice A n c, .int .i64 x] ∧ W.heap[w.heap.size + 1]? = some (.cells #[.bool bb, .slice A n c, .int .i64 x] 27 (0, 0)))) := ⟨_, rfl⟩
 refine wp_region_slotsV [3, 4, 5] (by kernel_rfl) (by kernel_rfl) (G := GM) ?h0M ?hstepM ?hendM
 case h0M =>
  intro v; rw [hGM]
  exact ⟨BEL.out.next (below_drew yr), blk_drew X0.out, fun h => h.elim, fun h => h.elim, fun h => h.elim, ⟨fun _ => blk_drew XR.out, fun h => h.elim⟩⟩
 case hstepM =>
  intro k o ho v W L hGv hnk haft hcl K hK
  rw [hGM] at hGv
  obtain ⟨hB, hb0, f0, f1, f2, f3⟩ := hGv
  rcases k with _ | _ | _ | _ | k
  all_goals first
   | (cases ho; done)
   | (obtain rfl := (Option.some.inj ho).symm
      clear ho
      rw [if_pos (by rfl)]
      simp only [setAll, List.setIfInBounds_toArray, List.set_cons_zero, List.set_cons_succ, List.set_nil, List.getElem_toArray, List.getElem_cons_zero, List.getElem_cons_succ, Nat.reduceAdd] at haft hK ⊢)
  ·
   have cc0 := (box_cell (v := .bool b0) hb0 0 rfl).1
   have cc1 := (box_cell (v := .slice A n0 c) hb0 1 rfl).1
   have cc2 := (box_cell (v := .int .i64 x0) hb0 2 rfl).1
   have hb := yw W
   have key := hK.out (.agg #[.bool b0, .slice A n0 c, .int .i64 x0]) W (by rw [hGM]; exact ⟨hB.next hb, yb hb0 hb, yu, (fun h => by rw [upd_ne v _ (by decide)]; exact (f1 (yx h)).below hb), (fun h => by rw [upd_ne v _ (by decide)]; exact (f2 (yx h)).below hb), (⟨fun h2 => yb (f3.1 (fun h3 => h2 (.inl h3))) hb, fun h2 => by rw [upd_ne v _ (by decide)]; obtain ⟨bb, A, n, c, x, y1, y2⟩ := f3.2 (yx h2); exact ⟨bb, A, n, c, x, y1, yb y2 hb⟩⟩)⟩)
   clear hb0 f0 f1 f2 f3 hb hK
   go_simp
   simpa [upd] using key
  ·
   have HALL := yk (ya hK (ya hB (ya hb0 ( ya f0 ( ya f1 ( ya f2 ( ya f3 (True.intro))))))))
   clear hK hb0 f0 f1 f2 f3
   go_simp
   go_at_call 21
   refine (dint_any 1 _ (by decide) (by decide)).mono ?_
   rintro en w4 ⟨v1, rfl, hr, hb⟩
   obtain ⟨hK, hB, hb0, f0, f1, f2, f3, _⟩ := HALL.out
   have key := hK.out (v1) w4 (by rw [hGM]; exact ⟨hB.next hb, yb hb0 hb, (kV f0), fun _ => by rw [upd_eq]; exact (H1.out _ _ _ hr).lower (lw hB.2), (fun h => by rw [upd_ne v _ (by decide)]; exact (f2 (yx h)).below hb), (⟨fun h2 => yb (f3.1 (fun h3 => h2 (.inl h3))) hb, fun h2 => by rw [upd_ne v _ (by decide)]; obtain ⟨bb, A, n, c, x, y1, y2⟩ := f3.2 (yx h2); exact ⟨bb, A, n, c, x, y1, yb y2 hb⟩⟩)⟩)
   clear hb0 f0 f1 f2 f3 hK HALL
   simpa [upd] using key
  ·
   have hns3 : ¬ L 3 := fun hs => hnk (hcl 3 _ rfl hs ⟨2, .data⟩ (by simp) rfl)
   have d0 := f0 (haft ⟨0, .data⟩ (by simp) rfl)
   have D0 := d0
   have d1 := f1 (haft ⟨1, .data⟩ (by simp) rfl)
   have D1 := d1
   have HALL := yk (ya hK (ya hB (ya hb0 ( ya f0 ( ya f1 ( ya f2 ( ya f3 (True.intro))))))))
   clear hK hb0 f0 f1 f2 f3
   go_simp
   go_at_call 93
   refine (QL.out _ hB.1 _ d1.c).mono ?_
   rintro en w4 ⟨v1, rfl, hr, hb⟩
   obtain ⟨hK, hB, hb0, f0, f1, f2, f3, _⟩ := HALL.out
   have key := hK.out (v1) w4 (by rw [hGM]; exact ⟨hB.next hb, yb hb0 hb, (kV f0), (fun h => by rw [upd_ne v _ (by decide)]; exact (f1 (yx h)).below hb), fun _ => by rw [upd_eq]; exact hr.lower (lw hB.2), (⟨fun h2 => yb (f3.1 (fun h3 => h2 (.inl h3))) hb, fun h2 => (hns3 (yx h2)).elim⟩)⟩)
   clear hb0 f0 f1 f2 f3 hK HALL
   simpa [upd, D0] using key
  ·
   have hgb := f3.1 hnk
   have ds := f2 (haft ⟨2, .data⟩ (by simp) rfl)
   obtain ⟨bb, A, n, c, x, es⟩ := ds.ex
   refine wp_store_box 27 2 (.tmp 5) rfl rfl (g := w.heap.size + 1) (e := 27) (v 2) [.bool bb, .slice A n c, .int .i64 x] (by first | rfl | exact rfl) rfl (by rw [es]; rfl) info_dyad ?_ hgb rfl ?_
   · intro q hq; simp at hq; rcases hq with rfl | rfl | rfl <;> rfl
   · intro w1 hw1 hg
     have key := hK.out undef w1 (by rw [hGM]; exact ⟨hB.grown hg (by omega), blk_grown hb0 hg (by omega), (kV f0), (fun h => by rw [upd_ne v _ (by decide)]; exact (f1 (yx h)).grown_box hgb (by decide) hg), (fun h => by rw [upd_ne v _ (by decide)]; exact (f2 (yx h)).grown_box hgb (by decide) hg), ⟨fun h => (h (.inr rfl)).elim, fun _ => by rw [upd_ne v _ (by decide)]; exact ⟨bb, A, n, c, x, es, hw1⟩⟩⟩)
     clear hb0 f0 f1 f2 f3 hK
     simpa [upd] using key
 case hendM =>
  intro v W L0 hall hGv
  rw [hGM] at hGv
  obtain ⟨hB, hb0, f0, f1, f2, f3⟩ := hGv
  have BEL := yk hB
  have d2 := f2 (hall 2 (by decide))
  obtain ⟨b7, A7, n7, c7, x7, p3, hx7⟩ := f3.2 (hall 3 (by decide))
  rw [p3] at d2
  have P3 := yk d2
  have X3 := yk hx7
  clear hall f0 f1 f2 f3 hB hb0 d2 hx7
  go_wp2
  refine bodyPost_ret (results_dyad rfl _ _ (w.heap.size + 1) _ rfl X3.out rfl) rfl ?_
  exact ⟨_, rfl, P3.out, BEL.out.1⟩

theorem pow_len {m i : Nat} (hm : m < 16) (hi : i ≤ 64) : m ^ i < 2 ^ (64 * 4) := by
 have h1 : m ^ i ≤ 16 ^ i := Nat.pow_le_pow_left (by omega) i
 have h2 : (16 : Nat) ^ i = 2 ^ (4 * i) := by rw [Nat.pow_mul]
 have hm : m ^ i ≤ 15 ^ 64 := by
  have a : m ^ i ≤ 15 ^ i := Nat.pow_le_pow_left (by omega) i
  exact Nat.le_trans a (Nat.pow_le_pow_right (by decide) hi)
 exact Nat.lt_of_le_of_lt hm (by decide +kernel)
theorem R_list {w : World} {b : Nat} {v : Value} {l : List Nat} (h : kU.R 23 w b (fun _ => True) v l) : ∃ A c, v = .slice A l.length c ∧ l.length ≤ c ∧ kU.C w A l.length l := Kd.R_reads h
theorem pow_any (a : List Nat) (A : Option Addr) (c na k : Nat) (hna : a.length = na) (w : World) (ha : kU.C w A na a) (hc : na ≤ c) (wa : Wf a) (la : na ≤ 16) (hv : nv a < 16) (hk : k ≤ 64) :
 Calls Tryz.prog 103 #[.slice A na c, .int .i64 (k : Int)] w fun en w' => ∃ v, en = .returned v ∧ kU.R 23 w' w.heap.size (fun _ => True) v (limbs (nv a ^ k)) ∧ Below w.heap.size w w' := by
 have QM := yk (fun (i : Nat) (hi : i ≤ 64) (W : World) (hb : Below w.heap.size w W) (B : Option Addr) (d : Nat) (hB : kU.C W B (limbs (nv a ^ i)).length (limbs (nv a ^ i))) (hd : (limbs (nv a ^ i)).length ≤ d) => (by
  have q := mul_any (limbs (nv a ^ i)) a B A _ na d c rfl hna W hB (Kd.C_below ha hb) hd hc (wf_limbs _) wa (Nat.le_trans (limbs_len_le (pow_len hv hi)) (by decide)) (Nat.le_trans la (by decide))
  rw [nv_limbs, ← Nat.pow_succ] at q
  exact q : Calls Tryz.prog 116 #[.slice B (limbs (nv a ^ i)).length d, .slice A na c] W fun e w' => ∃ v, e = .returned v ∧ kU.R 23 w' W.heap.size (fun _ => True) v (limbs (nv a ^ (i + 1))) ∧ Below W.heap.size W w'))
 have Q1 := yk (fun (W : World) => (by
  have q := of_any 1 (by decide) W
  rw [show limbs 1 = limbs (nv a ^ 0) by rw [Nat.pow_zero]] at q
  exact q : Calls Tryz.prog 43 #[.int .u64 1] W fun e w' => ∃ v, e = .returned v ∧ kU.R 23 w' W.heap.size (fun _ => True) v (limbs (nv a ^ 0)) ∧ Below W.heap.size W w'))
 have HK := yk hk
 obtain ⟨F, hF⟩ : ∃ F : Nat → List Nat, F = fun i => limbs (nv a ^ i) := ⟨_, rfl⟩
 have eF : ∀ i, limbs (nv a ^ i) = F i := fun i => by rw [hF]
 simp only [eF] at QM Q1 ⊢
 clear ha hc wa la hv hna hk eF hF
 go_enter Tryz.func103, Tryz.ntmps103
 have BEL := yk (BelN.zero w)
 go_wp2_with fail
 go_at_call 43
 refine (Q1.out _).mono ?_
 rintro en1 w1 ⟨v1, rfl, hr, hb⟩
 replace BEL := yk (BEL.out.next hb)
 have P1 := yk hr
 clear hr hb
 go_wp2_with fail
 go_loopw [5, 6] (fun v5 v6 wr => ∃ i : Nat, v6 = .int .i64 i ∧ i ≤ k ∧ Aside0 (BelN w 0 wr) ∧ Aside0 (kU.R 23 wr w.heap.size (fun _ => True) v5 (F i))) (fun v5 v6 _ => k - (intOf v6).toNat)
 case atStart => exact ⟨0, rfl, Nat.zero_le _, BEL, P1⟩
 case round =>
  clear BEL P1
  obtain ⟨i, rfl, hik, BEL, P1⟩ := hrel
  obtain ⟨B, d, rfl, hd, hC⟩ := R_list P1.out
  by_cases hlt : i < k
  · have hld : decide ((i : Int) < k) = true := decide_eq_true (by omega)
    have hwi : wrap64 ((i : Int) + 1) = ((i + 1 : Nat) : Int) := by have := HK.out; unfold wrap64; omega
    have QQ := yk (QM.out i (by have := HK.out; omega) wr BEL.out.1 B d hC hd)
    clear hC hd
    go_wp2_with fail
    go_at_call 116
    refine QQ.out.mono ?_
    rintro en2 w2 ⟨v2, rfl, hr, hb⟩
    have P2 := yk (Kd.R_lower hr BEL.out.1.size)
    replace BEL := yk (BEL.out.next hb)
    clear hr hb
    go_wp2
    go_roundw
    case rel => exact ⟨i + 1, by rw [hwi], hlt, BEL, P2⟩
    case measure => rw [hwi]; exact meas_int hlt
  · have hld : decide ((i : Int) < k) = false := decide_eq_false (by omega)
    have hi : i = k := by omega
    subst hi
    go_wp2
    go_ret
    exact ⟨_, rfl, P1.out, BEL.out.1⟩

/-- A whole number's words, the call's own, as a number. -/
def RNy (w : World) (b : Nat) (v : Value) (m : Nat) : Prop := ∃ A n c, v = .agg #[.bool false, .slice A n c, .int .i64 0] ∧ kU.R 23 w b (fun _ => True) (.slice A n c) (limbs m)
theorem RNy.nd {w : World} {b m : Nat} {v : Value} (h : RNy w b v m) (hm : m < 2 ^ (64 * 4)) : NDy w v m 0 := by
 obtain ⟨A, n, c, rfl, hr⟩ := h
 obtain ⟨h1, h2, h3⟩ := Kd.R_reads' hr
 refine ⟨false, limbs m, A, n, c, 0, rfl, by rw [h1]; exact h3, h1.symm, h2, wf_limbs _, ?_, by decide, by decide, ?_⟩
 · rw [h1]; exact Nat.le_trans (limbs_len_le hm) (by decide)
 · rw [nv_limbs]; exact .inr ⟨0, by simp, by simp [sgn]⟩
theorem dten_any (k : Nat) (hk : k ≤ 64) (w : World) :
 Calls Tryz.prog 83 #[.int .i64 (k : Int)] w fun en w' => ∃ v', en = .returned v' ∧ RNy w' w.heap.size v' (10 ^ k) ∧ Below w.heap.size w w' := by
 have Q1 := yk (fun (W : World) => of_any 10 (by decide) W)
 have Q2 := yk (fun (W : World) (A : Option Addr) (c : Nat) (hC : kU.C W A (limbs 10).length (limbs 10)) (hc : (limbs 10).length ≤ c) => (by
  have q := pow_any (limbs 10) A c (limbs 10).length k rfl W hC hc (wf_limbs _) (Nat.le_trans (limbs_len_le (k := 1) (by decide)) (by decide)) (by rw [nv_limbs]; decide) hk
  rw [nv_limbs] at q
  exact q : Calls Tryz.prog 103 #[.slice A (limbs 10).length c, .int .i64 (k : Int)] W fun en w' => ∃ v, en = .returned v ∧ kU.R 23 w' W.heap.size (fun _ => True) v (limbs (10 ^ k)) ∧ Below W.heap.size W w'))
 obtain ⟨n1, hn1⟩ : ∃ n1, n1 = (limbs 10).length := ⟨_, rfl⟩
 have QR := yk (fun (W : World) (b : Nat) (v : Value) (h : kU.R 23 W b (fun _ => True) v (limbs 10)) => (by
  rw [hn1]; exact R_list h : ∃ A c, v = .slice A n1 c ∧ n1 ≤ c ∧ kU.C W A n1 (limbs 10)))
 rw [← hn1] at Q2
 clear hk hn1
 go_enter Tryz.func83, Tryz.ntmps83
 obtain ⟨BEL, XR⟩ := al1 w 1 #[.bool false, .slice none 0 0, .int .i64 0] 27
 go_wp2_with fail
 go_at_call 43
 refine (Q1.out _).mono ?_
 rintro en1 w1 ⟨v1, rfl, hr, hb⟩
 replace BEL := yk (BEL.out.next hb)
 replace XR := yk (yb XR.out hb)
 obtain ⟨A1, c1, rfl, hc1, hC1⟩ := QR.out _ _ _ hr
 have QQ := yk (Q2.out _ _ _ hC1 hc1)
 clear hr hb hc1 hC1
 go_wp2_with fail
 go_at_call 103
 refine QQ.out.mono ?_
 rintro en2 w2 ⟨v2, rfl, hr, hb⟩
 have hlow := BEL.out.2
 replace BEL := yk (BEL.out.next hb)
 replace XR := yk (yb XR.out hb)
 obtain ⟨A2, c2, rfl, hc2, hC2⟩ := R_list hr
 have P2 := yk (Kd.R_lower hr hlow)
 clear hr hb hc2 hC2 hlow
 obtain ⟨n2, hn2⟩ : ∃ n2, n2 = (limbs (10 ^ k)).length := ⟨_, rfl⟩
 rw [← hn2] at P2 ⊢
 clear hn2
 go_wp2_with (((with_reducible refine gate_store (p := 2) rfl ?_); go_must (refine sdy 2 (.tmp 6) rfl rfl rfl rfl rfl XR.out rfl ?_; intro wb HX HG)))
 refine bodyPost_ret (results_dyad rfl _ _ w.heap.size _ rfl HX.out rfl) rfl ?_
 refine ⟨_, rfl, ⟨A2, n2, c2, rfl, Kd.R_lower (base := w.heap.size + 1) (Kd.R_mono (Kd.R_grown (Kd.R_bound P2.out) HG.out ?_) (fun _ _ => trivial)) (by omega)⟩, BEL.out.1.grown HG.out BEL.out.1.size (fun k hk => by cases hk; omega)⟩
 rintro k ⟨_, hk, _⟩ he
 cases he
 omega
/-- A finite word's amount rises with its bits. -/
def gabs (E F : Nat) : Nat := (if E = 0 then F else 4503599627370496 + F) * 2 ^ (E - 1)
theorem gabs_lt {E F E' F' : Nat} (hF : F < 4503599627370496) (hF' : F' < 4503599627370496) (h : E < E' ∨ (E = E' ∧ F < F')) : gabs E F < gabs E' F' := by
 unfold gabs
 rcases h with h | ⟨rfl, h⟩
 · rw [if_neg (show ¬ E' = 0 by omega)]
   have h2 : 4503599627370496 * 2 ^ (E' - 1) ≤ (4503599627370496 + F') * 2 ^ (E' - 1) := Nat.mul_le_mul_right _ (by omega)
   refine Nat.lt_of_lt_of_le ?_ h2
   by_cases h0 : E = 0
   · subst h0
     rw [if_pos rfl, Nat.pow_zero, Nat.mul_one]
     have := Nat.two_pow_pos (E' - 1)
     calc F < 4503599627370496 := hF
      _ = 4503599627370496 * 1 := (Nat.mul_one _).symm
      _ ≤ 4503599627370496 * 2 ^ (E' - 1) := Nat.mul_le_mul_left _ this
   · rw [if_neg h0]
     have h3 : 2 * 2 ^ (E - 1) ≤ 2 ^ (E' - 1) := by
      rw [← Nat.pow_succ']
      exact Nat.pow_le_pow_right (by decide) (show E - 1 + 1 ≤ E' - 1 by omega)
     have h4 : (4503599627370496 + F) * 2 ^ (E - 1) < (4503599627370496 * 2) * 2 ^ (E - 1) := Nat.mul_lt_mul_of_pos_right (by omega) (Nat.two_pow_pos _)
     rw [Nat.mul_assoc] at h4
     exact Nat.lt_of_lt_of_le h4 (Nat.mul_le_mul_left _ h3)
 · exact Nat.mul_lt_mul_of_pos_right (by split <;> omega) (Nat.two_pow_pos _)
theorem valI_abs (x : Nat) : (valI x).natAbs = gabs (x / 4503599627370496 % 2048) (x % 4503599627370496) := by
 unfold valI gabs
 rw [sgn_abs]
theorem abs_iff {x y : Nat} : ((valI y).natAbs : Int) = (valI x).natAbs ↔ x % 9223372036854775808 = y % 9223372036854775808 := by
 rw [valI_abs, valI_abs]
 have hx : x % 9223372036854775808 = (x / 4503599627370496 % 2048) * 4503599627370496 + x % 4503599627370496 := by omega
 have hy : y % 9223372036854775808 = (y / 4503599627370496 % 2048) * 4503599627370496 + y % 4503599627370496 := by omega
 rw [hx, hy]
 have hF : x % 4503599627370496 < 4503599627370496 := Nat.mod_lt _ (by decide)
 have hF' : y % 4503599627370496 < 4503599627370496 := Nat.mod_lt _ (by decide)
 generalize x / 4503599627370496 % 2048 = E at *
 generalize y / 4503599627370496 % 2048 = E' at *
 generalize x % 4503599627370496 = F at *
 generalize y % 4503599627370496 = F' at *
 constructor
 · intro h
   rcases Nat.lt_trichotomy E E' with h1 | h1 | h1
   · have := gabs_lt hF hF' (.inl h1); omega
   · subst h1
     rcases Nat.lt_trichotomy F F' with h2 | h2 | h2
     · have := gabs_lt (E := E) (E' := E) hF hF' (.inr ⟨rfl, h2⟩); omega
     · rw [h2]
     · have := gabs_lt (E := E) (E' := E) hF' hF (.inr ⟨rfl, h2⟩); omega
   · have := gabs_lt hF' hF (.inl h1); omega
 · intro h
   have h1 : E = E' := by omega
   subst h1
   have h2 : F = F' := by omega
   rw [h2]
theorem finite_no (x : Nat) (hx : ¬ x % 9223372036854775808 < 9218868437227405312) (w : World) :
 Calls Tryz.prog 24 #[.int .u64 (x : Int)] w fun e w' => e = .returned (.bool false) ∧ Below w.heap.size w w' := by
 obtain ⟨r, hr⟩ : ∃ r, r = x % 9223372036854775808 := ⟨_, rfl⟩
 have e1 : (x : Int).tmod 9223372036854775808 = (r : Int) := by rw [hr]; exact tmod_nat x 9223372036854775808
 rw [← hr] at hx
 have hd : decide ((r : Int) < 9218868437227405312) = false := decide_eq_false (by omega)
 have HB := yk (Below.refl w.heap.size w)
 clear hr hx
 go_enter Tryz.func24, Tryz.ntmps24
 go_wp2
 go_ret
 exact ⟨ret_bool (by first | with_reducible rfl | exact hd), HB.out⟩
theorem dabs_any (x : Nat) (w : World) : Calls Tryz.prog 59 #[.int .u64 (x : Int)] w fun e w' => e = .returned (.int .u64 ((x % 9223372036854775808 : Nat) : Int)) ∧ Below w.heap.size w w' := by
 obtain ⟨r, hr⟩ : ∃ r, r = x % 9223372036854775808 := ⟨_, rfl⟩
 have e1 : (x : Int).tmod 9223372036854775808 = (r : Int) := by rw [hr]; exact tmod_nat x 9223372036854775808
 rw [← hr]
 have HB := yk (Below.refl w.heap.size w)
 clear hr
 go_enter Tryz.func59, Tryz.ntmps59
 go_wp2
 go_ret
 exact ⟨rfl, HB.out⟩

theorem dfrom_none (x : Nat) (hx : ¬ x % 9223372036854775808 < 9218868437227405312) (w : World) :
 Calls Tryz.prog 19 #[.int .u64 (x : Int)] w fun e w' => e = .returned (.tuple #[Z0, .int .i64 5]) ∧ Below w.heap.size w w' := by
 have QF := yk (fun (W : World) => finite_no x hx W)
 clear hx
 go_enter Tryz.func19, Tryz.ntmps19
 obtain ⟨BEL, XR⟩ := al1 w 1 #[.bool false, .slice none 0 0, .int .i64 0] 27
 go_wp2_with fail
 go_at_call 24
 refine (QF.out _).mono ?_
 rintro en1 w1 ⟨rfl, hb⟩
 replace BEL := yk (BEL.out.next hb)
 replace XR := yk (yb XR.out hb)
 clear hb
 go_wp2_with (((with_reducible refine gate_store (p := 2) rfl ?_); go_must (refine sdy 2 (.tmp 10) rfl rfl rfl rfl rfl XR.out rfl ?_; intro wb HX HG)); replace BEL := yk (BEL.out.grown HG.out (by omega)); replace XR := HX; clear HG)
 refine bodyPost_ret (results_dyad_tmp rfl _ _ w.heap.size _ rfl XR.out rfl) rfl ?_
 exact ⟨rfl, BEL.out.1⟩
theorem RDy.zero (w : World) (b : Nat) (e : Int) : RDy w b Z0 0 e := ⟨none, 0, 0, rfl, by rw [cman_zero, limbs_zero]; exact Kd.R_nil _ _ _ _ _⟩
theorem dfrom_any (x : Nat) (hx : x < 18446744073709551616) (w : World) :
 Calls Tryz.prog 19 #[.int .u64 (x : Int)] w fun e w' => ∃ v, e = .returned (.tuple #[v, .int .i64 (errB (finB x))]) ∧ RDy w' w.heap.size v (fromV x) (-1074) ∧ Below w.heap.size w w' := by
 by_cases h : x % 9223372036854775808 < 9218868437227405312
 · have hb : finB x = true := decide_eq_true h
   unfold fromV errB
   rw [if_pos hb, if_pos hb]
   exact from_fields x (valI x) h rfl hx w
 · have hb : ¬ finB x = true := by unfold finB; rw [decide_eq_false h]; decide
   unfold fromV errB
   rw [if_neg hb, if_neg hb]
   exact (dfrom_none x h w).mono fun en w' q => ⟨_, q.1, RDy.zero _ _ _, q.2⟩

theorem dis2_one (f : Nat) (hf : f < 256) (w : World) :
 Calls Tryz.prog 12 #[.int .u8 f] w fun en w' => en = .returned (.bool (is2F f)) ∧ Below w.heap.size w w' := by
 have hb0 := yk (Below.refl w.heap.size w)
 unfold is2F
 by_cases h1 : f = 33
 · rw [decide_eq_true h1]
   have d1 : ((f : Int) == 33) = true := by simp; omega
   go_enter Tryz.func12, Tryz.ntmps12
   go_wp2
   go_ret
   exact ⟨rfl, hb0.out⟩
 · rw [decide_eq_false h1]
   have d1 : ((f : Int) == 33) = false := by simp; omega
   obtain ⟨q, hq⟩ : ∃ q, decide (f = 34) = q := ⟨_, rfl⟩
   have d2 : ((f : Int) == 34) = q := by
    rw [← hq]
    by_cases h2 : f = 34
    · subst h2; rfl
    · rw [decide_eq_false h2]; simp; omega
   rw [hq]
   clear h1 hq
   go_enter Tryz.func12, Tryz.ntmps12
   go_wp2
   go_ret
   exact ⟨rfl, hb0.out⟩

theorem dorder_zero {u v : Value} {z e e' : Int} {w : World} (h : CDy w u z e) (h' : CDy w v 0 e') (o : Ok z e) (o' : Ok 0 e') :
 Calls Tryz.prog 55 #[u, v] w fun en w' => en = .returned (.int .i64 (sgnI z)) ∧ Below w.heap.size w w' := by
 obtain ⟨b0, A, n0, c, x0, rfl⟩ := h.ex
 obtain ⟨b1, A1, n1, c1, x1, rfl⟩ := h'.ex
 have HU := yk h
 have HV := yk h'
 have LU := yk o.len30
 have LV := yk o'.len30
 obtain ⟨sz, hsz⟩ : ∃ q, q = sgnI z := ⟨_, rfl⟩
 have hs := sgnI_cases z
 have QSg := yk (fun (W : World) (hb : Below w.heap.size w W) => sign_any' _ z e _ (h.below hb) o.len30)
 rw [← hsz] at hs QSg ⊢
 clear h h' o o' hsz
 go_enter Tryz.func55, Tryz.ntmps55
 go_upto_region 1 with fail
 obtain ⟨BEL, X0, X1⟩ := al2 w 2 #[.bool b0, .slice A n0 c, .int .i64 x0] 27 #[.bool b1, .slice A1 n1 c1, .int .i64 x1] 27
 obtain ⟨TM, hTM⟩ : ∃ T : List (Option Value), T = [some (.agg #[.bool b0, .slice A n0 c, .int .i64 x0]), none, some (.agg #[.bool b1, .slice A1 n1 c1, .int .i64 x1]), none, some (.int .i64 sz), some (.int .i64 (sgnI 0))] := ⟨_, rfl⟩
 obtain ⟨GM, hGM⟩ : ∃ G : (Nat → Prop) → (Nat → Value) → World → Prop, G = fun L v W => BelN w 2 W ∧ W.heap[w.heap.size]? = some (.cells #[.bool b0, .slice A n0 c, .int .i64 x0] 27 (0, 0)) ∧ W.heap[w.heap.size + 1]? = some (.cells #[.bool b1, .slice A1 n1 c1, .int .i64 x1] 27 (0, 0)) ∧ (∀ j c, L j → TM[j]? = some (some c) → v j = c) ∧ (L 1 → (v 1) = .int .i64 sz) ∧ (L 3 → (v 3) = .int .i64 (sgnI 0)) := ⟨_, rfl⟩
 refine wp_region_slotsV [9, 10, 11, 12, 5, 6] (by kernel_rfl) (by kernel_rfl) (G := GM) ?h0M ?hstepM ?hendM
 case h0M =>
  intro v; rw [hGM]
  exact ⟨BEL.out.next (below_drew yr), blk_drew X0.out, blk_drew X1.out, fun _ _ h => h.elim, fun h => h.elim, fun h => h.elim⟩
 case hstepM =>
  intro k o ho v W L hGv hnk haft hcl K hK
  rw [hGM] at hGv
  obtain ⟨hB, hb0, hb1, fT, f1, f3⟩ := hGv
  rcases k with _ | _ | _ | _ | _ | _ | k
  all_goals first
   | (cases ho; done)
   | (obtain rfl := (Option.some.inj ho).symm
      clear ho
      rw [if_pos (by rfl)]
      simp only [setAll, List.setIfInBounds_toArray, List.set_cons_zero, List.set_cons_succ, List.set_nil, List.getElem_toArray, List.getElem_cons_zero, List.getElem_cons_succ, Nat.reduceAdd] at haft hK ⊢)
  ·
   have cc0 := (box_cell (v := .bool b0) hb0 0 rfl).1
   have cc1 := (box_cell (v := .slice A n0 c) hb0 1 rfl).1
   have cc2 := (box_cell (v := .int .i64 x0) hb0 2 rfl).1
   have hb := yw W
   have key := hK.out (.agg #[.bool b0, .slice A n0 c, .int .i64 x0]) W (by rw [hGM]; exact ⟨hB.next hb, yb hb0 hb, yb hb1 hb, tabs_step fT (fun c h => by rw [hTM] at h; exact yo h), (kV f1), (kV f3)⟩)
   clear hb0 hb1 fT f1 f3 hK hb
   go_simp
   simpa [upd] using key
  ·
   have d0 := fT 0 _ (haft ⟨0, .data⟩ (by simp) rfl) (by rw [hTM]; rfl)
   have HALL := yk (ya hK (ya hB (ya hb0 ( ya hb1 ( ya fT ( ya f1 ( ya f3 (True.intro))))))))
   clear hK hb0 hb1 fT f1 f3
   go_simp
   go_at_call 91
   refine (QSg.out _ hB.1).mono ?_
   rintro en w4 ⟨rfl, hb⟩
   obtain ⟨hK, hB, hb0, hb1, fT, f1, f3, _⟩ := HALL.out
   have key := hK.out (.int .i64 sz) w4 (by rw [hGM]; exact ⟨hB.next hb, yb hb0 hb, yb hb1 hb, tabs_step fT (fun c h => by rw [hTM] at h; cases h), yu, (kV f3)⟩)
   clear hb0 hb1 fT f1 f3 hK HALL
   simpa [upd, d0] using key
  ·
   have cc0 := (box_cell (v := .bool b1) hb1 0 rfl).1
   have cc1 := (box_cell (v := .slice A1 n1 c1) hb1 1 rfl).1
   have cc2 := (box_cell (v := .int .i64 x1) hb1 2 rfl).1
   have hb := yw W
   have key := hK.out (.agg #[.bool b1, .slice A1 n1 c1, .int .i64 x1]) W (by rw [hGM]; exact ⟨hB.next hb, yb hb0 hb, yb hb1 hb, tabs_step fT (fun c h => by rw [hTM] at h; exact yo h), (kV f1), (kV f3)⟩)
   clear hb0 hb1 fT f1 f3 hK hb
   go_simp
   simpa [upd] using key
  ·
   have d2 := fT 2 _ (haft ⟨2, .data⟩ (by simp) rfl) (by rw [hTM]; rfl)
   have HALL := yk (ya hK (ya hB (ya hb0 ( ya hb1 ( ya fT ( ya f1 ( ya f3 (True.intro))))))))
   clear hK hb0 hb1 fT f1 f3
   go_simp
   go_at_call 91
   refine (sign_any' _ 0 e' _ (HV.out.below hB.1) LV.out).mono ?_
   rintro en w4 ⟨rfl, hb⟩
   obtain ⟨hK, hB, hb0, hb1, fT, f1, f3, _⟩ := HALL.out
   have key := hK.out (.int .i64 (sgnI 0)) w4 (by rw [hGM]; exact ⟨hB.next hb, yb hb0 hb, yb hb1 hb, tabs_step fT (fun c h => by rw [hTM] at h; cases h), (kV f1), yu⟩)
   clear hb0 hb1 fT f1 f3 hK HALL
   simpa [upd, d2] using key
  ·
   have d1 := f1 (haft ⟨1, .data⟩ (by simp) rfl)
   have hb := yw W
   have key := hK.out (.int .i64 sz) W (by rw [hGM]; exact ⟨hB.next hb, yb hb0 hb, yb hb1 hb, tabs_step fT (fun c h => by rw [hTM] at h; exact yo h), (kV f1), (kV f3)⟩)
   clear hb0 hb1 fT f1 f3 hK hb
   go_simp
   simpa [upd, d1] using key
  ·
   have d3 := f3 (haft ⟨3, .data⟩ (by simp) rfl)
   have hb := yw W
   have key := hK.out (.int .i64 (sgnI 0)) W (by rw [hGM]; exact ⟨hB.next hb, yb hb0 hb, yb hb1 hb, tabs_step fT (fun c h => by rw [hTM] at h; exact yo h), (kV f1), (kV f3)⟩)
   clear hb0 hb1 fT f1 f3 hK hb
   go_simp
   simpa [upd, d3] using key
 case hendM =>
  intro v W L0 hall hGv
  rw [hGM] at hGv
  obtain ⟨hB, hb0, hb1, fT, f1, f3⟩ := hGv
  have d4 := fT 4 _ (hall 4 (by decide)) (by rw [hTM]; rfl)
  have d5 := fT 5 _ (hall 5 (by decide)) (by rw [hTM]; rfl)
  replace BEL := yk hB
  clear hall hB fT f1 f3 hb0 hb1 X0 X1
  simp only [setAll, List.setIfInBounds_toArray, List.set_cons_zero, List.set_cons_succ, Nat.reduceAdd, d4, d5]
  clear d4 d5
  have hsz : sgnI 0 = 0 := rfl
  rw [hsz]
  clear hsz
  rcases hs with rfl | rfl | rfl
  all_goals (
   go_wp2
   go_ret
   exact ⟨rfl, BEL.out.1⟩)

theorem order_zero {u : Value} {z e : Int} {w : World} (h : CDy w u z e) (o : Ok z e) :
 Calls Tryz.prog 25 #[u, .int .i64 0] w fun en w' => en = .returned (.int .i64 (sgnI z)) ∧ Below w.heap.size w w' := by
 obtain ⟨b0, A, n0, c, x0, rfl⟩ := h.ex
 have HU := yk h
 have OU := yk o
 clear h o
 go_enter Tryz.func25, Tryz.ntmps25
 go_upto_region 1 with fail
 obtain ⟨BEL, X0⟩ := al1 w 1 #[.bool b0, .slice A n0 c, .int .i64 x0] 27
 obtain ⟨TM, hTM⟩ : ∃ T : List (Option Value), T = [some (.agg #[.bool b0, .slice A n0 c, .int .i64 x0]), some (.int .i64 0), none, none, some (.int .i64 (sgnI z))] := ⟨_, rfl⟩
 obtain ⟨GM, hGM⟩ : ∃ G : (Nat → Prop) → (Nat → Value) → World → Prop, G = fun L v W => BelN w 1 W ∧ W.heap[w.heap.size]? = some (.cells #[.bool b0, .slice A n0 c, .int .i64 x0] 27 (0, 0)) ∧ (∀ j c, L j → TM[j]? = some (some c) → v j = c) ∧ (L 2 → CDy W (v 2) 0 0) ∧ (L 3 → (v 3) = .int .i64 (sgnI z)) := ⟨_, rfl⟩
 refine wp_region_slotsV [5, 6, 7, 8, 4] (by kernel_rfl) (by kernel_rfl) (G := GM) ?h0M ?hstepM ?hendM
 case h0M =>
  intro v; rw [hGM]
  exact ⟨BEL.out.next (below_drew yr), blk_drew X0.out, fun _ _ h => h.elim, fun h => h.elim, fun h => h.elim⟩
 case hstepM =>
  intro k o ho v W L hGv hnk haft hcl K hK
  rw [hGM] at hGv
  obtain ⟨hB, hb0, fT, f2, f3⟩ := hGv
  rcases k with _ | _ | _ | _ | _ | k
  all_goals first
   | (cases ho; done)
   | (obtain rfl := (Option.some.inj ho).symm
      clear ho
      rw [if_pos (by rfl)]
      simp only [setAll, List.setIfInBounds_toArray, List.set_cons_zero, List.set_cons_succ, List.set_nil, List.getElem_toArray, List.getElem_cons_zero, List.getElem_cons_succ, Nat.reduceAdd] at haft hK ⊢)
  ·
   have cc0 := (box_cell (v := .bool b0) hb0 0 rfl).1
   have cc1 := (box_cell (v := .slice A n0 c) hb0 1 rfl).1
   have cc2 := (box_cell (v := .int .i64 x0) hb0 2 rfl).1
   have hb := yw W
   have key := hK.out (.agg #[.bool b0, .slice A n0 c, .int .i64 x0]) W (by rw [hGM]; exact ⟨hB.next hb, yb hb0 hb, tabs_step fT (fun c h => by rw [hTM] at h; exact yo h), (fun h => by rw [upd_ne v _ (by decide)]; exact (f2 (yx h)).below hb), (kV f3)⟩)
   clear hb0 fT f2 f3 hK hb
   go_simp
   simpa [upd] using key
  ·
   have hb := yw W
   have key := hK.out (.int .i64 0) W (by rw [hGM]; exact ⟨hB.next hb, yb hb0 hb, tabs_step fT (fun c h => by rw [hTM] at h; exact yo h), (fun h => by rw [upd_ne v _ (by decide)]; exact (f2 (yx h)).below hb), (kV f3)⟩)
   clear hb0 fT f2 f3 hK hb
   go_simp
   simpa [upd] using key
  ·
   have d1 := fT 1 _ (haft ⟨1, .data⟩ (by simp) rfl) (by rw [hTM]; rfl)
   have HALL := yk (ya hK (ya hB (ya hb0 ( ya fT ( ya f2 ( ya f3 (True.intro)))))))
   clear hK hb0 fT f2 f3
   go_simp
   go_at_call 21
   refine (dint_any 0 _ (by decide) (by decide)).mono ?_
   rintro en w4 ⟨v1, rfl, hr, hb⟩
   obtain ⟨hK, hB, hb0, fT, f2, f3, _⟩ := HALL.out
   have key := hK.out (v1) w4 (by rw [hGM]; exact ⟨hB.next hb, yb hb0 hb, tabs_step fT (fun c h => by rw [hTM] at h; cases h), fun _ => by rw [upd_eq]; exact hr.c, (kV f3)⟩)
   clear hb0 fT f2 f3 hK HALL
   simpa [upd, d1] using key
  ·
   have d0 := fT 0 _ (haft ⟨0, .data⟩ (by simp) rfl) (by rw [hTM]; rfl)
   have d2 := f2 (haft ⟨2, .data⟩ (by simp) rfl)
   have HALL := yk (ya hK (ya hB (ya hb0 ( ya fT ( ya f2 ( ya f3 (True.intro)))))))
   clear hK hb0 fT f2 f3
   go_simp
   go_at_call 55
   refine (dorder_zero (HU.out.below hB.1) d2 OU.out (ok_small (by decide) (by decide) (by decide))).mono ?_
   rintro en w4 ⟨rfl, hb⟩
   obtain ⟨hK, hB, hb0, fT, f2, f3, _⟩ := HALL.out
   have key := hK.out (.int .i64 (sgnI z)) w4 (by rw [hGM]; exact ⟨hB.next hb, yb hb0 hb, tabs_step fT (fun c h => by rw [hTM] at h; cases h), (fun h => by rw [upd_ne v _ (by decide)]; exact (f2 (yx h)).below hb), yu⟩)
   clear hb0 fT f2 f3 hK HALL
   simpa [upd, d0] using key
  ·
   have d3 := f3 (haft ⟨3, .data⟩ (by simp) rfl)
   have hb := yw W
   have key := hK.out (.int .i64 (sgnI z)) W (by rw [hGM]; exact ⟨hB.next hb, yb hb0 hb, tabs_step fT (fun c h => by rw [hTM] at h; exact yo h), (fun h => by rw [upd_ne v _ (by decide)]; exact (f2 (yx h)).below hb), (kV f3)⟩)
   clear hb0 fT f2 f3 hK hb
   go_simp
   simpa [upd, d3] using key
 case hendM =>
  intro v W L0 hall hGv
  rw [hGM] at hGv
  obtain ⟨hB, hb0, fT, f2, f3⟩ := hGv
  have d4 := fT 4 _ (hall 4 (by decide)) (by rw [hTM]; rfl)
  replace BEL := yk hB
  clear hall hB fT f2 f3 hb0 X0
  simp only [setAll, List.setIfInBounds_toArray, List.set_cons_zero, List.set_cons_succ, Nat.reduceAdd, d4]
  clear d4
  go_wp2
  go_ret
  exact ⟨rfl, BEL.out.1⟩
theorem ang_lit (p : Int) (m : Nat) (e : Int) (hm : m = 1 ∨ m = 3) : limbs (cman (sgn (cneg p) m)) = [m] ∧ cexp (sgn (cneg p) m) e = e ∧ cneg (sgn (cneg p) m) = cneg p := by
 have c1 : cman 1 = 1 := cman_one
 have c3 : cman 3 = 3 := by kernel_rfl
 have key : ∀ m : Nat, m % 2 = 1 → cman (m : Int) = m → limbs m = [m] → limbs (cman (sgn (cneg p) m)) = [m] ∧ cexp (sgn (cneg p) m) e = e ∧ cneg (sgn (cneg p) m) = cneg p := by
  intro m ho hc hl
  have ha : (sgn (cneg p) m).natAbs = m := sgn_abs _ _
  refine ⟨?_, ?_, ?_⟩
  · unfold cman at hc ⊢
    rw [ha]
    rw [Int.natAbs_natCast] at hc
    rw [hc]; exact hl
  · unfold cexp
    rw [ha, tz_odd ho]
    split <;> rename_i h0
    · exfalso; rw [h0] at ha; simp at ha; omega
    · simp
  · cases hb : cneg p with
    | false => unfold cneg; exact decide_eq_false (by show ¬ ((m : Int) < 0); omega)
    | true => unfold cneg; exact decide_eq_true (by show -(m : Int) < 0; omega)
 rcases hm with rfl | rfl
 · exact key 1 rfl c1 (limbs_one (by decide) (by decide))
 · exact key 3 rfl c3 (limbs_one (by decide) (by decide))
theorem sgn_p {p : Int} (h : p ≠ 0) (m : Nat) : sgn (cneg p) m = m * sgnI p := by
 unfold sgnI cneg
 by_cases h1 : p < 0
 · rw [decide_eq_true h1]
   show -(m : Int) = _
   repeat' split
   all_goals omega
 · rw [decide_eq_false h1]
   show (m : Int) = _
   repeat' split
   all_goals omega
theorem RDy.lit {w : World} {b0 g m : Nat} {e p : Int} {bb : Bool} (h : kU.R 23 w b0 (fun _ => True) (.slice (some ⟨g, 0, none⟩) 1 1) [m]) (hm : m = 1 ∨ m = 3) (hb : bb = cneg p) :
 RDy w b0 (.agg #[.bool bb, .slice (some ⟨g, 0, none⟩) 1 1, .int .i64 e]) (sgn (cneg p) m) e := by
 obtain ⟨l1, l2, l3⟩ := ang_lit p m e hm
 exact ⟨_, 1, 1, by rw [l2, l3, hb], by rw [l1]; exact h⟩
/-- The document's case of a point. -/
def docF (f : Nat) (p q : Int) (eqA : Bool) : Option (Int × Int) :=
 if f = 33 then (if p = 0 ∧ 0 < q then some (0, 0) else none)
 else if p = 0 ∧ 0 < q then some (0, 0) else if p = 0 then some (1, 0) else if q = 0 then some (sgn (cneg p) 1, -1)
 else if eqA = false then none else if 0 < q then some (sgn (cneg p) 1, -2) else some (sgn (cneg p) 3, -2)
theorem docF_ang (f : Nat) (p q : Int) : docF f p q (decide ((p.natAbs : Int) = q.natAbs)) = angF f p q := by
 unfold docF angF
 by_cases h3 : p = 0
 · by_cases h5 : 0 < q <;> by_cases h2 : f = 33 <;> simp only [h3, h5, h2, true_and, and_self, and_false, if_true, if_false]
 · have e1 := sgn_p h3 1
   have e3 := sgn_p h3 3
   have e1' : ((1 : Nat) : Int) * sgnI p = sgnI p := by rw [Int.natCast_one, Int.one_mul]
   have e3' : ((3 : Nat) : Int) * sgnI p = 3 * sgnI p := rfl
   rw [e1'] at e1
   rw [e3'] at e3
   simp only [e1, e3, h3, false_and, if_false]
   by_cases h2 : f = 33
   · simp only [h2, if_true]
   · by_cases hq : q = 0
     · simp only [h2, hq, if_false, if_true]; rfl
     · by_cases ha : (p.natAbs : Int) = q.natAbs
       · rw [decide_eq_true ha]
         by_cases h5 : 0 < q
         · simp only [h2, hq, ha, h5, if_false, if_true, not_true, reduceCtorEq]; rfl
         · simp only [h2, hq, ha, h5, if_false, if_true, not_true, reduceCtorEq]; rfl
       · rw [decide_eq_false ha]
         simp only [h2, hq, ha, if_false, if_true, not_false_eq_true]

theorem dexact2_any (f y x : Nat) (hf : f < 256) (hy : y < 18446744073709551616) (hx : x < 18446744073709551616) (w : World) (hT : TabAt 0 Lib.deBruijn64tab w) :
 Calls Tryz.prog 29 #[.int .u8 f, .int .u64 (y : Int), .int .u64 (x : Int)] w fun en w' => ∃ v', en = .returned (.tuple #[v', .bool (exO2 f y x).isSome, .int .i64 (exE2 f y x)]) ∧ RDy w' w.heap.size v' ((exO2 f y x).getD (0, 0)).1 ((exO2 f y x).getD (0, 0)).2 ∧ Below w.heap.size w w' := by
 have HF := yk hf
 have QFy := yk (fun (W : World) => dfrom_any y hy W)
 have QFx := yk (fun (W : World) => dfrom_any x hx W)
 have QIs := yk (fun (W : World) => dis2_one f hf W)
 have HE := yk (show exE2 f y x = if is2F f = true then (if (!finB y || !finB x || (decide (fromV y = 0) && decide (fromV x = 0))) = true then 5 else 0) else 2 from rfl)
 have HO := yk (show exO2 f y x = if is2F f = true ∧ (!finB y || !finB x || (decide (fromV y = 0) && decide (fromV x = 0))) = false then docF f (fromV y) (fromV x) (decide (((fromV y).natAbs : Int) = (fromV x).natAbs)) else none from by rw [docF_ang]; rfl)
 have HZY := yk (ok_z (fromV_small y))
 have HZX := yk (ok_z (fromV_small x))
 have HAB := yk (fun (h1 : finB y = true) (h2 : finB x = true) => (by
  unfold fromV; rw [if_pos h1, if_pos h2]; exact abs_iff : ((fromV y).natAbs : Int) = (fromV x).natAbs ↔ x % 9223372036854775808 = y % 9223372036854775808))
 obtain ⟨eo, heo⟩ : ∃ o, o = exO2 f y x := ⟨_, rfl⟩
 obtain ⟨ee, hee⟩ : ∃ o, o = exE2 f y x := ⟨_, rfl⟩
 rw [← heo] at HO ⊢
 rw [← hee] at HE ⊢
 clear hf hx hy heo hee
 generalize fromV y = p at *
 generalize fromV x = q at *
 generalize is2F f = isf at *
 generalize finB x = finx at *
 generalize finB y = finy at *
 go_enter Tryz.func29, Tryz.ntmps29
 obtain ⟨BEL, XR⟩ := al1 w 1 #[.bool false, .slice none 0 0, .int .i64 0] 27
 go_wp2_with fail
 go_at_call 12
 refine (QIs.out _).mono ?_
 rintro en1 w1 ⟨rfl, hb⟩
 replace BEL := yk (BEL.out.next hb)
 replace XR := yk (yb XR.out hb)
 clear hb
 cases isf
 case false =>
  have HEE : Aside0 (ee = 2) := ⟨by rw [HE.out]; rfl⟩
  have HOO : Aside0 (eo = none) := ⟨by rw [HO.out, if_neg (fun h => by cases h.1)]⟩
  go_wp2_with (((with_reducible refine gate_store (p := 6) rfl ?_); go_must (refine sdy 6 (.tmp 16) rfl rfl rfl rfl rfl XR.out rfl ?_; intro wb HX HG)); replace BEL := yk (BEL.out.grown HG.out (by omega)); replace XR := HX; clear HG)
  refine bodyPost_ret (results_list (rs := [.cell 6 27, .tmp 7, .tmp 8]) rfl (by simp) (Vals.box any_dyad info_dyad (g := w.heap.size) rfl XR.out rfl (.tmp (.tmp .nil)))) rfl ?_
  rw [HEE.out, HOO.out]
  exact ⟨_, rfl, RDy.zero _ _ _, BEL.out.1⟩
 case true =>
  go_wp2_with fail
  go_at_call 19
  refine (QFy.out _).mono ?_
  rintro en2 w2 ⟨v2, rfl, hr, hb⟩
  replace BEL := yk (BEL.out.next hb)
  replace XR := yk (yb XR.out hb)
  have PY := yk hr
  obtain ⟨b2, A2, n2, c2, x2, rfl⟩ := hr.ex
  clear hr hb
  have BELo := BEL
  go_wp2_with (replace BEL := yk ((BEL.out.alloc (.cells #[.bool false, .slice none 0 0, .int .i64 0] 27)).less (j := 1) (by omega)); have HN := yk (blk_new w2 (.cells #[.bool false, .slice none 0 0, .int .i64 0] 27)); have L_XR := lt_blk XR.out; replace XR := yk (blk_alloc XR.out (.cells #[.bool false, .slice none 0 0, .int .i64 0] 27)); replace PY := yk (PY.out.below (below_alloc yr (.cells #[.bool false, .slice none 0 0, .int .i64 0] 27))); ((with_reducible refine gate_store (p := 9) rfl ?_); go_must (refine sdy 9 (.tmp 20) rfl rfl rfl rfl rfl HN.out rfl ?_; intro wb HX HG)); replace PY := yk (PY.out.grown_box HN.out (by decide) HG.out); have LB_XY := BELo.out.2; replace BEL := yk (BEL.out.grown HG.out (Nat.le_trans (Nat.le_add_right _ _) LB_XY)); replace XR := yk (blk_grown XR.out HG.out (Nat.ne_of_lt L_XR)); have NE_XR_XY := yk (Nat.ne_of_lt L_XR); clear L_XR; have LL_XY := yk LB_XY; clear LB_XY; have XY := HX; clear HG HN HX)
  go_at_call 19
  refine (QFx.out _).mono ?_
  rintro en3 w3 ⟨v3, rfl, hr, hb⟩
  replace BEL := yk (BEL.out.next hb)
  replace XR := yk (yb XR.out hb)
  replace XY := yk (yb XY.out hb)
  replace PY := yk (PY.out.below hb)
  have PX := yk hr
  obtain ⟨b3, A3, n3, c3, x3, rfl⟩ := hr.ex
  clear hr hb
  have he0 : errB true = 0 := rfl
  have he5 : errB false = 5 := rfl
  cases finy
  case false =>
   have HEE : Aside0 (ee = 5) := ⟨by rw [HE.out]; rfl⟩
   have HOO : Aside0 (eo = none) := ⟨by rw [HO.out, if_neg (fun h => by have := h.2; cases this)]⟩
   have BELo := BEL
   go_wp2_with (first | (replace BEL := yk ((BEL.out.alloc (.cells #[.bool false, .slice none 0 0, .int .i64 0] 27)).less (j := 1) (by omega)); have HN := yk (blk_new w3 (.cells #[.bool false, .slice none 0 0, .int .i64 0] 27)); have L_XR := lt_blk XR.out; replace XR := yk (blk_alloc XR.out (.cells #[.bool false, .slice none 0 0, .int .i64 0] 27)); have L_XY := lt_blk XY.out; replace XY := yk (blk_alloc XY.out (.cells #[.bool false, .slice none 0 0, .int .i64 0] 27)); replace PY := yk (PY.out.below (below_alloc yr (.cells #[.bool false, .slice none 0 0, .int .i64 0] 27))); replace PX := yk (PX.out.below (below_alloc yr (.cells #[.bool false, .slice none 0 0, .int .i64 0] 27))); ((with_reducible refine gate_store (p := 11) rfl ?_); go_must (refine sdy 11 (.tmp 25) rfl rfl rfl rfl rfl HN.out rfl ?_; intro wb HX HG)); replace PY := yk (PY.out.grown_box HN.out (by decide) HG.out); replace PX := yk (PX.out.grown_box HN.out (by decide) HG.out); have LB_XX := BELo.out.2; replace BEL := yk (BEL.out.grown HG.out (Nat.le_trans (Nat.le_add_right _ _) LB_XX)); replace XR := yk (blk_grown XR.out HG.out (Nat.ne_of_lt L_XR)); replace XY := yk (blk_grown XY.out HG.out (Nat.ne_of_lt L_XY)); have NE_XR_XX := yk (Nat.ne_of_lt L_XR); have NE_XY_XX := yk (Nat.ne_of_lt L_XY); clear L_XR; clear L_XY; have LL_XX := yk LB_XX; clear LB_XX; have XX := HX; clear HG HN HX) | (((with_reducible refine gate_store (p := 6) rfl ?_); go_must (refine sdy 6 (.tmp 41) rfl rfl rfl rfl rfl XR.out rfl ?_; intro wb HX HG)); replace PY := yk (PY.out.grown_box XR.out (by decide) HG.out); replace PX := yk (PX.out.grown_box XR.out (by decide) HG.out); replace BEL := yk (BEL.out.grown HG.out (by omega)); replace XY := yk (blk_grown XY.out HG.out (Ne.symm NE_XR_XY.out)); replace XX := yk (blk_grown XX.out HG.out (Ne.symm NE_XR_XX.out)); replace XR := HX; clear HG))
   refine bodyPost_ret (results_list (rs := [.cell 6 27, .tmp 7, .tmp 8]) rfl (by simp) (Vals.box any_dyad info_dyad (g := w.heap.size) rfl XR.out rfl (.tmp (.tmp .nil)))) rfl ?_
   rw [HEE.out, HOO.out]
   exact ⟨_, rfl, RDy.zero _ _ _, BEL.out.1⟩
  case true =>
   cases finx
   case false =>
    have HEE : Aside0 (ee = 5) := ⟨by rw [HE.out]; rfl⟩
    have HOO : Aside0 (eo = none) := ⟨by rw [HO.out, if_neg (fun h => by have := h.2; cases this)]⟩
    have BELo := BEL
    go_wp2_with (first | (replace BEL := yk ((BEL.out.alloc (.cells #[.bool false, .slice none 0 0, .int .i64 0] 27)).less (j := 1) (by omega)); have HN := yk (blk_new w3 (.cells #[.bool false, .slice none 0 0, .int .i64 0] 27)); have L_XR := lt_blk XR.out; replace XR := yk (blk_alloc XR.out (.cells #[.bool false, .slice none 0 0, .int .i64 0] 27)); have L_XY := lt_blk XY.out; replace XY := yk (blk_alloc XY.out (.cells #[.bool false, .slice none 0 0, .int .i64 0] 27)); replace PY := yk (PY.out.below (below_alloc yr (.cells #[.bool false, .slice none 0 0, .int .i64 0] 27))); replace PX := yk (PX.out.below (below_alloc yr (.cells #[.bool false, .slice none 0 0, .int .i64 0] 27))); ((with_reducible refine gate_store (p := 11) rfl ?_); go_must (refine sdy 11 (.tmp 25) rfl rfl rfl rfl rfl HN.out rfl ?_; intro wb HX HG)); replace PY := yk (PY.out.grown_box HN.out (by decide) HG.out); replace PX := yk (PX.out.grown_box HN.out (by decide) HG.out); have LB_XX := BELo.out.2; replace BEL := yk (BEL.out.grown HG.out (Nat.le_trans (Nat.le_add_right _ _) LB_XX)); replace XR := yk (blk_grown XR.out HG.out (Nat.ne_of_lt L_XR)); replace XY := yk (blk_grown XY.out HG.out (Nat.ne_of_lt L_XY)); have NE_XR_XX := yk (Nat.ne_of_lt L_XR); have NE_XY_XX := yk (Nat.ne_of_lt L_XY); clear L_XR; clear L_XY; have LL_XX := yk LB_XX; clear LB_XX; have XX := HX; clear HG HN HX) | (((with_reducible refine gate_store (p := 6) rfl ?_); go_must (refine sdy 6 (.tmp 41) rfl rfl rfl rfl rfl XR.out rfl ?_; intro wb HX HG)); replace PY := yk (PY.out.grown_box XR.out (by decide) HG.out); replace PX := yk (PX.out.grown_box XR.out (by decide) HG.out); replace BEL := yk (BEL.out.grown HG.out (by omega)); replace XY := yk (blk_grown XY.out HG.out (Ne.symm NE_XR_XY.out)); replace XX := yk (blk_grown XX.out HG.out (Ne.symm NE_XR_XX.out)); replace XR := HX; clear HG))
    refine bodyPost_ret (results_list (rs := [.cell 6 27, .tmp 7, .tmp 8]) rfl (by simp) (Vals.box any_dyad info_dyad (g := w.heap.size) rfl XR.out rfl (.tmp (.tmp .nil)))) rfl ?_
    rw [HEE.out, HOO.out]
    exact ⟨_, rfl, RDy.zero _ _ _, BEL.out.1⟩
   case true =>
    have HAA := yk (HAB.out (by simp) (by simp))
    obtain ⟨q0, q0', q1, q1', q2, q2'⟩ := bc3 XY.out
    have BELo := BEL
    go_wp2_with (clear q0 q0' q1 q1' q2 q2'; replace BEL := yk ((BEL.out.alloc (.cells #[.bool false, .slice none 0 0, .int .i64 0] 27)).less (j := 1) (by omega)); have HN := yk (blk_new w3 (.cells #[.bool false, .slice none 0 0, .int .i64 0] 27)); have L_XR := lt_blk XR.out; replace XR := yk (blk_alloc XR.out (.cells #[.bool false, .slice none 0 0, .int .i64 0] 27)); have L_XY := lt_blk XY.out; replace XY := yk (blk_alloc XY.out (.cells #[.bool false, .slice none 0 0, .int .i64 0] 27)); replace PY := yk (PY.out.below (below_alloc yr (.cells #[.bool false, .slice none 0 0, .int .i64 0] 27))); replace PX := yk (PX.out.below (below_alloc yr (.cells #[.bool false, .slice none 0 0, .int .i64 0] 27))); ((with_reducible refine gate_store (p := 11) rfl ?_); go_must (refine sdy 11 (.tmp 25) rfl rfl rfl rfl rfl HN.out rfl ?_; intro wb HX HG)); replace PY := yk (PY.out.grown_box HN.out (by decide) HG.out); replace PX := yk (PX.out.grown_box HN.out (by decide) HG.out); have LB_XX := BELo.out.2; replace BEL := yk (BEL.out.grown HG.out (Nat.le_trans (Nat.le_add_right _ _) LB_XX)); replace XR := yk (blk_grown XR.out HG.out (Nat.ne_of_lt L_XR)); replace XY := yk (blk_grown XY.out HG.out (Nat.ne_of_lt L_XY)); have NE_XR_XX := yk (Nat.ne_of_lt L_XR); have NE_XY_XX := yk (Nat.ne_of_lt L_XY); clear L_XR; clear L_XY; have LL_XX := yk LB_XX; clear LB_XX; have XX := HX; clear HG HN HX; obtain ⟨q3, q3', q4, q4', q5, q5'⟩ := bc3 XY.out)
    clear q3 q3' q4 q4' q5 q5'
    go_at_call 44
    refine (zero_any _ p (-1074) _ PY.out.c HZY.out.len30).mono ?_
    rintro en4 w4 ⟨rfl, hb⟩
    replace BEL := yk (BEL.out.next hb)
    replace XR := yk (yb XR.out hb)
    replace XY := yk (yb XY.out hb)
    replace XX := yk (yb XX.out hb)
    replace PY := yk (PY.out.below hb)
    replace PX := yk (PX.out.below hb)
    clear hb
    by_cases hp : p = 0
    case pos =>
     have hd : decide (p = 0) = true := decide_eq_true hp
     have HP0 := yk hp
     clear hp
     obtain ⟨q6, q6', q7, q7', q8, q8'⟩ := bc3 XX.out
     go_wp2_with fail
     clear q6 q6' q7 q7' q8 q8'
     go_at_call 44
     refine (zero_any _ q (-1074) _ PX.out.c HZX.out.len30).mono ?_
     rintro en5 w5 ⟨rfl, hb⟩
     replace BEL := yk (BEL.out.next hb)
     replace XR := yk (yb XR.out hb)
     replace XY := yk (yb XY.out hb)
     replace XX := yk (yb XX.out hb)
     replace PY := yk (PY.out.below hb)
     replace PX := yk (PX.out.below hb)
     clear hb
     by_cases hq : q = 0
     case pos =>
      have hdq : decide (q = 0) = true := decide_eq_true hq
      have HEE : Aside0 (ee = 5) := ⟨by rw [HE.out]; rw [hd, hdq]; rfl⟩
      have HOO : Aside0 (eo = none) := ⟨by rw [HO.out, if_neg (fun h => by have := h.2; rw [hd, hdq] at this; cases this)]⟩
      clear hq
      go_wp2_with (((with_reducible refine gate_store (p := 6) rfl ?_); go_must (refine sdy 6 (.tmp 41) rfl rfl rfl rfl rfl XR.out rfl ?_; intro wb HX HG)); replace PY := yk (PY.out.grown_box XR.out (by decide) HG.out); replace PX := yk (PX.out.grown_box XR.out (by decide) HG.out); replace BEL := yk (BEL.out.grown HG.out (by omega)); replace XY := yk (blk_grown XY.out HG.out (Ne.symm NE_XR_XY.out)); replace XX := yk (blk_grown XX.out HG.out (Ne.symm NE_XR_XX.out)); replace XR := HX; clear HG)
      refine bodyPost_ret (results_list (rs := [.cell 6 27, .tmp 7, .tmp 8]) rfl (by simp) (Vals.box any_dyad info_dyad (g := w.heap.size) rfl XR.out rfl (.tmp (.tmp .nil)))) rfl ?_
      rw [HEE.out, HOO.out]
      exact ⟨_, rfl, RDy.zero _ _ _, BEL.out.1⟩
     case neg =>
      have hdq : decide (q = 0) = false := decide_eq_false hq
      have HEE : Aside0 (ee = 0) := ⟨by rw [HE.out, hd, hdq]; rfl⟩
      have HO2 := yk (show eo = docF f p q (decide ((p.natAbs : Int) = q.natAbs)) from by rw [HO.out, if_pos (by rw [hd, hdq]; simp)])
      have HQ0 := yk hq
      have hsg := yk (sgn_pos q)
      clear hq
      by_cases hf3 : f = 33
      case pos =>
       have hff : ((f : Int) == 33) = true := by simp; omega
       by_cases hq1 : 0 < q
       case pos =>
        have hs : decide (0 < sgnI q) = true := by rw [hsg.out]; exact decide_eq_true hq1
        have HOO : Aside0 (eo = some (0, 0)) := ⟨by rw [HO2.out]; unfold docF; rw [if_pos hf3, if_pos ⟨HP0.out, hq1⟩]⟩
        clear hf3 hq1
        obtain ⟨q9, q9', q10, q10', q11, q11'⟩ := bc3 XY.out
        obtain ⟨q12, q12', q13, q13', q14, q14'⟩ := bc3 XX.out
        go_wp2_with fail
        clear q9 q9' q10 q10' q11 q11' q12 q12' q13 q13' q14 q14'
        go_at_call 44
        refine (zero_any _ p (-1074) _ PY.out.c HZY.out.len30).mono ?_
        rintro en6 w6 ⟨rfl, hb⟩
        replace BEL := yk (BEL.out.next hb)
        replace XR := yk (yb XR.out hb)
        replace XY := yk (yb XY.out hb)
        replace XX := yk (yb XX.out hb)
        replace PY := yk (PY.out.below hb)
        replace PX := yk (PX.out.below hb)
        clear hb
        obtain ⟨q15, q15', q16, q16', q17, q17'⟩ := bc3 XX.out
        go_wp2_with fail
        clear q15 q15' q16 q16' q17 q17'
        go_at_call 25
        refine (order_zero PX.out.c HZX.out).mono ?_
        rintro en7 w7 ⟨rfl, hb⟩
        replace BEL := yk (BEL.out.next hb)
        replace XR := yk (yb XR.out hb)
        replace XY := yk (yb XY.out hb)
        replace XX := yk (yb XX.out hb)
        replace PY := yk (PY.out.below hb)
        replace PX := yk (PX.out.below hb)
        clear hb
        go_wp2_with (((with_reducible refine gate_store (p := 6) rfl ?_); go_must (refine sdy 6 (.tmp 44) rfl rfl rfl rfl rfl XR.out rfl ?_; intro wb HX HG)); replace PY := yk (PY.out.grown_box XR.out (by decide) HG.out); replace PX := yk (PX.out.grown_box XR.out (by decide) HG.out); replace BEL := yk (BEL.out.grown HG.out (by omega)); replace XY := yk (blk_grown XY.out HG.out (Ne.symm NE_XR_XY.out)); replace XX := yk (blk_grown XX.out HG.out (Ne.symm NE_XR_XX.out)); replace XR := HX; clear HG)
        refine bodyPost_ret (results_list (rs := [.cell 6 27, .tmp 7, .tmp 8]) rfl (by simp) (Vals.box any_dyad info_dyad (g := w.heap.size) rfl XR.out rfl (.tmp (.tmp .nil)))) rfl ?_
        rw [HEE.out, HOO.out]
        exact ⟨_, rfl, RDy.zero _ _ _, BEL.out.1⟩
       case neg =>
        have hs : decide (0 < sgnI q) = false := by rw [hsg.out]; exact decide_eq_false hq1
        have HOO : Aside0 (eo = none) := ⟨by rw [HO2.out]; unfold docF; rw [if_pos hf3, if_neg (fun h => hq1 h.2)]⟩
        clear hf3 hq1
        obtain ⟨q9, q9', q10, q10', q11, q11'⟩ := bc3 XY.out
        obtain ⟨q12, q12', q13, q13', q14, q14'⟩ := bc3 XX.out
        go_wp2_with fail
        clear q9 q9' q10 q10' q11 q11' q12 q12' q13 q13' q14 q14'
        go_at_call 44
        refine (zero_any _ p (-1074) _ PY.out.c HZY.out.len30).mono ?_
        rintro en6 w6 ⟨rfl, hb⟩
        replace BEL := yk (BEL.out.next hb)
        replace XR := yk (yb XR.out hb)
        replace XY := yk (yb XY.out hb)
        replace XX := yk (yb XX.out hb)
        replace PY := yk (PY.out.below hb)
        replace PX := yk (PX.out.below hb)
        clear hb
        obtain ⟨q15, q15', q16, q16', q17, q17'⟩ := bc3 XX.out
        go_wp2_with fail
        clear q15 q15' q16 q16' q17 q17'
        go_at_call 25
        refine (order_zero PX.out.c HZX.out).mono ?_
        rintro en7 w7 ⟨rfl, hb⟩
        replace BEL := yk (BEL.out.next hb)
        replace XR := yk (yb XR.out hb)
        replace XY := yk (yb XY.out hb)
        replace XX := yk (yb XX.out hb)
        replace PY := yk (PY.out.below hb)
        replace PX := yk (PX.out.below hb)
        clear hb
        go_wp2_with (((with_reducible refine gate_store (p := 6) rfl ?_); go_must (refine sdy 6 (.tmp 44) rfl rfl rfl rfl rfl XR.out rfl ?_; intro wb HX HG)); replace PY := yk (PY.out.grown_box XR.out (by decide) HG.out); replace PX := yk (PX.out.grown_box XR.out (by decide) HG.out); replace BEL := yk (BEL.out.grown HG.out (by omega)); replace XY := yk (blk_grown XY.out HG.out (Ne.symm NE_XR_XY.out)); replace XX := yk (blk_grown XX.out HG.out (Ne.symm NE_XR_XX.out)); replace XR := HX; clear HG)
        refine bodyPost_ret (results_list (rs := [.cell 6 27, .tmp 7, .tmp 8]) rfl (by simp) (Vals.box any_dyad info_dyad (g := w.heap.size) rfl XR.out rfl (.tmp (.tmp .nil)))) rfl ?_
        rw [HEE.out, HOO.out]
        exact ⟨_, rfl, RDy.zero _ _ _, BEL.out.1⟩
      case neg =>
       have hff : ((f : Int) == 33) = false := by simp; omega
       by_cases hq1 : 0 < q
       case pos =>
        have hs : decide (0 < sgnI q) = true := by rw [hsg.out]; exact decide_eq_true hq1
        have HOO : Aside0 (eo = some (0, 0)) := ⟨by rw [HO2.out]; unfold docF; rw [if_neg hf3, if_pos ⟨HP0.out, hq1⟩]⟩
        clear hf3 hq1
        obtain ⟨q9, q9', q10, q10', q11, q11'⟩ := bc3 XY.out
        obtain ⟨q12, q12', q13, q13', q14, q14'⟩ := bc3 XX.out
        go_wp2_with fail
        clear q9 q9' q10 q10' q11 q11' q12 q12' q13 q13' q14 q14'
        go_at_call 44
        refine (zero_any _ p (-1074) _ PY.out.c HZY.out.len30).mono ?_
        rintro en6 w6 ⟨rfl, hb⟩
        replace BEL := yk (BEL.out.next hb)
        replace XR := yk (yb XR.out hb)
        replace XY := yk (yb XY.out hb)
        replace XX := yk (yb XX.out hb)
        replace PY := yk (PY.out.below hb)
        replace PX := yk (PX.out.below hb)
        clear hb
        obtain ⟨q15, q15', q16, q16', q17, q17'⟩ := bc3 XX.out
        go_wp2_with fail
        clear q15 q15' q16 q16' q17 q17'
        go_at_call 25
        refine (order_zero PX.out.c HZX.out).mono ?_
        rintro en7 w7 ⟨rfl, hb⟩
        replace BEL := yk (BEL.out.next hb)
        replace XR := yk (yb XR.out hb)
        replace XY := yk (yb XY.out hb)
        replace XX := yk (yb XX.out hb)
        replace PY := yk (PY.out.below hb)
        replace PX := yk (PX.out.below hb)
        clear hb
        go_wp2_with (((with_reducible refine gate_store (p := 6) rfl ?_); go_must (refine sdy 6 (.tmp 60) rfl rfl rfl rfl rfl XR.out rfl ?_; intro wb HX HG)); replace PY := yk (PY.out.grown_box XR.out (by decide) HG.out); replace PX := yk (PX.out.grown_box XR.out (by decide) HG.out); replace BEL := yk (BEL.out.grown HG.out (by omega)); replace XY := yk (blk_grown XY.out HG.out (Ne.symm NE_XR_XY.out)); replace XX := yk (blk_grown XX.out HG.out (Ne.symm NE_XR_XX.out)); replace XR := HX; clear HG)
        refine bodyPost_ret (results_list (rs := [.cell 6 27, .tmp 7, .tmp 8]) rfl (by simp) (Vals.box any_dyad info_dyad (g := w.heap.size) rfl XR.out rfl (.tmp (.tmp .nil)))) rfl ?_
        rw [HEE.out, HOO.out]
        exact ⟨_, rfl, RDy.zero _ _ _, BEL.out.1⟩
       case neg =>
        have hs : decide (0 < sgnI q) = false := by rw [hsg.out]; exact decide_eq_false hq1
        have HOO : Aside0 (eo = some (1, 0)) := ⟨by rw [HO2.out]; unfold docF; rw [if_neg hf3, if_neg (fun h => hq1 h.2), if_pos HP0.out]⟩
        clear hf3 hq1
        obtain ⟨q9, q9', q10, q10', q11, q11'⟩ := bc3 XY.out
        obtain ⟨q12, q12', q13, q13', q14, q14'⟩ := bc3 XX.out
        go_wp2_with fail
        clear q9 q9' q10 q10' q11 q11' q12 q12' q13 q13' q14 q14'
        go_at_call 44
        refine (zero_any _ p (-1074) _ PY.out.c HZY.out.len30).mono ?_
        rintro en6 w6 ⟨rfl, hb⟩
        replace BEL := yk (BEL.out.next hb)
        replace XR := yk (yb XR.out hb)
        replace XY := yk (yb XY.out hb)
        replace XX := yk (yb XX.out hb)
        replace PY := yk (PY.out.below hb)
        replace PX := yk (PX.out.below hb)
        clear hb
        obtain ⟨q15, q15', q16, q16', q17, q17'⟩ := bc3 XX.out
        go_wp2_with fail
        clear q15 q15' q16 q16' q17 q17'
        go_at_call 25
        refine (order_zero PX.out.c HZX.out).mono ?_
        rintro en7 w7 ⟨rfl, hb⟩
        replace BEL := yk (BEL.out.next hb)
        replace XR := yk (yb XR.out hb)
        replace XY := yk (yb XY.out hb)
        replace XX := yk (yb XX.out hb)
        replace PY := yk (PY.out.below hb)
        replace PX := yk (PX.out.below hb)
        clear hb
        obtain ⟨q18, q18', q19, q19', q20, q20'⟩ := bc3 XY.out
        go_wp2_with fail
        clear q18 q18' q19 q19' q20 q20'
        go_at_call 44
        refine (zero_any _ p (-1074) _ PY.out.c HZY.out.len30).mono ?_
        rintro en8 w8 ⟨rfl, hb⟩
        replace BEL := yk (BEL.out.next hb)
        replace XR := yk (yb XR.out hb)
        replace XY := yk (yb XY.out hb)
        replace XX := yk (yb XX.out hb)
        replace PY := yk (PY.out.below hb)
        replace PX := yk (PX.out.below hb)
        clear hb
        go_wp2_with fail
        have BLI := BEL
        go_at_call 21
        refine (dint_any 1 _ (by decide) (by decide)).mono ?_
        rintro en9 w9 ⟨v9, rfl, hr, hb⟩
        replace BEL := yk (BEL.out.next hb)
        replace XR := yk (yb XR.out hb)
        replace XY := yk (yb XY.out hb)
        replace XX := yk (yb XX.out hb)
        replace PY := yk (PY.out.below hb)
        replace PX := yk (PX.out.below hb)
        have PI := yk hr
        obtain ⟨b9, A9, n9, c9, x9, rfl⟩ := hr.ex
        clear hr hb
        go_wp2_with (((with_reducible refine gate_store (p := 6) rfl ?_); go_must (refine sdy 6 (.tmp 64) rfl rfl rfl rfl rfl XR.out rfl ?_; intro wb HX HG)); replace PY := yk (PY.out.grown_box XR.out (by decide) HG.out); replace PX := yk (PX.out.grown_box XR.out (by decide) HG.out); replace PI := yk (PI.out.grown_box XR.out (by decide) HG.out); replace BEL := yk (BEL.out.grown HG.out (by omega)); replace XY := yk (blk_grown XY.out HG.out (Ne.symm NE_XR_XY.out)); replace XX := yk (blk_grown XX.out HG.out (Ne.symm NE_XR_XX.out)); replace XR := HX; clear HG)
        refine bodyPost_ret (results_list (rs := [.cell 6 27, .tmp 7, .tmp 8]) rfl (by simp) (Vals.box any_dyad info_dyad (g := w.heap.size) rfl XR.out rfl (.tmp (.tmp .nil)))) rfl ?_
        rw [HEE.out, HOO.out]
        exact ⟨_, rfl, PI.out.lower BLI.out.1.size, BEL.out.1⟩
    case neg =>
     have hd : decide (p = 0) = false := decide_eq_false hp
     have HEE : Aside0 (ee = 0) := ⟨by rw [HE.out, hd]; rfl⟩
     have HO2 := yk (show eo = docF f p q (decide ((p.natAbs : Int) = q.natAbs)) from by rw [HO.out, if_pos (by rw [hd]; simp)])
     have HP0 := yk hp
     have hsg := yk (sgn_pos q)
     clear hp
     by_cases hf3 : f = 33
     case pos =>
      have hff : ((f : Int) == 33) = true := by simp; omega
      have HOO : Aside0 (eo = none) := ⟨by rw [HO2.out]; unfold docF; rw [if_pos hf3, if_neg (fun h => HP0.out h.1)]⟩
      clear hf3
      obtain ⟨q6, q6', q7, q7', q8, q8'⟩ := bc3 XY.out
      go_wp2_with fail
      clear q6 q6' q7 q7' q8 q8'
      go_at_call 44
      refine (zero_any _ p (-1074) _ PY.out.c HZY.out.len30).mono ?_
      rintro en5 w5 ⟨rfl, hb⟩
      replace BEL := yk (BEL.out.next hb)
      replace XR := yk (yb XR.out hb)
      replace XY := yk (yb XY.out hb)
      replace XX := yk (yb XX.out hb)
      replace PY := yk (PY.out.below hb)
      replace PX := yk (PX.out.below hb)
      clear hb
      go_wp2_with (((with_reducible refine gate_store (p := 6) rfl ?_); go_must (refine sdy 6 (.tmp 44) rfl rfl rfl rfl rfl XR.out rfl ?_; intro wb HX HG)); replace PY := yk (PY.out.grown_box XR.out (by decide) HG.out); replace PX := yk (PX.out.grown_box XR.out (by decide) HG.out); replace BEL := yk (BEL.out.grown HG.out (by omega)); replace XY := yk (blk_grown XY.out HG.out (Ne.symm NE_XR_XY.out)); replace XX := yk (blk_grown XX.out HG.out (Ne.symm NE_XR_XX.out)); replace XR := HX; clear HG)
      refine bodyPost_ret (results_list (rs := [.cell 6 27, .tmp 7, .tmp 8]) rfl (by simp) (Vals.box any_dyad info_dyad (g := w.heap.size) rfl XR.out rfl (.tmp (.tmp .nil)))) rfl ?_
      rw [HEE.out, HOO.out]
      exact ⟨_, rfl, RDy.zero _ _ _, BEL.out.1⟩
     case neg =>
      have hff : ((f : Int) == 33) = false := by simp; omega
      have HO3 := yk (show eo = (if q = 0 then some (sgn (cneg p) 1, -1) else if (decide ((p.natAbs : Int) = q.natAbs)) = false then none else if 0 < q then some (sgn (cneg p) 1, -2) else some (sgn (cneg p) 3, -2)) from by rw [HO2.out]; unfold docF; rw [if_neg hf3, if_neg (fun h => HP0.out h.1), if_neg HP0.out])
      clear hf3
      obtain ⟨q6, q6', q7, q7', q8, q8'⟩ := bc3 XY.out
      go_wp2_with fail
      clear q6 q6' q7 q7' q8 q8'
      go_at_call 44
      refine (zero_any _ p (-1074) _ PY.out.c HZY.out.len30).mono ?_
      rintro en5 w5 ⟨rfl, hb⟩
      replace BEL := yk (BEL.out.next hb)
      replace XR := yk (yb XR.out hb)
      replace XY := yk (yb XY.out hb)
      replace XX := yk (yb XX.out hb)
      replace PY := yk (PY.out.below hb)
      replace PX := yk (PX.out.below hb)
      clear hb
      obtain ⟨q9, q9', q10, q10', q11, q11'⟩ := bc3 XY.out
      go_wp2_with fail
      clear q9 q9' q10 q10' q11 q11'
      go_at_call 44
      refine (zero_any _ p (-1074) _ PY.out.c HZY.out.len30).mono ?_
      rintro en6 w6 ⟨rfl, hb⟩
      replace BEL := yk (BEL.out.next hb)
      replace XR := yk (yb XR.out hb)
      replace XY := yk (yb XY.out hb)
      replace XX := yk (yb XX.out hb)
      replace PY := yk (PY.out.below hb)
      replace PX := yk (PX.out.below hb)
      clear hb
      obtain ⟨q12, q12', q13, q13', q14, q14'⟩ := bc3 XX.out
      go_wp2_with fail
      clear q12 q12' q13 q13' q14 q14'
      go_at_call 44
      refine (zero_any _ q (-1074) _ PX.out.c HZX.out.len30).mono ?_
      rintro en7 w7 ⟨rfl, hb⟩
      replace BEL := yk (BEL.out.next hb)
      replace XR := yk (yb XR.out hb)
      replace XY := yk (yb XY.out hb)
      replace XX := yk (yb XX.out hb)
      replace PY := yk (PY.out.below hb)
      replace PX := yk (PX.out.below hb)
      clear hb
      by_cases hq : q = 0
      case pos =>
       have hdq : decide (q = 0) = true := decide_eq_true hq
       have HOO : Aside0 (eo = some (sgn (cneg p) 1, -1)) := ⟨by rw [HO3.out, if_pos hq]⟩
       clear hq
       have PL := yk (RDy.lit (e := (-1)) (row_one w7 1) (.inl rfl) (CDy.parts PY.out.c).1)
       replace PL := yk (PL.out.lower BEL.out.1.size)
       replace BEL := yk (BEL.out.next (below_alloc (Below.refl w7.heap.size w7) (.cells #[.int .u64 1] 23)))
       obtain ⟨z0, z0'⟩ := box_cell XY.out 0 rfl
       replace XR := yk (yb XR.out (below_alloc (Below.refl w7.heap.size w7) (.cells #[.int .u64 1] 23)))
       go_wp2_with (((with_reducible refine gate_store (p := 6) rfl ?_); go_must (refine sdy 6 (.tmp 71) rfl rfl rfl rfl rfl XR.out rfl ?_; intro wb HX HG)); replace PL := yk (PL.out.grown_box XR.out (by decide) HG.out); replace BEL := yk (BEL.out.grown HG.out (by omega)); replace XR := HX; clear HG)
       refine bodyPost_ret (results_list (rs := [.cell 6 27, .tmp 7, .tmp 8]) rfl (by simp) (Vals.box any_dyad info_dyad (g := w.heap.size) rfl XR.out rfl (.tmp (.tmp .nil)))) rfl ?_
       rw [HEE.out, HOO.out]
       exact ⟨_, rfl, PL.out, BEL.out.1⟩
      case neg =>
       have hdq : decide (q = 0) = false := decide_eq_false hq
       have HQ0 := yk hq
       clear hq
       go_wp2_with fail
       go_at_call 59
       refine (dabs_any x _).mono ?_
       rintro en8 w8 ⟨rfl, hb⟩
       replace BEL := yk (BEL.out.next hb)
       replace XR := yk (yb XR.out hb)
       replace XY := yk (yb XY.out hb)
       replace XX := yk (yb XX.out hb)
       replace PY := yk (PY.out.below hb)
       replace PX := yk (PX.out.below hb)
       clear hb
       go_wp2_with fail
       go_at_call 59
       refine (dabs_any y _).mono ?_
       rintro en9 w9 ⟨rfl, hb⟩
       replace BEL := yk (BEL.out.next hb)
       replace XR := yk (yb XR.out hb)
       replace XY := yk (yb XY.out hb)
       replace XX := yk (yb XX.out hb)
       replace PY := yk (PY.out.below hb)
       replace PX := yk (PX.out.below hb)
       clear hb
       by_cases ha : x % 9223372036854775808 = y % 9223372036854775808
       case neg =>
        have hab : (((x % 9223372036854775808 : Nat) : Int) != ((y % 9223372036854775808 : Nat) : Int)) = true := by simp; omega
        have HOO : Aside0 (eo = none) := ⟨by rw [HO3.out, if_neg HQ0.out, if_pos (decide_eq_false (fun h => ha (HAA.out.1 h)))]⟩
        clear ha
        go_wp2_with (((with_reducible refine gate_store (p := 6) rfl ?_); go_must (refine sdy 6 (.tmp 78) rfl rfl rfl rfl rfl XR.out rfl ?_; intro wb HX HG)); replace PY := yk (PY.out.grown_box XR.out (by decide) HG.out); replace PX := yk (PX.out.grown_box XR.out (by decide) HG.out); replace BEL := yk (BEL.out.grown HG.out (by omega)); replace XY := yk (blk_grown XY.out HG.out (Ne.symm NE_XR_XY.out)); replace XX := yk (blk_grown XX.out HG.out (Ne.symm NE_XR_XX.out)); replace XR := HX; clear HG)
        refine bodyPost_ret (results_list (rs := [.cell 6 27, .tmp 7, .tmp 8]) rfl (by simp) (Vals.box any_dyad info_dyad (g := w.heap.size) rfl XR.out rfl (.tmp (.tmp .nil)))) rfl ?_
        rw [HEE.out, HOO.out]
        exact ⟨_, rfl, RDy.zero _ _ _, BEL.out.1⟩
       case pos =>
        have hab : (((x % 9223372036854775808 : Nat) : Int) != ((y % 9223372036854775808 : Nat) : Int)) = false := by simp; omega
        have hz := HAA.out.2 ha
        have HO4 := yk (show eo = (if 0 < q then some (sgn (cneg p) 1, -2) else some (sgn (cneg p) 3, -2)) from by rw [HO3.out, if_neg HQ0.out, if_neg (by rw [decide_eq_true hz]; decide)])
        clear ha hz
        obtain ⟨q15, q15', q16, q16', q17, q17'⟩ := bc3 XX.out
        go_wp2_with fail
        clear q15 q15' q16 q16' q17 q17'
        go_at_call 25
        refine (order_zero PX.out.c HZX.out).mono ?_
        rintro en10 w10 ⟨rfl, hb⟩
        replace BEL := yk (BEL.out.next hb)
        replace XR := yk (yb XR.out hb)
        replace XY := yk (yb XY.out hb)
        replace XX := yk (yb XX.out hb)
        replace PY := yk (PY.out.below hb)
        replace PX := yk (PX.out.below hb)
        clear hb
        by_cases hq1 : 0 < q
        case pos =>
         have hs : decide (0 < sgnI q) = true := by rw [hsg.out]; exact decide_eq_true hq1
         have HOO : Aside0 (eo = some (sgn (cneg p) 1, -2)) := ⟨by rw [HO4.out, if_pos hq1]⟩
         clear hq1
         have PL := yk (RDy.lit (e := (-2)) (row_one w10 1) (.inl rfl) (CDy.parts PY.out.c).1)
         replace PL := yk (PL.out.lower BEL.out.1.size)
         replace BEL := yk (BEL.out.next (below_alloc (Below.refl w10.heap.size w10) (.cells #[.int .u64 1] 23)))
         obtain ⟨z0, z0'⟩ := box_cell XY.out 0 rfl
         replace XR := yk (yb XR.out (below_alloc (Below.refl w10.heap.size w10) (.cells #[.int .u64 1] 23)))
         go_wp2_with (((with_reducible refine gate_store (p := 6) rfl ?_); go_must (refine sdy 6 (.tmp 86) rfl rfl rfl rfl rfl XR.out rfl ?_; intro wb HX HG)); replace PL := yk (PL.out.grown_box XR.out (by decide) HG.out); replace BEL := yk (BEL.out.grown HG.out (by omega)); replace XR := HX; clear HG)
         refine bodyPost_ret (results_list (rs := [.cell 6 27, .tmp 7, .tmp 8]) rfl (by simp) (Vals.box any_dyad info_dyad (g := w.heap.size) rfl XR.out rfl (.tmp (.tmp .nil)))) rfl ?_
         rw [HEE.out, HOO.out]
         exact ⟨_, rfl, PL.out, BEL.out.1⟩
        case neg =>
         have hs : decide (0 < sgnI q) = false := by rw [hsg.out]; exact decide_eq_false hq1
         have HOO : Aside0 (eo = some (sgn (cneg p) 3, -2)) := ⟨by rw [HO4.out, if_neg hq1]⟩
         clear hq1
         have PL := yk (RDy.lit (e := (-2)) (row_one w10 3) (.inr rfl) (CDy.parts PY.out.c).1)
         replace PL := yk (PL.out.lower BEL.out.1.size)
         replace BEL := yk (BEL.out.next (below_alloc (Below.refl w10.heap.size w10) (.cells #[.int .u64 3] 23)))
         obtain ⟨z0, z0'⟩ := box_cell XY.out 0 rfl
         replace XR := yk (yb XR.out (below_alloc (Below.refl w10.heap.size w10) (.cells #[.int .u64 3] 23)))
         go_wp2_with (((with_reducible refine gate_store (p := 6) rfl ?_); go_must (refine sdy 6 (.tmp 90) rfl rfl rfl rfl rfl XR.out rfl ?_; intro wb HX HG)); replace PL := yk (PL.out.grown_box XR.out (by decide) HG.out); replace BEL := yk (BEL.out.grown HG.out (by omega)); replace XR := HX; clear HG)
         refine bodyPost_ret (results_list (rs := [.cell 6 27, .tmp 7, .tmp 8]) rfl (by simp) (Vals.box any_dyad info_dyad (g := w.heap.size) rfl XR.out rfl (.tmp (.tmp .nil)))) rfl ?_
         rw [HEE.out, HOO.out]
         exact ⟨_, rfl, PL.out, BEL.out.1⟩

theorem points_any (f y x : Nat) (hf : f < 256) (hy : y < 18446744073709551616) (hx : x < 18446744073709551616) (w : World) (hT : TabAt 0 Lib.deBruijn64tab w) :
 Calls Tryz.prog 16 #[.int .u8 f, .int .u64 (y : Int), .int .u64 (x : Int)] w fun en w' => en = .returned (.bool true) ∧ Below w.heap.size w w' := by
 have HT := yk hT
 have BEL := yk (BelN.zero w)
 have Q1 := yk (fun (W : World) (ht : TabAt 0 Lib.deBruijn64tab W) => exact2_any f y x hf hy hx W ht)
 have Q2 := yk (fun (W : World) (ht : TabAt 0 Lib.deBruijn64tab W) => dexact2_any f y x hf hy hx W ht)
 have OK1 := yk (ex2_ok f y x)
 clear hT hf hy hx
 generalize ((exO2 f y x).getD (0, 0)).1 = va at *
 generalize ((exO2 f y x).getD (0, 0)).2 = ea at *
 generalize (exO2 f y x).isSome = sa at *
 generalize exE2 f y x = ra at *
 go_enter Tryz.func16, Tryz.ntmps16
 go_wp2_with fail
 go_at_call 15
 refine (Q1.out _ (tab_below HT.out BEL.out.1)).mono ?_
 rintro en1 w1 ⟨v1, rfl, hr, hb⟩
 replace BEL := yk (BEL.out.next hb)
 have P1 := yk hr
 obtain ⟨b1, A1, n1, c1, x1, rfl⟩ := hr.ex
 clear hr hb
 have BELo := BEL
 go_wp2_with (replace BEL := yk ((BEL.out.alloc (.cells #[.bool false, .slice none 0 0, .int .i64 0] 27)).less (j := 0) (by omega)); have HN := yk (blk_new w1 (.cells #[.bool false, .slice none 0 0, .int .i64 0] 27)); replace P1 := yk (P1.out.below (below_alloc yr (.cells #[.bool false, .slice none 0 0, .int .i64 0] 27))); ((with_reducible refine gate_store (p := 7) rfl ?_); go_must (refine sdy 7 (.tmp 18) rfl rfl rfl rfl rfl HN.out rfl ?_; intro wb HX HG)); replace P1 := yk (P1.out.grown_box HN.out (by decide) HG.out); have LB_X1 := BELo.out.2; replace BEL := yk (BEL.out.grown HG.out (Nat.le_trans (Nat.le_add_right _ _) LB_X1)); have LL_X1 := yk LB_X1; clear LB_X1; have X1 := HX; clear HG HN HX)
 go_at_call 29
 refine (Q2.out _ (tab_below HT.out BEL.out.1)).mono ?_
 rintro en2 w2 ⟨v2, rfl, hr, hb⟩
 replace BEL := yk (BEL.out.next hb)
 replace X1 := yk (yb X1.out hb)
 replace P1 := yk (P1.out.below hb)
 have C2 := yk hr
 obtain ⟨b2, A2, n2, c2, x2, rfl⟩ := hr.ex
 clear hr hb
 have BELo := BEL
 go_wp2_with (replace BEL := yk ((BEL.out.alloc (.cells #[.bool false, .slice none 0 0, .int .i64 0] 27)).less (j := 0) (by omega)); have HN := yk (blk_new w2 (.cells #[.bool false, .slice none 0 0, .int .i64 0] 27)); have L_X1 := lt_blk X1.out; replace X1 := yk (blk_alloc X1.out (.cells #[.bool false, .slice none 0 0, .int .i64 0] 27)); replace P1 := yk (P1.out.below (below_alloc yr (.cells #[.bool false, .slice none 0 0, .int .i64 0] 27))); replace C2 := yk (C2.out.below (below_alloc yr (.cells #[.bool false, .slice none 0 0, .int .i64 0] 27))); ((with_reducible refine gate_store (p := 10) rfl ?_); go_must (refine sdy 10 (.tmp 26) rfl rfl rfl rfl rfl HN.out rfl ?_; intro wb HX HG)); replace P1 := yk (P1.out.grown_box HN.out (by decide) HG.out); replace C2 := yk (C2.out.grown_box HN.out (by decide) HG.out); have LB_X2 := BELo.out.2; replace BEL := yk (BEL.out.grown HG.out (Nat.le_trans (Nat.le_add_right _ _) LB_X2)); replace X1 := yk (blk_grown X1.out HG.out (Nat.ne_of_lt L_X1)); have NE_X1_X2 := yk (Nat.ne_of_lt L_X1); clear L_X1; have LL_X2 := yk LB_X2; clear LB_X2; have X2 := HX; clear HG HN HX)
 go_at_call 7
 refine (lives_any _ (tab_below HT.out BEL.out.1)).mono ?_
 rintro en3 w3 ⟨rfl, hb⟩
 replace BEL := yk (BEL.out.next hb)
 replace X1 := yk (yb X1.out hb)
 replace X2 := yk (yb X2.out hb)
 replace P1 := yk (P1.out.below hb)
 replace C2 := yk (C2.out.below hb)
 clear hb
 obtain ⟨q0, q0', q1, q1', q2, q2'⟩ := bc3 X1.out
 obtain ⟨q3, q3', q4, q4', q5, q5'⟩ := bc3 X2.out
 go_wp2_with fail
 clear q0 q0' q1 q1' q2 q2' q3 q3' q4 q4' q5 q5'
 go_at_call 8
 refine (same_self P1.out.c C2.out.c OK1.out).mono ?_
 rintro en4 w4 ⟨rfl, hb⟩
 replace BEL := yk (BEL.out.next hb)
 replace X1 := yk (yb X1.out hb)
 replace X2 := yk (yb X2.out hb)
 replace P1 := yk (P1.out.below hb)
 replace C2 := yk (C2.out.below hb)
 clear hb
 go_wp2_with fail
 go_ret
 exact ⟨rfl, BEL.out.1⟩
theorem dis_one (f : Nat) (hf : f < 256) (w : World) :
 Calls Tryz.prog 10 #[.int .u8 f] w fun en w' => en = .returned (.bool (isF f)) ∧ Below w.heap.size w w' := by
 have hb0 := yk (Below.refl w.heap.size w)
 unfold isF
 by_cases h1 : 1 ≤ f
 · by_cases h2 : f ≤ 30
   · rw [decide_eq_true ⟨h1, h2⟩]
     have d1 : decide ((1 : Int) ≤ f) = true := decide_eq_true (by omega)
     have d2 : decide ((f : Int) ≤ 30) = true := decide_eq_true (by omega)
     clear h1 h2
     go_enter Tryz.func10, Tryz.ntmps10
     go_wp2
     go_ret
     exact ⟨rfl, hb0.out⟩
   · rw [decide_eq_false (fun h => h2 h.2)]
     have d1 : decide ((1 : Int) ≤ f) = true := decide_eq_true (by omega)
     have d2 : decide ((f : Int) ≤ 30) = false := decide_eq_false (by omega)
     clear h1 h2
     go_enter Tryz.func10, Tryz.ntmps10
     go_wp2
     go_ret
     exact ⟨rfl, hb0.out⟩
 · rw [decide_eq_false (fun h => h1 h.1)]
   have d1 : decide ((1 : Int) ≤ f) = false := decide_eq_false (by omega)
   clear h1
   go_enter Tryz.func10, Tryz.ntmps10
   go_wp2
   go_ret
   exact ⟨rfl, hb0.out⟩
theorem sgn_dlt (r : Int) : decide (sgnI r < 0) = decide (r < 0) := by
 unfold sgnI
 by_cases h : r < 0
 · rw [decide_eq_true h]; repeat' split
   all_goals first | rfl | omega
 · rw [decide_eq_false h]; repeat' split
   all_goals first | rfl | omega
/-- A whole number of at most twenty bits is one word. -/
theorem whole_word {M z lo hi : Int} {s : Nat} (hM : 0 < M) (hd : z / M = sgn (cneg z) (cman z * 2 ^ s)) (h1 : lo * M ≤ z) (h2 : z ≤ hi * M) (hlo : lo.natAbs < 2 ^ 20) (hhi : hi.natAbs < 2 ^ 20) : cman z * 2 ^ s < 2 ^ 20 := by
 have e1 : lo ≤ z / M := Int.le_ediv_of_mul_le hM h1
 have e2 : z / M ≤ hi := Int.ediv_le_of_le_mul hM h2
 have e3 : (z / M).natAbs = cman z * 2 ^ s := by rw [hd, sgn_abs]
 generalize z / M = q at *
 rw [← e3]; omega

theorem dwhole_any {v : Value} {z : Int} {w : World} (h : NDy w v z (-1074)) (o : Ok z (-1074)) :
 Calls Tryz.prog 81 #[v] w fun en w' => en = .returned (.tuple #[.int .i64 ((smallF (2 ^ 1074) z (-16384) 16384).getD 0), .bool (smallF (2 ^ 1074) z (-16384) 16384).isSome]) ∧ Below w.heap.size w w' := by
 obtain ⟨b0, A, n0, c, x0, rfl⟩ := h.ex
 have OO := yk o
 have QO := yk (fun (W : World) (hb : Below w.heap.size w W) => one_nd (h.below hb))
 obtain ⟨M, hM⟩ : ∃ M : Int, M = 2 ^ 1074 := ⟨_, rfl⟩
 have HMP := yk (show 0 < M by rw [hM]; exact Int.pow_pos (by decide))
 have HPART := yk (fun (h0 : z ≠ 0) (h : cexp z (-1074) < 0) => (by
  have q := small_part (lo := -16384) (hi := 16384) (N := 1074) h0 h
  rw [← hM] at q; exact q : smallF M z (-16384) 16384 = none))
 have HWH := yk (fun (h0 : z ≠ 0) (h : ¬ cexp z (-1074) < 0) => (by
  have q := small_whole (N := 1074) h0 h
  rw [← hM] at q; exact q : ∃ s : Nat, cexp z (-1074) = (s : Int) ∧ z % M = 0 ∧ z / M = sgn (cneg z) (cman z * 2 ^ s) ∧ z = (z / M) * M))
 obtain ⟨sH, hH⟩ : ∃ q, q = sgnI (z - 16384 * 2 ^ 1074) := ⟨_, rfl⟩
 obtain ⟨sL, hL⟩ : ∃ q, q = sgnI (z - -16384 * 2 ^ 1074) := ⟨_, rfl⟩
 have QH := yk (fun (W : World) (u : Value) (hu : CDy W u z (-1074)) => (by
  rw [hH]; exact dord_any 16384 (hu.nd o) o (by decide) : Calls Tryz.prog 25 #[u, .int .i64 16384] W fun en w' => en = .returned (.int .i64 sH) ∧ Below W.heap.size W w'))
 have QL := yk (fun (W : World) (u : Value) (hu : CDy W u z (-1074)) => (by
  rw [hL]; exact dord_any (-16384) (hu.nd o) o (by decide) : Calls Tryz.prog 25 #[u, .int .i64 (-16384)] W fun en w' => en = .returned (.int .i64 sL) ∧ Below W.heap.size W w'))
 have HH := yk (show decide (0 < sH) = decide (16384 * M < z) by rw [hH, sgn_pos, ← hM]; exact decide_eq_decide.2 (by omega))
 have HL := yk (show decide (sL < 0) = decide (z < -16384 * M) by rw [hL, sgn_dlt, ← hM]; exact decide_eq_decide.2 (by omega))
 have QS := yk (fun (W : World) (A : Option Addr) (n c s : Nat) (hC : kU.C W A n (limbs (cman z))) (hn : (limbs (cman z)).length = n) (hc : n ≤ c) (hs : s ≤ 68719476736) => (by
  have q := shl_any (limbs (cman z)) A n c s hn W hC hc (wf_limbs _) (by rw [← hn]; exact o.len30) hs
  rw [nv_limbs] at q
  exact q : Calls Tryz.prog 102 #[.slice A n c, .int .i64 (s : Int)] W fun e w' => ∃ v, e = .returned v ∧ kU.R 23 w' W.heap.size (fun _ => True) v (limbs (cman z * 2 ^ s)) ∧ Below W.heap.size W w'))
 rw [← hM]
 clear h o hM hH hL
 go_enter Tryz.func81, Tryz.ntmps81
 obtain ⟨BEL, X0⟩ := al1 w 1 #[.bool b0, .slice A n0 c, .int .i64 x0] 27
 obtain ⟨q0, q0', q1, q1', q2, q2'⟩ := bc3 X0.out
 go_wp2_with fail
 have BL := BEL
 clear q0 q0' q1 q1' q2 q2'
 go_at_call 56
 refine (QO.out _ BEL.out.1).mono ?_
 rintro en1 w1 ⟨v1, rfl, hr, hb⟩
 replace BEL := yk (BEL.out.next hb)
 replace X0 := yk (yb X0.out hb)
 have P1 := yk hr
 obtain ⟨b1, A1, n1, c1, x1, rfl⟩ := hr.ex
 clear hr hb
 obtain ⟨eb, ex, -⟩ := CDy.parts P1.out.c
 have HXE := yk ex
 have HBE := yk eb
 clear eb ex
 by_cases hx : x1 < 0
 case pos =>
  have hdx : decide (x1 < 0) = true := decide_eq_true hx
  have HN := yk (HPART.out (by rintro rfl; rw [HXE.out, cexp_zero] at hx; omega) (by rw [← HXE.out]; exact hx))
  clear hx
  go_wp2_with (((with_reducible refine gate_store (p := 1) rfl ?_); go_must (refine sdy 1 (.tmp 7) rfl rfl rfl rfl rfl X0.out rfl ?_; intro wb HX HG)); replace P1 := yk (P1.out.grown_box X0.out (by decide) HG.out); replace BEL := yk (BEL.out.grown HG.out (by omega)); replace X0 := HX; clear HG; obtain ⟨q3, q3', q4, q4', q5, q5'⟩ := bc3 X0.out)
  go_ret2
  exact ⟨by rw [HN.out]; rfl, BEL.out.1⟩
 case neg =>
  have hdx : decide (x1 < 0) = false := decide_eq_false hx
  have HX0 := yk hx
  clear hx
  go_wp2_with (((with_reducible refine gate_store (p := 1) rfl ?_); go_must (refine sdy 1 (.tmp 7) rfl rfl rfl rfl rfl X0.out rfl ?_; intro wb HX HG)); replace P1 := yk (P1.out.grown_box X0.out (by decide) HG.out); replace BEL := yk (BEL.out.grown HG.out (by omega)); replace X0 := HX; clear HG; obtain ⟨q3, q3', q4, q4', q5, q5'⟩ := bc3 X0.out)
  clear q3 q3' q4 q4' q5 q5'
  go_at_call 25
  refine (QH.out _ _ P1.out.c).mono ?_
  rintro en2 w2 ⟨rfl, hb⟩
  replace BEL := yk (BEL.out.next hb)
  replace X0 := yk (yb X0.out hb)
  replace P1 := yk (P1.out.below hb)
  clear hb
  by_cases hh : 16384 * M < z
  case pos =>
   have hs : decide (0 < sH) = true := by rw [HH.out]; exact decide_eq_true hh
   have HN := yk (small_hi (lo := -16384) hh)
   clear hh
   go_wp2_with fail
   go_ret2
   exact ⟨by rw [HN.out]; rfl, BEL.out.1⟩
  case neg =>
   have hs : decide (0 < sH) = false := by rw [HH.out]; exact decide_eq_false hh
   have HNH := yk hh
   clear hh
   obtain ⟨q6, q6', q7, q7', q8, q8'⟩ := bc3 X0.out
   go_wp2_with fail
   clear q6 q6' q7 q7' q8 q8'
   go_at_call 25
   refine (QL.out _ _ P1.out.c).mono ?_
   rintro en3 w3 ⟨rfl, hb⟩
   replace BEL := yk (BEL.out.next hb)
   replace X0 := yk (yb X0.out hb)
   replace P1 := yk (P1.out.below hb)
   clear hb
   by_cases hl : z < -16384 * M
   case pos =>
    have hs2 : decide (sL < 0) = true := by rw [HL.out]; exact decide_eq_true hl
    have HN := yk (small_lo (hi := 16384) hl)
    clear hl
    go_wp2_with fail
    go_ret2
    exact ⟨by rw [HN.out]; rfl, BEL.out.1⟩
   case neg =>
    have hs2 : decide (sL < 0) = false := by rw [HL.out]; exact decide_eq_false hl
    have HNL := yk hl
    clear hl
    by_cases hz : z = 0
    case pos =>
     have HZ := yk hz
     have HN : Aside0 (smallF M z (-16384) 16384 = some 0) := ⟨by rw [hz]; unfold smallF; rw [if_pos ⟨Int.zero_emod _, by have := HMP.out; omega, by have := HMP.out; omega⟩, Int.zero_ediv]⟩
     have ex0 : x1 = ((0 : Nat) : Int) := by rw [HXE.out, hz, cexp_zero]; rfl
     subst ex0
     clear hz
     obtain ⟨q9, q9', q10, q10', q11, q11'⟩ := bc3 X0.out
     go_wp2_with fail
     clear q9 q9' q10 q10' q11 q11'
     obtain ⟨-, -, hC1, hC2, hC3⟩ := CDy.parts P1.out.c
     go_at_call 102
     refine (QS.out _ _ _ _ 0 hC1 hC2 hC3 (by decide)).mono ?_
     rintro en9 w9 ⟨v9, rfl, hr, hb⟩
     replace BEL := yk (BEL.out.next hb)
     replace X0 := yk (yb X0.out hb)
     replace P1 := yk (P1.out.below hb)
     rw [HZ.out, cman_zero, Nat.zero_mul, limbs_zero] at hr
     obtain ⟨A9, c9, rfl, -, -⟩ := R_list hr
     clear hr hb hC1 hC2 hC3
     go_wp2_with fail
     go_ret2
     exact ⟨by rw [HN.out]; rfl, BEL.out.1⟩
    case neg =>
     obtain ⟨s, es, em, ed, ez⟩ := HWH.out hz (by rw [← HXE.out]; exact HX0.out)
     have HZ := yk hz
     have HN : Aside0 (smallF M z (-16384) 16384 = some (z / M)) := ⟨small_in em (by have := HNL.out; omega) (by have := HNH.out; omega)⟩
     have hm20 := whole_word (lo := -16384) (hi := 16384) HMP.out ed (by have := HNL.out; omega) (by have := HNH.out; omega) (by decide) (by decide)
     have hm0 : cman z * 2 ^ s ≠ 0 := Nat.mul_ne_zero (cman_ne hz) (Nat.pos_iff_ne_zero.1 (Nat.two_pow_pos s))
     rw [← HXE.out] at es
     subst es
     have hs1 : s ≤ 68719476736 := by have := OO.out.hi; rw [← HXE.out] at this; omega
     have HED := yk ed
     have QSs := yk (fun (W : World) (A : Option Addr) (n c : Nat) (hC : kU.C W A n (limbs (cman z))) (hn : (limbs (cman z)).length = n) (hc : n ≤ c) => QS.out W A n c s hC hn hc hs1)
     obtain ⟨m, hm⟩ : ∃ m, m = cman z * 2 ^ s := ⟨_, rfl⟩
     rw [← hm] at hm20 hm0 HED QSs
     have HML := yk (limbs_one hm0 (Nat.lt_trans hm20 (by decide)))
     have HM20 := yk hm20
     clear em ed ez hz hm0 hm20 hs1 hm
     obtain ⟨q9, q9', q10, q10', q11, q11'⟩ := bc3 X0.out
     go_wp2_with fail
     clear q9 q9' q10 q10' q11 q11'
     obtain ⟨-, -, hC1, hC2, hC3⟩ := CDy.parts P1.out.c
     go_at_call 102
     refine (QSs.out _ _ _ _ hC1 hC2 hC3).mono ?_
     rintro en9 w9 ⟨v9, rfl, hr, hb⟩
     replace BEL := yk (BEL.out.next hb)
     replace X0 := yk (yb X0.out hb)
     replace P1 := yk (P1.out.below hb)
     rw [HML.out] at hr
     obtain ⟨A9, c9, rfl, hc9, hC9⟩ := R_list hr
     clear hr hb hC1 hC2 hC3
     obtain ⟨ad, x, hA, hx0, hcell⟩ := at_word hC9 rfl 0 (by simp)
     subst hA
     have hz0 : ad.add 0 = ad := by simp [Addr.add]
     rw [hz0] at hcell
     obtain rfl : m = x := Option.some.inj hx0
     have hw1 : wrap64 (m : Int) = (m : Int) := by have := HM20.out; unfold wrap64; omega
     have hw2 : wrap64 (0 - (m : Int)) = -(m : Int) := by have := HM20.out; unfold wrap64; omega
     have hw3 : wrap64 (-(m : Int)) = -(m : Int) := by have := HM20.out; unfold wrap64; omega
     clear hx0 hz0 hC9
     cases b1
     case false =>
      obtain ⟨q12, q12', q13, q13', q14, q14'⟩ := bc3 X0.out
      go_wp2_with fail
      go_ret2
      refine ⟨?_, BEL.out.1⟩
      rw [HN.out, HED.out, ← HBE.out]
      show Ending.returned (.tuple #[.int .i64 (wrap64 (m : Int)), .bool true]) = Ending.returned (.tuple #[.int .i64 ((m : Int)), .bool true])
      rw [show wrap64 (m : Int) = (m : Int) by have := HM20.out; unfold wrap64; omega]
     case true =>
      obtain ⟨q12, q12', q13, q13', q14, q14'⟩ := bc3 X0.out
      go_wp2_with fail
      go_ret2
      refine ⟨?_, BEL.out.1⟩
      rw [HN.out, HED.out, ← HBE.out]
      show Ending.returned (.tuple #[.int .i64 (wrap64 (-(m : Int))), .bool true]) = Ending.returned (.tuple #[.int .i64 (-(m : Int)), .bool true])
      rw [show wrap64 (-(m : Int)) = -(m : Int) by have := HM20.out; unfold wrap64; omega]

/-- Four times a number, by 8, if that is a whole one. -/
def quarF (z : Int) : Option Int := if z % 2 ^ 1072 = 0 then some (z / 2 ^ 1072 % 8) else none
theorem quar_range {z n : Int} (h : quarF z = some n) : 0 ≤ n ∧ n < 8 := by
 unfold quarF at h
 generalize (2 : Int) ^ 1072 = M at h
 split at h
 · obtain rfl := Option.some.inj h; omega
 · cases h
theorem part_no {z : Int} {N : Nat} (h0 : z ≠ 0) (h : cexp z (-(N : Int)) < 0) : ¬ z % 2 ^ N = 0 := by
 intro hm
 obtain ⟨hi, hhi⟩ : ∃ hi : Nat, z.natAbs ≤ hi * 2 ^ N := ⟨z.natAbs, Nat.le_mul_of_pos_right _ (Nat.two_pow_pos N)⟩
 have hp : ((2 ^ N : Nat) : Int) = (2 : Int) ^ N := by simp
 have e : ((hi * 2 ^ N : Nat) : Int) = (hi : Int) * 2 ^ N := by rw [Int.natCast_mul, hp]
 have h1 := small_part (lo := -(hi : Int)) (hi := (hi : Int)) h0 h
 have h2 := small_in (M := 2 ^ N) (lo := -(hi : Int)) (hi := (hi : Int)) hm (by rw [Int.neg_mul]; omega) (by omega)
 rw [h1] at h2
 cases h2
theorem quar_mod {m s : Nat} {b : Bool} {M z : Int} (hd : z / M = sgn b (m * 2 ^ s)) : (3 ≤ s → z / M % 8 = 0) ∧
 ((b = false → ((m % 2 ^ 64 % 8 * 2 ^ s % 8 : Nat) : Int) = z / M % 8) ∧ (b = true → ((8 - m % 2 ^ 64 % 8 * 2 ^ s % 8) % 8 : Nat) = z / M % 8)) := by
 rw [hd]
 clear hd
 have h8 : m % 2 ^ 64 % 8 = m % 8 := Nat.mod_mod_of_dvd _ ⟨2 ^ 61, rfl⟩
 have h9 : m % 2 ^ 64 % 8 * 2 ^ s % 8 = m * 2 ^ s % 8 := by rw [h8, Nat.mod_mul_mod]
 rw [h9]
 refine ⟨?_, ?_, ?_⟩
 · intro hs
   obtain ⟨j, rfl⟩ : ∃ j, s = 3 + j := ⟨s - 3, by omega⟩
   have h10 : m * 2 ^ (3 + j) = 8 * (m * 2 ^ j) := by rw [Nat.pow_add]; simp only [Nat.mul_comm, Nat.mul_left_comm, Nat.mul_assoc]
   rw [h10]
   generalize m * 2 ^ j = q
   cases b <;> unfold sgn <;> simp <;> omega
 · rintro rfl
   generalize m * 2 ^ s = q
   show ((q % 8 : Nat) : Int) = (q : Int) % 8
   omega
 · rintro rfl
   generalize m * 2 ^ s = q
   show (((8 - q % 8) % 8 : Nat) : Int) = -(q : Int) % 8
   omega

theorem dquarters_any {v : Value} {z : Int} {w : World} (h : CDy w v z (-1074)) (hz : z.natAbs < 2 ^ 2098) :
 Calls Tryz.prog 26 #[v] w fun en w' => en = .returned (.tuple #[.int .i64 ((quarF z).getD 0), .bool (quarF z).isSome]) ∧ Below w.heap.size w w' := by
 obtain ⟨b0, A, n0, c, x0, rfl⟩ := h.ex
 have o2 : Ok z (-1072) := Ok.of _ hz (by decide) (by decide) (by decide)
 have OO := yk o2
 have QT := yk (fun (W : World) (hb : Below w.heap.size w W) => (by
  have q := twice_nd 2 ((h.below hb).nd (ok_z hz)) (by decide) (by decide)
  exact q : Calls Tryz.prog 57 #[.agg #[.bool b0, .slice A n0 c, .int .i64 x0], .int .i64 2] W fun en w' => ∃ v', en = .returned v' ∧ RDy w' W.heap.size v' z (-1072) ∧ Below W.heap.size W w'))
 have QO := yk (fun (W : World) (u : Value) (hu : CDy W u z (-1072)) => one_nd (hu.nd o2))
 have QZ := yk (fun (W : World) (u : Value) (hu : CDy W u z (-1072)) => zero_nd (hu.nd o2))
 have HQ := yk (show quarF z = if z % 2 ^ 1072 = 0 then some (z / 2 ^ 1072 % 8) else none from rfl)
 obtain ⟨M, hM⟩ : ∃ M : Int, M = 2 ^ 1072 := ⟨_, rfl⟩
 have HMP := yk (show 0 < M by rw [hM]; exact Int.pow_pos (by decide))
 have HPART := yk (fun (h0 : z ≠ 0) (h : cexp z (-1072) < 0) => (by
  have q := part_no (N := 1072) h0 h
  rw [← hM] at q; exact q : ¬ z % M = 0))
 have HWH := yk (fun (h0 : z ≠ 0) (h : ¬ cexp z (-1072) < 0) => (by
  have q := small_whole (N := 1072) h0 h
  rw [← hM] at q; exact q : ∃ s : Nat, cexp z (-1072) = (s : Int) ∧ z % M = 0 ∧ z / M = sgn (cneg z) (cman z * 2 ^ s) ∧ z = (z / M) * M))
 obtain ⟨Q, hQ⟩ : ∃ Q, Q = quarF z := ⟨_, rfl⟩
 rw [← hM, ← hQ] at HQ
 rw [← hQ]
 clear h hz o2 hM hQ
 go_enter Tryz.func26, Tryz.ntmps26
 obtain ⟨BEL, X0⟩ := al1 w 1 #[.bool b0, .slice A n0 c, .int .i64 x0] 27
 obtain ⟨q0, q0', q1, q1', q2, q2'⟩ := bc3 X0.out
 go_wp2_with fail
 have BL := BEL
 clear q0 q0' q1 q1' q2 q2'
 go_at_call 57
 refine (QT.out _ BEL.out.1).mono ?_
 rintro en1 w1 ⟨v1, rfl, hr, hb⟩
 replace BEL := yk (BEL.out.next hb)
 replace X0 := yk (yb X0.out hb)
 have P0 := yk hr
 obtain ⟨b1, A1, n1, c1, x1, rfl⟩ := hr.ex
 clear hr hb
 go_wp2_with fail
 go_at_call 56
 refine (QO.out _ _ P0.out.c).mono ?_
 rintro en2 w2 ⟨v2, rfl, hr, hb⟩
 replace BEL := yk (BEL.out.next hb)
 replace X0 := yk (yb X0.out hb)
 replace P0 := yk (P0.out.below hb)
 have P1 := yk hr
 obtain ⟨b2, A2, n2, c2, x2, rfl⟩ := hr.ex
 clear hr hb
 clear P0
 obtain ⟨eb, ex, -⟩ := CDy.parts P1.out.c
 have HXE := yk ex
 have HBE := yk eb
 clear eb ex
 by_cases hx : x2 < 0
 case pos =>
  have hdx : decide (x2 < 0) = true := decide_eq_true hx
  have HN : Aside0 (Q = none) := ⟨by rw [HQ.out, if_neg (HPART.out (by rintro rfl; rw [HXE.out, cexp_zero] at hx; omega) (by rw [← HXE.out]; exact hx))]⟩
  clear hx
  go_wp2_with (((with_reducible refine gate_store (p := 1) rfl ?_); go_must (refine sdy 1 (.tmp 7) rfl rfl rfl rfl rfl X0.out rfl ?_; intro wb HX HG)); replace P1 := yk (P1.out.grown_box X0.out (by decide) HG.out); replace BEL := yk (BEL.out.grown HG.out (by omega)); replace X0 := HX; clear HG; obtain ⟨q3, q3', q4, q4', q5, q5'⟩ := bc3 X0.out)
  go_ret2
  exact ⟨by rw [HN.out]; rfl, BEL.out.1⟩
 case neg =>
  have hdx : decide (x2 < 0) = false := decide_eq_false hx
  have HX0 := yk hx
  clear hx
  go_wp2_with (((with_reducible refine gate_store (p := 1) rfl ?_); go_must (refine sdy 1 (.tmp 7) rfl rfl rfl rfl rfl X0.out rfl ?_; intro wb HX HG)); replace P1 := yk (P1.out.grown_box X0.out (by decide) HG.out); replace BEL := yk (BEL.out.grown HG.out (by omega)); replace X0 := HX; clear HG; obtain ⟨q3, q3', q4, q4', q5, q5'⟩ := bc3 X0.out)
  clear q3 q3' q4 q4' q5 q5'
  go_at_call 44
  refine (QZ.out _ _ P1.out.c).mono ?_
  rintro en3 w3 ⟨rfl, hb⟩
  replace BEL := yk (BEL.out.next hb)
  replace X0 := yk (yb X0.out hb)
  replace P1 := yk (P1.out.below hb)
  clear hb
  by_cases hz : z = 0
  case pos =>
   have hdz : decide (z = 0) = true := decide_eq_true hz
   have HN : Aside0 (Q = some 0) := ⟨by rw [HQ.out, hz, Int.zero_emod, if_pos rfl, Int.zero_ediv]; rfl⟩
   clear hz
   go_wp2_with fail
   go_ret2
   exact ⟨by rw [HN.out]; rfl, BEL.out.1⟩
  case neg =>
   have hdz : decide (z = 0) = false := decide_eq_false hz
   obtain ⟨s, es, em, ed, ez⟩ := HWH.out hz (by rw [← HXE.out]; exact HX0.out)
   have HZ := yk hz
   have HN : Aside0 (Q = some (z / M % 8)) := ⟨by rw [HQ.out, if_pos em]⟩
   obtain ⟨hq3, hqp, hqn⟩ := quar_mod ed
   rw [← HXE.out] at es
   subst es
   clear em ed ez hz
   by_cases h3 : 3 ≤ s
   case pos =>
    have hd3 : decide ((3 : Int) ≤ (s : Int)) = true := decide_eq_true (by omega)
    have HN0 : Aside0 (Q = some 0) := ⟨by rw [HN.out, hq3 h3]⟩
    clear hq3 hqp hqn h3
    obtain ⟨q6, q6', q7, q7', q8, q8'⟩ := bc3 X0.out
    go_wp2_with fail
    go_ret2
    exact ⟨by rw [HN0.out]; rfl, BEL.out.1⟩
   case neg =>
    have hd3 : decide ((3 : Int) ≤ (s : Int)) = false := decide_eq_false (by omega)
    obtain ⟨-, -, hC1, hC2, -⟩ := CDy.parts P1.out.c
    have hp1 : 0 < n2 := by rw [← hC2]; exact limbs_len_pos (cman_ne HZ.out)
    obtain ⟨ad, x, hA, hx0, hcell⟩ := at_word hC1 hC2 0 hp1
    subst hA
    have hz0 : ad.add 0 = ad := by simp [Addr.add]
    rw [hz0] at hcell
    have hxw := limbs_zeroth (cman_ne HZ.out) hx0
    have hx64 : x < 2 ^ 64 := (wf_limbs _) x (List.mem_of_getElem? hx0)
    rw [← hxw] at hqp hqn
    clear hx0 hz0 hC1 hC2 hxw hq3
    obtain ⟨r, hr⟩ : ∃ r : Nat, r = x % 8 * 2 ^ s % 8 := ⟨_, rfl⟩
    rw [← hr] at hqp hqn
    have HQP := yk hqp
    have HQN := yk hqn
    have hr8 : r < 8 := by rw [hr]; exact Nat.mod_lt _ (by decide)
    have e1 : (x : Int).tmod 8 = ((x % 8 : Nat) : Int) := tmod_nat x 8
    have e2 : wrap64 ((x % 8 : Nat) : Int) = ((x % 8 : Nat) : Int) := by unfold wrap64; omega
    have hs3 : s = 0 ∨ s = 1 ∨ s = 2 := by omega
    clear hqp hqn h3 hx64
    obtain ⟨y, hy⟩ : ∃ y : Nat, y = x % 8 := ⟨_, rfl⟩
    rw [← hy] at e1 e2 hr
    have hy8 : y < 8 := by omega
    have HY8 := yk hy8
    have HR8 := yk hr8
    have HRE := yk hr
    clear hy hy8 hr8 hr
    rcases hs3 with rfl | rfl | rfl
    · have e3 : wrap64 ((y : Int) * 1) = (y : Int) * 1 := by have := HY8.out; unfold wrap64; omega
      have e4 : ((y : Int) * 1).tmod 8 = (r : Int) := by rw [HRE.out]; have := HY8.out; show ((y : Int) * ((1 : Nat) : Int)).tmod 8 = _; rw [← Int.natCast_mul]; exact tmod_nat (y * 1) 8
      have e5 : wrap64 (r : Int) = (r : Int) := by have := HR8.out; unfold wrap64; omega
      have e6 : wrap64 (8 - (r : Int)) = 8 - (r : Int) := by have := HR8.out; unfold wrap64; omega
      have e7 : (8 - (r : Int)).tmod 8 = ((8 - r) % 8 : Nat) := by have := HR8.out; rw [show 8 - (r : Int) = ((8 - r : Nat) : Int) by omega]; exact tmod_nat (8 - r) 8
      have e8 : wrap64 (((8 - r) % 8 : Nat) : Int) = (((8 - r) % 8 : Nat) : Int) := by unfold wrap64; omega
      obtain ⟨rn, hrn⟩ : ∃ rn : Nat, rn = (8 - r) % 8 := ⟨_, rfl⟩
      rw [← hrn] at e7 e8
      have HRN := yk hrn
      clear hrn
      obtain ⟨q6, q6', q7, q7', q8, q8'⟩ := bc3 X0.out
      go_wp2_with fail
      go_quiet (fail)
      clear q6 q6' q7 q7' q8 q8'
      replace BEL := yk (BEL.out.next (quiet_below ⟨nq, rfl⟩))
      replace X0 := yk (yb X0.out (quiet_below ⟨nq, rfl⟩))
      replace P1 := yk (P1.out.below (quiet_below ⟨nq, rfl⟩))
      cases b2
      case false =>
       obtain ⟨q9, q9', q10, q10', q11, q11'⟩ := bc3 X0.out
       go_wp2_with fail
       go_ret2
       refine ⟨?_, BEL.out.1⟩
       rw [HN.out, ← HQP.out HBE.out.symm]
       show Ending.returned (.tuple #[.int .i64 ((y : Int) % 8), .bool true]) = Ending.returned (.tuple #[.int .i64 (r : Int), .bool true])
       rw [show (y : Int) % 8 = (r : Int) by rw [HRE.out]; omega]
      case true =>
       obtain ⟨q9, q9', q10, q10', q11, q11'⟩ := bc3 X0.out
       go_wp2_with fail
       go_ret2
       refine ⟨?_, BEL.out.1⟩
       rw [HN.out, ← HQN.out HBE.out.symm, ← HRN.out]
       show Ending.returned (.tuple #[.int .i64 ((8 - (y : Int) % 8) % 8), .bool true]) = Ending.returned (.tuple #[.int .i64 (rn : Int), .bool true])
       rw [show (8 - (y : Int) % 8) % 8 = (rn : Int) by rw [HRN.out, HRE.out]; omega]
    · have e3 : wrap64 ((y : Int) * 2) = (y : Int) * 2 := by have := HY8.out; unfold wrap64; omega
      have e4 : ((y : Int) * 2).tmod 8 = (r : Int) := by rw [HRE.out]; have := HY8.out; show ((y : Int) * ((2 : Nat) : Int)).tmod 8 = _; rw [← Int.natCast_mul]; exact tmod_nat (y * 2) 8
      have e5 : wrap64 (r : Int) = (r : Int) := by have := HR8.out; unfold wrap64; omega
      have e6 : wrap64 (8 - (r : Int)) = 8 - (r : Int) := by have := HR8.out; unfold wrap64; omega
      have e7 : (8 - (r : Int)).tmod 8 = ((8 - r) % 8 : Nat) := by have := HR8.out; rw [show 8 - (r : Int) = ((8 - r : Nat) : Int) by omega]; exact tmod_nat (8 - r) 8
      have e8 : wrap64 (((8 - r) % 8 : Nat) : Int) = (((8 - r) % 8 : Nat) : Int) := by unfold wrap64; omega
      obtain ⟨rn, hrn⟩ : ∃ rn : Nat, rn = (8 - r) % 8 := ⟨_, rfl⟩
      rw [← hrn] at e7 e8
      have HRN := yk hrn
      clear hrn
      obtain ⟨q6, q6', q7, q7', q8, q8'⟩ := bc3 X0.out
      go_wp2_with fail
      go_quiet (fail)
      clear q6 q6' q7 q7' q8 q8'
      replace BEL := yk (BEL.out.next (quiet_below ⟨nq, rfl⟩))
      replace X0 := yk (yb X0.out (quiet_below ⟨nq, rfl⟩))
      replace P1 := yk (P1.out.below (quiet_below ⟨nq, rfl⟩))
      cases b2
      case false =>
       obtain ⟨q9, q9', q10, q10', q11, q11'⟩ := bc3 X0.out
       go_wp2_with fail
       go_ret2
       refine ⟨?_, BEL.out.1⟩
       rw [HN.out, ← HQP.out HBE.out.symm]
       rfl
      case true =>
       obtain ⟨q9, q9', q10, q10', q11, q11'⟩ := bc3 X0.out
       go_wp2_with fail
       go_ret2
       refine ⟨?_, BEL.out.1⟩
       rw [HN.out, ← HQN.out HBE.out.symm, ← HRN.out]
       rfl
    · have e3 : wrap64 ((y : Int) * 4) = (y : Int) * 4 := by have := HY8.out; unfold wrap64; omega
      have e4 : ((y : Int) * 4).tmod 8 = (r : Int) := by rw [HRE.out]; have := HY8.out; show ((y : Int) * ((4 : Nat) : Int)).tmod 8 = _; rw [← Int.natCast_mul]; exact tmod_nat (y * 4) 8
      have e5 : wrap64 (r : Int) = (r : Int) := by have := HR8.out; unfold wrap64; omega
      have e6 : wrap64 (8 - (r : Int)) = 8 - (r : Int) := by have := HR8.out; unfold wrap64; omega
      have e7 : (8 - (r : Int)).tmod 8 = ((8 - r) % 8 : Nat) := by have := HR8.out; rw [show 8 - (r : Int) = ((8 - r : Nat) : Int) by omega]; exact tmod_nat (8 - r) 8
      have e8 : wrap64 (((8 - r) % 8 : Nat) : Int) = (((8 - r) % 8 : Nat) : Int) := by unfold wrap64; omega
      obtain ⟨rn, hrn⟩ : ∃ rn : Nat, rn = (8 - r) % 8 := ⟨_, rfl⟩
      rw [← hrn] at e7 e8
      have HRN := yk hrn
      clear hrn
      obtain ⟨q6, q6', q7, q7', q8, q8'⟩ := bc3 X0.out
      go_wp2_with fail
      go_quiet (fail)
      clear q6 q6' q7 q7' q8 q8'
      replace BEL := yk (BEL.out.next (quiet_below ⟨nq, rfl⟩))
      replace X0 := yk (yb X0.out (quiet_below ⟨nq, rfl⟩))
      replace P1 := yk (P1.out.below (quiet_below ⟨nq, rfl⟩))
      cases b2
      case false =>
       obtain ⟨q9, q9', q10, q10', q11, q11'⟩ := bc3 X0.out
       go_wp2_with fail
       go_ret2
       refine ⟨?_, BEL.out.1⟩
       rw [HN.out, ← HQP.out HBE.out.symm]
       rfl
      case true =>
       obtain ⟨q9, q9', q10, q10', q11, q11'⟩ := bc3 X0.out
       go_wp2_with fail
       go_ret2
       refine ⟨?_, BEL.out.1⟩
       rw [HN.out, ← HQN.out HBE.out.symm, ← HRN.out]
       rfl
theorem sgn_dle (r : Int) : decide (sgnI r ≤ 0) = decide (r ≤ 0) := by
 unfold sgnI
 by_cases h : r ≤ 0
 · rw [decide_eq_true h]; repeat' split
   all_goals first | rfl | omega
 · rw [decide_eq_false h]; repeat' split
   all_goals first | rfl | omega
theorem sgn_dge (r : Int) : decide (0 ≤ sgnI r) = decide (0 ≤ r) := by
 unfold sgnI
 by_cases h : 0 ≤ r
 · rw [decide_eq_true h]; repeat' split
   all_goals first | rfl | omega
 · rw [decide_eq_false h]; repeat' split
   all_goals first | rfl | omega
theorem finite_one (x : Nat) (w : World) :
 Calls Tryz.prog 24 #[.int .u64 (x : Int)] w fun e w' => e = .returned (.bool (finB x)) ∧ Below w.heap.size w w' := by
 by_cases h : x % 9223372036854775808 < 9218868437227405312
 · rw [show finB x = true from decide_eq_true h]
   exact (finite_any x h w).mono fun en w' q => ⟨q.1, quiet_below q.2⟩
 · rw [show finB x = false from decide_eq_false h]
   exact finite_no x h w
theorem dis_num (f : Nat) (hf : f < 256) (h : isF f = true) (w : World) :
 Calls Tryz.prog 10 #[.int .u8 f] w fun en w' => en = .returned (.bool true) ∧ Below w.heap.size w w' := h ▸ dis_one f hf w
theorem ddom_a {f x : Nat} (hf : f = 7 ∨ f = 8 ∨ f = 9) (hx : x < 18446744073709551616) (hfin : finB x = true) (w : World) :
 Calls Tryz.prog 14 #[.int .u8 f, .int .u64 (x : Int)] w fun en w' => en = .returned (.bool (decide (0 < fromV x))) ∧ Below w.heap.size w w' := by
 have QFr := yk (fun (W : World) => dfrom_any x hx W)
 have QFi := yk (fun (W : World) => finite_one x W)
 have OZ := yk (ok_z (fromV_small x))
 have HZS := yk (fromV_small x)
 rw [hfin] at QFr QFi
 have QZ := yk (fun (W : World) (u : Value) (hu : CDy W u (fromV x) (-1074)) => dord_any (0) (hu.nd OZ.out) OZ.out (by decide))
 have HS := yk (show decide (0 < sgnI (fromV x - 0 * 2 ^ 1074)) = decide (0 < fromV x) by rw [sgn_pos]; exact decide_eq_decide.2 (by omega))
 obtain ⟨s, hs⟩ : ∃ s, s = sgnI (fromV x - 0 * 2 ^ 1074) := ⟨_, rfl⟩
 rw [← hs] at HS QZ
 obtain ⟨q, hq⟩ : ∃ q, q = decide (0 < fromV x) := ⟨_, rfl⟩
 rw [← hq] at HS ⊢
 clear hs hq hfin hx
 generalize fromV x = z at *
 rcases hf with rfl | rfl | rfl
 all_goals (
  go_enter Tryz.func14, Tryz.ntmps14
  have BEL := yk (BelN.zero w)
  go_wp2_with fail
  go_at_call 10
  refine (dis_num _ (by decide) (by decide) _).mono ?_
  rintro en1 w1 ⟨rfl, hb⟩
  replace BEL := yk (BEL.out.next hb)
  clear hb
  go_wp2_with fail
  go_at_call 24
  refine (QFi.out _).mono ?_
  rintro en2 w2 ⟨rfl, hb⟩
  replace BEL := yk (BEL.out.next hb)
  clear hb
  go_wp2_with fail
  go_at_call 19
  refine (QFr.out _).mono ?_
  rintro en3 w3 ⟨v3, rfl, hr, hb⟩
  replace BEL := yk (BEL.out.next hb)
  have PX := yk hr
  obtain ⟨b3, A3, n3, c3, x3, rfl⟩ := hr.ex
  clear hr hb
  have BELo := BEL
  go_wp2_with (replace BEL := yk ((BEL.out.alloc (.cells #[.bool false, .slice none 0 0, .int .i64 0] 27)).less (j := 0) (by omega)); have HN := yk (blk_new w3 (.cells #[.bool false, .slice none 0 0, .int .i64 0] 27)); replace PX := yk (PX.out.below (below_alloc yr (.cells #[.bool false, .slice none 0 0, .int .i64 0] 27))); ((with_reducible refine gate_store (p := 5) rfl ?_); go_must (refine sdy 5 (.tmp 20) rfl rfl rfl rfl rfl HN.out rfl ?_; intro wb HX HG)); replace PX := yk (PX.out.grown_box HN.out (by decide) HG.out); have LB_XD := BELo.out.2; replace BEL := yk (BEL.out.grown HG.out (Nat.le_trans (Nat.le_add_right _ _) LB_XD)); have LL_XD := yk LB_XD; clear LB_XD; have XD := HX; clear HG HN HX; obtain ⟨q0, q0', q1, q1', q2, q2'⟩ := bc3 XD.out)
  clear q0 q0' q1 q1' q2 q2'
  go_at_call 25
  refine (QZ.out _ _ PX.out.c).mono ?_
  rintro en4 w4 ⟨rfl, hb⟩
  replace BEL := yk (BEL.out.next hb)
  replace XD := yk (yb XD.out hb)
  replace PX := yk (PX.out.below hb)
  clear hb
  have hs := HS.out
  go_wp2_with fail
  go_ret
  exact ⟨ret_bool (by rfl), BEL.out.1⟩)

theorem ddom_b {f x : Nat} (hf : f = 10 ∨ f = 11 ∨ f = 12) (hx : x < 18446744073709551616) (hfin : finB x = true) (w : World) :
 Calls Tryz.prog 14 #[.int .u8 f, .int .u64 (x : Int)] w fun en w' => en = .returned (.bool (decide (-1 * 2 ^ 1074 < fromV x))) ∧ Below w.heap.size w w' := by
 have QFr := yk (fun (W : World) => dfrom_any x hx W)
 have QFi := yk (fun (W : World) => finite_one x W)
 have OZ := yk (ok_z (fromV_small x))
 have HZS := yk (fromV_small x)
 rw [hfin] at QFr QFi
 have QN := yk (fun (W : World) (u : Value) (hu : CDy W u (fromV x) (-1074)) => dord_any (-1) (hu.nd OZ.out) OZ.out (by decide))
 have HS := yk (show decide (0 < sgnI (fromV x - -1 * 2 ^ 1074)) = decide (-1 * 2 ^ 1074 < fromV x) by rw [sgn_pos]; exact decide_eq_decide.2 (by omega))
 obtain ⟨s, hs⟩ : ∃ s, s = sgnI (fromV x - -1 * 2 ^ 1074) := ⟨_, rfl⟩
 rw [← hs] at HS QN
 obtain ⟨q, hq⟩ : ∃ q, q = decide (-1 * 2 ^ 1074 < fromV x) := ⟨_, rfl⟩
 rw [← hq] at HS ⊢
 clear hs hq hfin hx
 generalize fromV x = z at *
 rcases hf with rfl | rfl | rfl
 all_goals (
  go_enter Tryz.func14, Tryz.ntmps14
  have BEL := yk (BelN.zero w)
  go_wp2_with fail
  go_at_call 10
  refine (dis_num _ (by decide) (by decide) _).mono ?_
  rintro en1 w1 ⟨rfl, hb⟩
  replace BEL := yk (BEL.out.next hb)
  clear hb
  go_wp2_with fail
  go_at_call 24
  refine (QFi.out _).mono ?_
  rintro en2 w2 ⟨rfl, hb⟩
  replace BEL := yk (BEL.out.next hb)
  clear hb
  go_wp2_with fail
  go_at_call 19
  refine (QFr.out _).mono ?_
  rintro en3 w3 ⟨v3, rfl, hr, hb⟩
  replace BEL := yk (BEL.out.next hb)
  have PX := yk hr
  obtain ⟨b3, A3, n3, c3, x3, rfl⟩ := hr.ex
  clear hr hb
  have BELo := BEL
  go_wp2_with (replace BEL := yk ((BEL.out.alloc (.cells #[.bool false, .slice none 0 0, .int .i64 0] 27)).less (j := 0) (by omega)); have HN := yk (blk_new w3 (.cells #[.bool false, .slice none 0 0, .int .i64 0] 27)); replace PX := yk (PX.out.below (below_alloc yr (.cells #[.bool false, .slice none 0 0, .int .i64 0] 27))); ((with_reducible refine gate_store (p := 5) rfl ?_); go_must (refine sdy 5 (.tmp 20) rfl rfl rfl rfl rfl HN.out rfl ?_; intro wb HX HG)); replace PX := yk (PX.out.grown_box HN.out (by decide) HG.out); have LB_XD := BELo.out.2; replace BEL := yk (BEL.out.grown HG.out (Nat.le_trans (Nat.le_add_right _ _) LB_XD)); have LL_XD := yk LB_XD; clear LB_XD; have XD := HX; clear HG HN HX; obtain ⟨q0, q0', q1, q1', q2, q2'⟩ := bc3 XD.out)
  clear q0 q0' q1 q1' q2 q2'
  go_at_call 25
  refine (QN.out _ _ PX.out.c).mono ?_
  rintro en4 w4 ⟨rfl, hb⟩
  replace BEL := yk (BEL.out.next hb)
  replace XD := yk (yb XD.out hb)
  replace PX := yk (PX.out.below hb)
  clear hb
  have hs := HS.out
  go_wp2_with fail
  go_ret
  exact ⟨ret_bool (by rfl), BEL.out.1⟩)

theorem ddom_e {f x : Nat} (hf : f = 29) (hx : x < 18446744073709551616) (hfin : finB x = true) (w : World) :
 Calls Tryz.prog 14 #[.int .u8 f, .int .u64 (x : Int)] w fun en w' => en = .returned (.bool (decide (1 * 2 ^ 1074 ≤ fromV x))) ∧ Below w.heap.size w w' := by
 have QFr := yk (fun (W : World) => dfrom_any x hx W)
 have QFi := yk (fun (W : World) => finite_one x W)
 have OZ := yk (ok_z (fromV_small x))
 have HZS := yk (fromV_small x)
 rw [hfin] at QFr QFi
 have QP := yk (fun (W : World) (u : Value) (hu : CDy W u (fromV x) (-1074)) => dord_any (1) (hu.nd OZ.out) OZ.out (by decide))
 have HS := yk (show decide (0 ≤ sgnI (fromV x - 1 * 2 ^ 1074)) = decide (1 * 2 ^ 1074 ≤ fromV x) by rw [sgn_dge]; exact decide_eq_decide.2 (by omega))
 obtain ⟨s, hs⟩ : ∃ s, s = sgnI (fromV x - 1 * 2 ^ 1074) := ⟨_, rfl⟩
 rw [← hs] at HS QP
 obtain ⟨q, hq⟩ : ∃ q, q = decide (1 * 2 ^ 1074 ≤ fromV x) := ⟨_, rfl⟩
 rw [← hq] at HS ⊢
 clear hs hq hfin hx
 generalize fromV x = z at *
 subst hf
 all_goals (
  go_enter Tryz.func14, Tryz.ntmps14
  have BEL := yk (BelN.zero w)
  go_wp2_with fail
  go_at_call 10
  refine (dis_num _ (by decide) (by decide) _).mono ?_
  rintro en1 w1 ⟨rfl, hb⟩
  replace BEL := yk (BEL.out.next hb)
  clear hb
  go_wp2_with fail
  go_at_call 24
  refine (QFi.out _).mono ?_
  rintro en2 w2 ⟨rfl, hb⟩
  replace BEL := yk (BEL.out.next hb)
  clear hb
  go_wp2_with fail
  go_at_call 19
  refine (QFr.out _).mono ?_
  rintro en3 w3 ⟨v3, rfl, hr, hb⟩
  replace BEL := yk (BEL.out.next hb)
  have PX := yk hr
  obtain ⟨b3, A3, n3, c3, x3, rfl⟩ := hr.ex
  clear hr hb
  have BELo := BEL
  go_wp2_with (replace BEL := yk ((BEL.out.alloc (.cells #[.bool false, .slice none 0 0, .int .i64 0] 27)).less (j := 0) (by omega)); have HN := yk (blk_new w3 (.cells #[.bool false, .slice none 0 0, .int .i64 0] 27)); replace PX := yk (PX.out.below (below_alloc yr (.cells #[.bool false, .slice none 0 0, .int .i64 0] 27))); ((with_reducible refine gate_store (p := 5) rfl ?_); go_must (refine sdy 5 (.tmp 20) rfl rfl rfl rfl rfl HN.out rfl ?_; intro wb HX HG)); replace PX := yk (PX.out.grown_box HN.out (by decide) HG.out); have LB_XD := BELo.out.2; replace BEL := yk (BEL.out.grown HG.out (Nat.le_trans (Nat.le_add_right _ _) LB_XD)); have LL_XD := yk LB_XD; clear LB_XD; have XD := HX; clear HG HN HX; obtain ⟨q0, q0', q1, q1', q2, q2'⟩ := bc3 XD.out)
  clear q0 q0' q1 q1' q2 q2'
  go_at_call 25
  refine (QP.out _ _ PX.out.c).mono ?_
  rintro en4 w4 ⟨rfl, hb⟩
  replace BEL := yk (BEL.out.next hb)
  replace XD := yk (yb XD.out hb)
  replace PX := yk (PX.out.below hb)
  clear hb
  have hs := HS.out
  go_wp2_with fail
  go_ret
  exact ⟨ret_bool (by rfl), BEL.out.1⟩)

theorem ddom_d {f x : Nat} (hf : f = 19 ∨ f = 20 ∨ f = 22 ∨ f = 23) (hx : x < 18446744073709551616) (hfin : finB x = true) (w : World) :
 Calls Tryz.prog 14 #[.int .u8 f, .int .u64 (x : Int)] w fun en w' => en = .returned (.bool (decide (((fromV x).natAbs : Int) ≤ 1 * 2 ^ 1074))) ∧ Below w.heap.size w w' := by
 have QFr := yk (fun (W : World) => dfrom_any x hx W)
 have QFi := yk (fun (W : World) => finite_one x W)
 have OZ := yk (ok_z (fromV_small x))
 have HZS := yk (fromV_small x)
 rw [hfin] at QFr QFi
 have QP := yk (fun (W : World) (u : Value) (hu : CDy W u (fromV x) (-1074)) => dord_any (1) (hu.nd OZ.out) OZ.out (by decide))
 have QN := yk (fun (W : World) (u : Value) (hu : CDy W u (fromV x) (-1074)) => dord_any (-1) (hu.nd OZ.out) OZ.out (by decide))
 obtain ⟨q1, hq1⟩ : ∃ q, q = decide (sgnI (fromV x - 1 * 2 ^ 1074) ≤ 0) := ⟨_, rfl⟩
 obtain ⟨q2, hq2⟩ : ∃ q, q = decide (0 ≤ sgnI (fromV x - -1 * 2 ^ 1074)) := ⟨_, rfl⟩
 have HR := yk (show (q1 && q2) = decide (((fromV x).natAbs : Int) ≤ 1 * 2 ^ 1074) by
  rw [hq1, hq2, sgn_dle, sgn_dge, ← Bool.decide_and]; exact decide_eq_decide.2 (by omega))
 obtain ⟨s, hs⟩ : ∃ s, s = sgnI (fromV x - 1 * 2 ^ 1074) := ⟨_, rfl⟩
 obtain ⟨s2, hs2⟩ : ∃ s, s = sgnI (fromV x - -1 * 2 ^ 1074) := ⟨_, rfl⟩
 rw [← hs] at QP hq1
 rw [← hs2] at QN hq2
 have HS := yk hq1.symm
 have HS2 := yk hq2.symm
 obtain ⟨q, hq⟩ : ∃ q, q = decide (((fromV x).natAbs : Int) ≤ 1 * 2 ^ 1074) := ⟨_, rfl⟩
 rw [← hq] at HR ⊢
 clear hs hs2 hq hq1 hq2 hfin hx
 generalize fromV x = z at *
 rcases hf with rfl | rfl | rfl | rfl
 all_goals (
  go_enter Tryz.func14, Tryz.ntmps14
  have BEL := yk (BelN.zero w)
  go_wp2_with fail
  go_at_call 10
  refine (dis_num _ (by decide) (by decide) _).mono ?_
  rintro en1 w1 ⟨rfl, hb⟩
  replace BEL := yk (BEL.out.next hb)
  clear hb
  go_wp2_with fail
  go_at_call 24
  refine (QFi.out _).mono ?_
  rintro en2 w2 ⟨rfl, hb⟩
  replace BEL := yk (BEL.out.next hb)
  clear hb
  go_wp2_with fail
  go_at_call 19
  refine (QFr.out _).mono ?_
  rintro en3 w3 ⟨v3, rfl, hr, hb⟩
  replace BEL := yk (BEL.out.next hb)
  have PX := yk hr
  obtain ⟨b3, A3, n3, c3, x3, rfl⟩ := hr.ex
  clear hr hb
  have BELo := BEL
  go_wp2_with (replace BEL := yk ((BEL.out.alloc (.cells #[.bool false, .slice none 0 0, .int .i64 0] 27)).less (j := 0) (by omega)); have HN := yk (blk_new w3 (.cells #[.bool false, .slice none 0 0, .int .i64 0] 27)); replace PX := yk (PX.out.below (below_alloc yr (.cells #[.bool false, .slice none 0 0, .int .i64 0] 27))); ((with_reducible refine gate_store (p := 5) rfl ?_); go_must (refine sdy 5 (.tmp 20) rfl rfl rfl rfl rfl HN.out rfl ?_; intro wb HX HG)); replace PX := yk (PX.out.grown_box HN.out (by decide) HG.out); have LB_XD := BELo.out.2; replace BEL := yk (BEL.out.grown HG.out (Nat.le_trans (Nat.le_add_right _ _) LB_XD)); have LL_XD := yk LB_XD; clear LB_XD; have XD := HX; clear HG HN HX; obtain ⟨q0, q0', q1, q1', q2, q2'⟩ := bc3 XD.out)
  clear q0 q0' q1 q1' q2 q2'
  go_at_call 25
  refine (QP.out _ _ PX.out.c).mono ?_
  rintro en4 w4 ⟨rfl, hb⟩
  replace BEL := yk (BEL.out.next hb)
  replace XD := yk (yb XD.out hb)
  replace PX := yk (PX.out.below hb)
  clear hb
  have hs := HS.out
  cases q1
  case false =>
   obtain ⟨q3, q3', q4, q4', q5, q5'⟩ := bc3 XD.out
   go_wp2_with fail
   go_ret
   exact ⟨ret_bool (by rw [← HR.out]; rfl), BEL.out.1⟩
  case true =>
   obtain ⟨q3, q3', q4, q4', q5, q5'⟩ := bc3 XD.out
   go_wp2_with fail
   clear q3 q3' q4 q4' q5 q5'
   go_at_call 25
   refine (QN.out _ _ PX.out.c).mono ?_
   rintro en5 w5 ⟨rfl, hb⟩
   replace BEL := yk (BEL.out.next hb)
   replace XD := yk (yb XD.out hb)
   replace PX := yk (PX.out.below hb)
   clear hb
   have hs2 := HS2.out
   go_wp2_with fail
   go_ret
   exact ⟨ret_bool (by rw [← HR.out]; rfl), BEL.out.1⟩)

theorem ddom_f {f x : Nat} (hf : f = 30) (hx : x < 18446744073709551616) (hfin : finB x = true) (w : World) :
 Calls Tryz.prog 14 #[.int .u8 f, .int .u64 (x : Int)] w fun en w' => en = .returned (.bool (decide (((fromV x).natAbs : Int) < 1 * 2 ^ 1074))) ∧ Below w.heap.size w w' := by
 have QFr := yk (fun (W : World) => dfrom_any x hx W)
 have QFi := yk (fun (W : World) => finite_one x W)
 have OZ := yk (ok_z (fromV_small x))
 have HZS := yk (fromV_small x)
 rw [hfin] at QFr QFi
 have QP := yk (fun (W : World) (u : Value) (hu : CDy W u (fromV x) (-1074)) => dord_any (1) (hu.nd OZ.out) OZ.out (by decide))
 have QN := yk (fun (W : World) (u : Value) (hu : CDy W u (fromV x) (-1074)) => dord_any (-1) (hu.nd OZ.out) OZ.out (by decide))
 obtain ⟨q1, hq1⟩ : ∃ q, q = decide (sgnI (fromV x - 1 * 2 ^ 1074) < 0) := ⟨_, rfl⟩
 obtain ⟨q2, hq2⟩ : ∃ q, q = decide (0 < sgnI (fromV x - -1 * 2 ^ 1074)) := ⟨_, rfl⟩
 have HR := yk (show (q1 && q2) = decide (((fromV x).natAbs : Int) < 1 * 2 ^ 1074) by
  rw [hq1, hq2, sgn_dlt, sgn_pos, ← Bool.decide_and]; exact decide_eq_decide.2 (by omega))
 obtain ⟨s, hs⟩ : ∃ s, s = sgnI (fromV x - 1 * 2 ^ 1074) := ⟨_, rfl⟩
 obtain ⟨s2, hs2⟩ : ∃ s, s = sgnI (fromV x - -1 * 2 ^ 1074) := ⟨_, rfl⟩
 rw [← hs] at QP hq1
 rw [← hs2] at QN hq2
 have HS := yk hq1.symm
 have HS2 := yk hq2.symm
 obtain ⟨q, hq⟩ : ∃ q, q = decide (((fromV x).natAbs : Int) < 1 * 2 ^ 1074) := ⟨_, rfl⟩
 rw [← hq] at HR ⊢
 clear hs hs2 hq hq1 hq2 hfin hx
 generalize fromV x = z at *
 subst hf
 all_goals (
  go_enter Tryz.func14, Tryz.ntmps14
  have BEL := yk (BelN.zero w)
  go_wp2_with fail
  go_at_call 10
  refine (dis_num _ (by decide) (by decide) _).mono ?_
  rintro en1 w1 ⟨rfl, hb⟩
  replace BEL := yk (BEL.out.next hb)
  clear hb
  go_wp2_with fail
  go_at_call 24
  refine (QFi.out _).mono ?_
  rintro en2 w2 ⟨rfl, hb⟩
  replace BEL := yk (BEL.out.next hb)
  clear hb
  go_wp2_with fail
  go_at_call 19
  refine (QFr.out _).mono ?_
  rintro en3 w3 ⟨v3, rfl, hr, hb⟩
  replace BEL := yk (BEL.out.next hb)
  have PX := yk hr
  obtain ⟨b3, A3, n3, c3, x3, rfl⟩ := hr.ex
  clear hr hb
  have BELo := BEL
  go_wp2_with (replace BEL := yk ((BEL.out.alloc (.cells #[.bool false, .slice none 0 0, .int .i64 0] 27)).less (j := 0) (by omega)); have HN := yk (blk_new w3 (.cells #[.bool false, .slice none 0 0, .int .i64 0] 27)); replace PX := yk (PX.out.below (below_alloc yr (.cells #[.bool false, .slice none 0 0, .int .i64 0] 27))); ((with_reducible refine gate_store (p := 5) rfl ?_); go_must (refine sdy 5 (.tmp 20) rfl rfl rfl rfl rfl HN.out rfl ?_; intro wb HX HG)); replace PX := yk (PX.out.grown_box HN.out (by decide) HG.out); have LB_XD := BELo.out.2; replace BEL := yk (BEL.out.grown HG.out (Nat.le_trans (Nat.le_add_right _ _) LB_XD)); have LL_XD := yk LB_XD; clear LB_XD; have XD := HX; clear HG HN HX; obtain ⟨q0, q0', q1, q1', q2, q2'⟩ := bc3 XD.out)
  clear q0 q0' q1 q1' q2 q2'
  go_at_call 25
  refine (QP.out _ _ PX.out.c).mono ?_
  rintro en4 w4 ⟨rfl, hb⟩
  replace BEL := yk (BEL.out.next hb)
  replace XD := yk (yb XD.out hb)
  replace PX := yk (PX.out.below hb)
  clear hb
  have hs := HS.out
  cases q1
  case false =>
   obtain ⟨q3, q3', q4, q4', q5, q5'⟩ := bc3 XD.out
   go_wp2_with fail
   go_ret
   exact ⟨ret_bool (by rw [← HR.out]; rfl), BEL.out.1⟩
  case true =>
   obtain ⟨q3, q3', q4, q4', q5, q5'⟩ := bc3 XD.out
   go_wp2_with fail
   clear q3 q3' q4 q4' q5 q5'
   go_at_call 25
   refine (QN.out _ _ PX.out.c).mono ?_
   rintro en5 w5 ⟨rfl, hb⟩
   replace BEL := yk (BEL.out.next hb)
   replace XD := yk (yb XD.out hb)
   replace PX := yk (PX.out.below hb)
   clear hb
   have hs2 := HS2.out
   go_wp2_with fail
   go_ret
   exact ⟨ret_bool (by rw [← HR.out]; rfl), BEL.out.1⟩)

theorem ddom_c {f x : Nat} (hf : f = 18) (hx : x < 18446744073709551616) (hfin : finB x = true) (w : World) :
 Calls Tryz.prog 14 #[.int .u8 f, .int .u64 (x : Int)] w fun en w' => en = .returned (.bool (!(quarF (fromV x)).isSome || !((quarF (fromV x)).getD 0 % 4 == 2))) ∧ Below w.heap.size w w' := by
 have QFr := yk (fun (W : World) => dfrom_any x hx W)
 have QFi := yk (fun (W : World) => finite_one x W)
 have OZ := yk (ok_z (fromV_small x))
 have HZS := yk (fromV_small x)
 rw [hfin] at QFr QFi
 have QQ := yk (fun (W : World) (u : Value) (hu : CDy W u (fromV x) (-1074)) => dquarters_any hu (fromV_small x))
 have HQ := yk (show ∀ n, quarF (fromV x) = some n → 0 ≤ n ∧ n < 8 by
  intro n hn; exact quar_range hn)
 clear hfin hx
 generalize fromV x = z at *
 generalize quarF z = Q at *
 subst hf
 rcases Q with _ | n
 case none =>
  go_enter Tryz.func14, Tryz.ntmps14
  have BEL := yk (BelN.zero w)
  go_wp2_with fail
  go_at_call 10
  refine (dis_num _ (by decide) (by decide) _).mono ?_
  rintro en1 w1 ⟨rfl, hb⟩
  replace BEL := yk (BEL.out.next hb)
  clear hb
  go_wp2_with fail
  go_at_call 24
  refine (QFi.out _).mono ?_
  rintro en2 w2 ⟨rfl, hb⟩
  replace BEL := yk (BEL.out.next hb)
  clear hb
  go_wp2_with fail
  go_at_call 19
  refine (QFr.out _).mono ?_
  rintro en3 w3 ⟨v3, rfl, hr, hb⟩
  replace BEL := yk (BEL.out.next hb)
  have PX := yk hr
  obtain ⟨b3, A3, n3, c3, x3, rfl⟩ := hr.ex
  clear hr hb
  have BELo := BEL
  go_wp2_with (replace BEL := yk ((BEL.out.alloc (.cells #[.bool false, .slice none 0 0, .int .i64 0] 27)).less (j := 0) (by omega)); have HN := yk (blk_new w3 (.cells #[.bool false, .slice none 0 0, .int .i64 0] 27)); replace PX := yk (PX.out.below (below_alloc yr (.cells #[.bool false, .slice none 0 0, .int .i64 0] 27))); ((with_reducible refine gate_store (p := 5) rfl ?_); go_must (refine sdy 5 (.tmp 20) rfl rfl rfl rfl rfl HN.out rfl ?_; intro wb HX HG)); replace PX := yk (PX.out.grown_box HN.out (by decide) HG.out); have LB_XD := BELo.out.2; replace BEL := yk (BEL.out.grown HG.out (Nat.le_trans (Nat.le_add_right _ _) LB_XD)); have LL_XD := yk LB_XD; clear LB_XD; have XD := HX; clear HG HN HX; obtain ⟨q0, q0', q1, q1', q2, q2'⟩ := bc3 XD.out)
  clear q0 q0' q1 q1' q2 q2'
  go_at_call 26
  refine (QQ.out _ _ PX.out.c).mono ?_
  rintro en4 w4 ⟨rfl, hb⟩
  replace BEL := yk (BEL.out.next hb)
  replace XD := yk (yb XD.out hb)
  replace PX := yk (PX.out.below hb)
  clear hb
  simp only [Option.getD_some, Option.getD_none, Option.isSome_some, Option.isSome_none]
  go_wp2_with fail
  go_ret
  exact ⟨ret_bool (by rfl), BEL.out.1⟩
 case some =>
  have hn := HQ.out n rfl
  have e1 : wrap64 (n.tmod 4) = n % 4 := by
   obtain ⟨m, rfl⟩ : ∃ m : Nat, n = m := ⟨n.toNat, by omega⟩
   rw [show (4 : Int) = ((4 : Nat) : Int) from rfl, tmod_nat]; unfold wrap64; omega
  have e2 : n.tmod 4 = n % 4 := Int.tmod_eq_emod_of_nonneg hn.1
  have e3 : wrap64 (n % 4) = n % 4 := by unfold wrap64; omega
  obtain ⟨t, ht⟩ : ∃ t, (n % 4 == 2) = t := ⟨_, rfl⟩
  have HT := yk ht
  have e4 : (n % 4 != 2) = !t := by rw [← ht]; rfl
  clear hn ht
  go_enter Tryz.func14, Tryz.ntmps14
  have BEL := yk (BelN.zero w)
  go_wp2_with fail
  go_at_call 10
  refine (dis_num _ (by decide) (by decide) _).mono ?_
  rintro en1 w1 ⟨rfl, hb⟩
  replace BEL := yk (BEL.out.next hb)
  clear hb
  go_wp2_with fail
  go_at_call 24
  refine (QFi.out _).mono ?_
  rintro en2 w2 ⟨rfl, hb⟩
  replace BEL := yk (BEL.out.next hb)
  clear hb
  go_wp2_with fail
  go_at_call 19
  refine (QFr.out _).mono ?_
  rintro en3 w3 ⟨v3, rfl, hr, hb⟩
  replace BEL := yk (BEL.out.next hb)
  have PX := yk hr
  obtain ⟨b3, A3, n3, c3, x3, rfl⟩ := hr.ex
  clear hr hb
  have BELo := BEL
  go_wp2_with (replace BEL := yk ((BEL.out.alloc (.cells #[.bool false, .slice none 0 0, .int .i64 0] 27)).less (j := 0) (by omega)); have HN := yk (blk_new w3 (.cells #[.bool false, .slice none 0 0, .int .i64 0] 27)); replace PX := yk (PX.out.below (below_alloc yr (.cells #[.bool false, .slice none 0 0, .int .i64 0] 27))); ((with_reducible refine gate_store (p := 5) rfl ?_); go_must (refine sdy 5 (.tmp 20) rfl rfl rfl rfl rfl HN.out rfl ?_; intro wb HX HG)); replace PX := yk (PX.out.grown_box HN.out (by decide) HG.out); have LB_XD := BELo.out.2; replace BEL := yk (BEL.out.grown HG.out (Nat.le_trans (Nat.le_add_right _ _) LB_XD)); have LL_XD := yk LB_XD; clear LB_XD; have XD := HX; clear HG HN HX; obtain ⟨q0, q0', q1, q1', q2, q2'⟩ := bc3 XD.out)
  clear q0 q0' q1 q1' q2 q2'
  go_at_call 26
  refine (QQ.out _ _ PX.out.c).mono ?_
  rintro en4 w4 ⟨rfl, hb⟩
  replace BEL := yk (BEL.out.next hb)
  replace XD := yk (yb XD.out hb)
  replace PX := yk (PX.out.below hb)
  clear hb
  simp only [Option.getD_some, Option.getD_none, Option.isSome_some, Option.isSome_none]
  go_wp2_with fail
  go_ret
  exact ⟨ret_bool (by show _ = (!true || !(n % 4 == 2)); rw [HT.out]; first | rfl | simp), BEL.out.1⟩

theorem ddom_g {f x : Nat} (hf : isF f = true ∧ ¬ f = 7 ∧ ¬ f = 8 ∧ ¬ f = 9 ∧ ¬ f = 10 ∧ ¬ f = 11 ∧ ¬ f = 12 ∧ ¬ f = 18 ∧ ¬ f = 19 ∧ ¬ f = 20 ∧ ¬ f = 22 ∧ ¬ f = 23 ∧ ¬ f = 29 ∧ ¬ f = 30) (hx : x < 18446744073709551616) (hfin : finB x = true) (w : World) :
 Calls Tryz.prog 14 #[.int .u8 f, .int .u64 (x : Int)] w fun en w' => en = .returned (.bool (true)) ∧ Below w.heap.size w w' := by
 have QFr := yk (fun (W : World) => dfrom_any x hx W)
 have QFi := yk (fun (W : World) => finite_one x W)
 have OZ := yk (ok_z (fromV_small x))
 have HZS := yk (fromV_small x)
 rw [hfin] at QFr QFi
 have hf0 : f < 256 := by have := isF_range hf.1; omega
 have QIs := yk (fun (W : World) => dis_num f hf0 hf.1 W)
 replace hf := hf.2
 have e7 : ((f : Int) == 7) = false := by simp; omega
 have e8 : ((f : Int) == 8) = false := by simp; omega
 have e9 : ((f : Int) == 9) = false := by simp; omega
 have e10 : ((f : Int) == 10) = false := by simp; omega
 have e11 : ((f : Int) == 11) = false := by simp; omega
 have e12 : ((f : Int) == 12) = false := by simp; omega
 have e18 : ((f : Int) == 18) = false := by simp; omega
 have e19 : ((f : Int) == 19) = false := by simp; omega
 have e20 : ((f : Int) == 20) = false := by simp; omega
 have e22 : ((f : Int) == 22) = false := by simp; omega
 have e23 : ((f : Int) == 23) = false := by simp; omega
 have e29 : ((f : Int) == 29) = false := by simp; omega
 have e30 : ((f : Int) == 30) = false := by simp; omega
 clear hx hf hf0 hfin
 generalize fromV x = z at *
 go_enter Tryz.func14, Tryz.ntmps14
 have BEL := yk (BelN.zero w)
 go_wp2_with fail
 go_at_call 10
 refine (QIs.out _).mono ?_
 rintro en1 w1 ⟨rfl, hb⟩
 replace BEL := yk (BEL.out.next hb)
 clear hb
 go_wp2_with fail
 go_at_call 24
 refine (QFi.out _).mono ?_
 rintro en2 w2 ⟨rfl, hb⟩
 replace BEL := yk (BEL.out.next hb)
 clear hb
 go_wp2_with fail
 go_at_call 19
 refine (QFr.out _).mono ?_
 rintro en3 w3 ⟨v3, rfl, hr, hb⟩
 replace BEL := yk (BEL.out.next hb)
 have PX := yk hr
 obtain ⟨b3, A3, n3, c3, x3, rfl⟩ := hr.ex
 clear hr hb
 have BELo := BEL
 go_wp2_with (replace BEL := yk ((BEL.out.alloc (.cells #[.bool false, .slice none 0 0, .int .i64 0] 27)).less (j := 0) (by omega)); have HN := yk (blk_new w3 (.cells #[.bool false, .slice none 0 0, .int .i64 0] 27)); replace PX := yk (PX.out.below (below_alloc yr (.cells #[.bool false, .slice none 0 0, .int .i64 0] 27))); ((with_reducible refine gate_store (p := 5) rfl ?_); go_must (refine sdy 5 (.tmp 20) rfl rfl rfl rfl rfl HN.out rfl ?_; intro wb HX HG)); replace PX := yk (PX.out.grown_box HN.out (by decide) HG.out); have LB_XD := BELo.out.2; replace BEL := yk (BEL.out.grown HG.out (Nat.le_trans (Nat.le_add_right _ _) LB_XD)); have LL_XD := yk LB_XD; clear LB_XD; have XD := HX; clear HG HN HX; obtain ⟨q0, q0', q1, q1', q2, q2'⟩ := bc3 XD.out)
 clear q0 q0' q1 q1' q2 q2'
 go_ret
 exact ⟨ret_bool (by rfl), BEL.out.1⟩
theorem ddom_n {f x : Nat} (hf : isF f = false) (hf0 : f < 256) (w : World) :
 Calls Tryz.prog 14 #[.int .u8 f, .int .u64 (x : Int)] w fun en w' => en = .returned (.bool (false)) ∧ Below w.heap.size w w' := by
 have QIs := yk (fun (W : World) => hf ▸ dis_one f hf0 W)
 clear hf hf0
 go_enter Tryz.func14, Tryz.ntmps14
 have BEL := yk (BelN.zero w)
 go_wp2_with fail
 go_at_call 10
 refine (QIs.out _).mono ?_
 rintro en1 w1 ⟨rfl, hb⟩
 replace BEL := yk (BEL.out.next hb)
 clear hb
 go_wp2_with fail
 go_ret
 exact ⟨ret_bool (by rfl), BEL.out.1⟩
theorem ddom_i {f x : Nat} (hf : isF f = true) (hfin : finB x = false) (w : World) :
 Calls Tryz.prog 14 #[.int .u8 f, .int .u64 (x : Int)] w fun en w' => en = .returned (.bool (false)) ∧ Below w.heap.size w w' := by
 have hf0 : f < 256 := by have := isF_range hf; omega
 have QIs := yk (fun (W : World) => dis_num f hf0 hf W)
 have QFi := yk (fun (W : World) => hfin ▸ finite_one x W)
 clear hf hf0 hfin
 go_enter Tryz.func14, Tryz.ntmps14
 have BEL := yk (BelN.zero w)
 go_wp2_with fail
 go_at_call 10
 refine (QIs.out _).mono ?_
 rintro en1 w1 ⟨rfl, hb⟩
 replace BEL := yk (BEL.out.next hb)
 clear hb
 go_wp2_with fail
 go_at_call 24
 refine (QFi.out _).mono ?_
 rintro en2 w2 ⟨rfl, hb⟩
 replace BEL := yk (BEL.out.next hb)
 clear hb
 go_wp2_with fail
 go_ret
 exact ⟨ret_bool (by rfl), BEL.out.1⟩

/-- The nearest place, M being a quarter. -/
def nearM (M z : Int) : Int := if ((z + M) / (2 * M)) % 2 ≠ 0 ∧ (z + M) / (2 * M) * (2 * M) - z = M then (z + M) / (2 * M) - 1 else (z + M) / (2 * M)
theorem nearF_M (z : Int) : nearF z 1072 = nearM (2 ^ 1072) z := by
 unfold nearF nearM
 rw [show (2 : Int) ^ (1072 + 1) = 2 * 2 ^ 1072 by rw [Int.pow_succ, Int.mul_comm]]
theorem nearM_even {M b : Int} (h : 0 < M) : nearM M (2 * b * M) = b := by
 unfold nearM
 have e : (2 * b * M + M) / (2 * M) = b := by
  rw [show 2 * b * M + M = M + b * (2 * M) by rw [Int.mul_comm 2 b, Int.mul_assoc, Int.add_comm], Int.add_mul_ediv_right _ _ (by omega), Int.ediv_eq_zero_of_lt (by omega) (by omega), Int.zero_add]
 rw [e, if_neg]
 rintro ⟨-, h2⟩
 rw [show b * (2 * M) = 2 * b * M by rw [Int.mul_comm 2 b, Int.mul_assoc]] at h2
 omega
theorem nearM_odd {M b : Int} (h : 0 < M) : nearM M ((2 * b + 1) * M) = if b % 2 = 0 then b else b + 1 := by
 unfold nearM
 have e0 : (2 * b + 1) * M + M = (b + 1) * (2 * M) := by
  rw [show (b + 1) * (2 * M) = ((b + 1) * 2) * M by rw [Int.mul_assoc], show (b + 1) * 2 = (2 * b + 1) + 1 by omega, Int.add_mul (2 * b + 1) 1 M, Int.one_mul]
 have e : ((2 * b + 1) * M + M) / (2 * M) = b + 1 := by rw [e0]; exact Int.mul_ediv_cancel _ (by omega)
 rw [e, ← e0]
 by_cases hb : b % 2 = 0
 · rw [if_pos ⟨by omega, by omega⟩, if_pos hb]; omega
 · rw [if_neg (fun h => h.1 (by omega)), if_neg hb]
theorem two_mul_M (M n : Int) : n * (2 * M) = (2 * n) * M := by rw [← Int.mul_assoc, Int.mul_comm n 2]
theorem part_left {M z n : Int} (h : ¬ z % M = 0) : ¬ z - n * (2 * M) = 0 := by
 intro h1
 apply h
 rw [show z = (2 * n) * M by rw [← two_mul_M]; omega]
 exact Int.mul_emod_left _ _
theorem of_whole {M z : Int} (h : z % M = 0) : z = z / M * M := (Int.ediv_mul_cancel (Int.dvd_of_emod_eq_zero h)).symm
/-- The tangent's places, by quarters. -/
theorem tan_quar (z : Int) : (!(quarF z).isSome || !((quarF z).getD 0 % 4 == 2)) = (!decide (z - nearF z 1072 * 2 ^ 1073 = 0) || (Int.tmod (nearF z 1072 % 4) 2 == 0)) := by
 have h0 : (0 : Int) < 2 ^ 1072 := Int.pow_pos (by decide)
 unfold quarF
 rw [nearF_M, show (2 : Int) ^ 1073 = 2 * 2 ^ 1072 by rw [show (1073 : Nat) = 1072 + 1 from rfl, Int.pow_succ, Int.mul_comm]]
 generalize (2 : Int) ^ 1072 = M at *
 by_cases hr : z % M = 0
 · rw [if_pos hr]
   obtain ⟨a, ha⟩ : ∃ a, a = z / M := ⟨_, rfl⟩
   have hz := of_whole hr
   rw [← ha] at hz ⊢
   clear ha hr
   subst hz
   rcases Int.emod_two_eq a with h2 | h2
   · obtain ⟨b, rfl⟩ : ∃ b, a = 2 * b := ⟨a / 2, by omega⟩
     rw [nearM_even h0, two_mul_M, decide_eq_true (by omega)]
     show (false || !(2 * b % 8 % 4 == 2)) = (false || Int.tmod (b % 4) 2 == 0)
     rw [Int.tmod_eq_emod_of_nonneg (by omega), Bool.false_or, Bool.false_or, Bool.eq_iff_iff]
     simp only [Bool.not_eq_true', beq_eq_false_iff_ne, beq_iff_eq, ne_eq]
     omega
   · obtain ⟨b, rfl⟩ : ∃ b, a = 2 * b + 1 := ⟨a / 2, by omega⟩
     rw [nearM_odd h0, two_mul_M]
     have h3 : ¬ (2 * b + 1) * M - (2 * if b % 2 = 0 then b else b + 1) * M = 0 := by
      rw [← Int.sub_mul]
      intro h4
      rcases Int.mul_eq_zero.1 h4 with h5 | h5
      · split at h5 <;> omega
      · omega
     rw [decide_eq_false h3]
     show (false || !((2 * b + 1) % 8 % 4 == 2)) = true
     rw [Bool.false_or]
     simp only [Bool.not_eq_true', beq_eq_false_iff_ne, ne_eq]
     omega
 · rw [if_neg hr, decide_eq_false (part_left hr)]
   rfl

theorem ddomain_any (f x : Nat) (hf : f < 256) (hx : x < 18446744073709551616) (w : World) :
 Calls Tryz.prog 14 #[.int .u8 f, .int .u64 (x : Int)] w fun en w' => en = .returned (.bool (domF f x)) ∧ Below w.heap.size w w' := by
 by_cases hi : isF f = true
 · by_cases hfin : finB x = true
   · have hd : domF f x = insideF f (fromV x) := by unfold domF; rw [hi, hfin]; rfl
     rw [hd]
     unfold insideF
     by_cases h1 : f = 7 ∨ f = 8 ∨ f = 9
     · rw [if_pos h1]; exact ddom_a h1 hx hfin w
     rw [if_neg h1]
     by_cases h2 : f = 10 ∨ f = 11 ∨ f = 12
     · rw [if_pos h2]; exact ddom_b h2 hx hfin w
     rw [if_neg h2]
     by_cases h3 : f = 18
     · rw [if_pos h3, ← tan_quar]; exact ddom_c h3 hx hfin w
     rw [if_neg h3]
     by_cases h4 : f = 19 ∨ f = 20 ∨ f = 22 ∨ f = 23
     · rw [if_pos h4]; exact ddom_d h4 hx hfin w
     rw [if_neg h4]
     by_cases h5 : f = 29
     · rw [if_pos h5]; exact ddom_e h5 hx hfin w
     rw [if_neg h5]
     by_cases h6 : f = 30
     · rw [if_pos h6]; exact ddom_f h6 hx hfin w
     rw [if_neg h6]
     exact ddom_g ⟨hi, by omega⟩ hx hfin w
   · have hn : finB x = false := by simpa using hfin
     rw [show domF f x = false by unfold domF; rw [hn, Bool.and_false, Bool.false_and]]
     exact ddom_i hi hn w
 · have hn : isF f = false := by simpa using hi
   rw [show domF f x = false by unfold domF; rw [hn, Bool.false_and, Bool.false_and]]
   exact ddom_n hn hf w
section
variable {P : Program} {ops : Array Oper} {rest : List Oper} {o : Oper} {a : Act} {Q : Exit → Act → World → Prop}
theorem store_one {W : World} (t : TypeId) (p : Tmp) (x : Operand) (ho : o.op = .store t (.tmp p) x) (hgd : o.guard = none) (hN : o.dst = none) {g i : Nat} {cur new : Array Value} {e : TypeId} (u : Value)
 (haddr : a.eval (.tmp p) = .pointer (some ⟨g, i, none⟩)) (hx : a.eval x = u) (hu : u.cells.toList = [u]) (ht : (P.info? t).map (·.size) = some 1) (h1 : u.oneCell' = true)
 (hh : W.heap[g]? = some (.cells cur e (0, 0))) (hi : i < cur.size) (hnew : cur.setIfInBounds i u = new)
 (h : ∀ w1, w1.heap[g]? = some (.cells new e (0, 0)) → W.grownBy w1 (some g) → wpList P ops Q rest a w1) : wpList P ops Q (o :: rest) a W := by
 have hst := run_store_run (P := P) t u [u] hh hu ht (o := i) (by simp; omega) (fun q hq => by rw [List.mem_singleton.1 hq]; exact h1)
 refine store_event hgd ho hN (w1 := W.setCells g i [u]) ?_ ?_
 · simp [execOp, ho, haddr, hx, hst]
 · rintro w' rfl
   obtain ⟨s1, s2, s3, s4⟩ := setCells_same g [u] i W
   refine h _ ?_ ⟨s1, s2, s3, by rw [s4]; exact Nat.le_refl _, fun k _ hk => setCells_far [u] _ k (fun he => hk (by rw [he]))⟩
   have := blk_set hh i u
   rw [hnew] at this
   exact this
end
theorem info_bool1 : (Tryz.prog.info? 4).map (·.size) = some 1 := by kernel_rfl
/-- What is told, the call's own. -/
def DO (w : World) (b : Nat) (v : Value) (o : Option (Int × Int)) : Prop := RDy w b v (o.getD (0, 0)).1 (o.getD (0, 0)).2
theorem ok_lit {z e : Int} (h : z.natAbs < 2 ^ 20) (h1 : -65536 ≤ e) (h2 : e ≤ 65536) : Ok z e := Ok.of 20 h (by decide) h1 h2
/-- The value at 0. -/
def zeroO (f : Nat) : Option (Int × Int) := if f = 1 ∨ f = 2 ∨ f = 3 ∨ f = 14 ∨ f = 17 ∨ f = 26 then some (1, 0) else if f = 23 then some (1, -1) else if f = 20 then none else some (0, 0)
theorem dzero_a {f : Nat} (hf : f = 1 ∨ f = 2 ∨ f = 3 ∨ f = 14 ∨ f = 17 ∨ f = 26) (w : World) :
 Calls Tryz.prog 45 #[.int .u8 f] w fun en w' => ∃ v', en = .returned (.tuple #[v', .bool ((some (1, 0)) : Option (Int × Int)).isSome]) ∧ DO w' w.heap.size v' (some (1, 0)) ∧ Below w.heap.size w w' := by
 rcases hf with rfl | rfl | rfl | rfl | rfl | rfl
 all_goals (
  go_enter Tryz.func45, Tryz.ntmps45
  obtain ⟨BEL, XR⟩ := al1 w 1 #[.bool false, .slice none 0 0, .int .i64 0] 27
  go_wp2_with fail
  go_at_call 21
  refine (dint_any (1) _ (by decide) (by decide)).mono ?_
  rintro en1 w1 ⟨v1, rfl, hr, hb⟩
  replace BEL := yk (BEL.out.next hb)
  replace XR := yk (yb XR.out hb)
  have P1 := yk hr
  obtain ⟨b1, A1, n1, c1, x1, rfl⟩ := hr.ex
  clear hr hb
  go_wp2_with fail
  have BLI := BEL
  go_at_call 79
  refine (dtold_nd (P1.out.c.nd (ok_lit (by decide) (by decide) (by decide)))).mono ?_
  rintro en2 w2 ⟨v2, rfl, hr, hb⟩
  replace BEL := yk (BEL.out.next hb)
  replace XR := yk (yb XR.out hb)
  replace P1 := yk (P1.out.below hb)
  have P2 := yk hr
  obtain ⟨b2, A2, n2, c2, x2, rfl⟩ := hr.ex
  clear hr hb
  go_wp2_with (((with_reducible refine gate_store (p := 2) rfl ?_); go_must (refine sdy 2 (.tmp 14) rfl rfl rfl rfl rfl XR.out rfl ?_; intro wb HX HG)); replace P1 := yk (P1.out.grown_box XR.out (by decide) HG.out); replace P2 := yk (P2.out.grown_box XR.out (by decide) HG.out); replace BEL := yk (BEL.out.grown HG.out (by omega)); replace XR := HX; clear HG)
  refine bodyPost_ret (results_list (rs := [.cell 2 27, .tmp 3]) rfl (by simp) (Vals.box any_dyad info_dyad (g := w.heap.size) rfl XR.out rfl (.tmp .nil))) rfl ?_
  exact ⟨_, rfl, P2.out.lower BLI.out.1.size, BEL.out.1⟩)
theorem dzero_b {f : Nat} (hf : f = 23) (w : World) :
 Calls Tryz.prog 45 #[.int .u8 f] w fun en w' => ∃ v', en = .returned (.tuple #[v', .bool ((some (1, -1)) : Option (Int × Int)).isSome]) ∧ DO w' w.heap.size v' (some (1, -1)) ∧ Below w.heap.size w w' := by
 subst hf
 go_enter Tryz.func45, Tryz.ntmps45
 obtain ⟨BEL, XR⟩ := al1 w 1 #[.bool false, .slice none 0 0, .int .i64 0] 27
 go_wp2_with fail
 go_at_call 80
 refine (dpower_any (-1) _).mono ?_
 rintro en1 w1 ⟨v1, rfl, hr, hb⟩
 replace BEL := yk (BEL.out.next hb)
 replace XR := yk (yb XR.out hb)
 have P1 := yk hr
 obtain ⟨b1, A1, n1, c1, x1, rfl⟩ := hr.ex
 clear hr hb
 go_wp2_with fail
 have BLI := BEL
 go_at_call 79
 refine (dtold_nd (P1.out.c.nd (ok_lit (by decide) (by decide) (by decide)))).mono ?_
 rintro en2 w2 ⟨v2, rfl, hr, hb⟩
 replace BEL := yk (BEL.out.next hb)
 replace XR := yk (yb XR.out hb)
 replace P1 := yk (P1.out.below hb)
 have P2 := yk hr
 obtain ⟨b2, A2, n2, c2, x2, rfl⟩ := hr.ex
 clear hr hb
 go_wp2_with (((with_reducible refine gate_store (p := 2) rfl ?_); go_must (refine sdy 2 (.tmp 20) rfl rfl rfl rfl rfl XR.out rfl ?_; intro wb HX HG)); replace P1 := yk (P1.out.grown_box XR.out (by decide) HG.out); replace P2 := yk (P2.out.grown_box XR.out (by decide) HG.out); replace BEL := yk (BEL.out.grown HG.out (by omega)); replace XR := HX; clear HG)
 refine bodyPost_ret (results_list (rs := [.cell 2 27, .tmp 3]) rfl (by simp) (Vals.box any_dyad info_dyad (g := w.heap.size) rfl XR.out rfl (.tmp .nil))) rfl ?_
 exact ⟨_, rfl, P2.out.lower BLI.out.1.size, BEL.out.1⟩
theorem dzero_c {f : Nat} (hf : f = 20) (w : World) :
 Calls Tryz.prog 45 #[.int .u8 f] w fun en w' => ∃ v', en = .returned (.tuple #[v', .bool ((none) : Option (Int × Int)).isSome]) ∧ DO w' w.heap.size v' (none) ∧ Below w.heap.size w w' := by
 subst hf
 go_enter Tryz.func45, Tryz.ntmps45
 obtain ⟨BEL, XR⟩ := al1 w 1 #[.bool false, .slice none 0 0, .int .i64 0] 27
 go_wp2_with (((with_reducible refine gate_store (p := 2) rfl ?_); go_must (refine sdy 2 (.tmp 24) rfl rfl rfl rfl rfl XR.out rfl ?_; intro wb HX HG)); replace BEL := yk (BEL.out.grown HG.out (by omega)); replace XR := HX; clear HG)
 refine bodyPost_ret (results_list (rs := [.cell 2 27, .tmp 3]) rfl (by simp) (Vals.box any_dyad info_dyad (g := w.heap.size) rfl XR.out rfl (.tmp .nil))) rfl ?_
 exact ⟨_, rfl, RDy.zero _ _ _, BEL.out.1⟩
theorem dzero_d {f : Nat} (hf : ¬ f = 1 ∧ ¬ f = 2 ∧ ¬ f = 3 ∧ ¬ f = 14 ∧ ¬ f = 17 ∧ ¬ f = 26 ∧ ¬ f = 23 ∧ ¬ f = 20) (w : World) :
 Calls Tryz.prog 45 #[.int .u8 f] w fun en w' => ∃ v', en = .returned (.tuple #[v', .bool ((some (0, 0)) : Option (Int × Int)).isSome]) ∧ DO w' w.heap.size v' (some (0, 0)) ∧ Below w.heap.size w w' := by
 have e1 : ((f : Int) == 1) = false := by simp; omega
 have e2 : ((f : Int) == 2) = false := by simp; omega
 have e3 : ((f : Int) == 3) = false := by simp; omega
 have e14 : ((f : Int) == 14) = false := by simp; omega
 have e17 : ((f : Int) == 17) = false := by simp; omega
 have e26 : ((f : Int) == 26) = false := by simp; omega
 have e23 : ((f : Int) == 23) = false := by simp; omega
 have e20 : ((f : Int) == 20) = false := by simp; omega
 clear hf
 go_enter Tryz.func45, Tryz.ntmps45
 obtain ⟨BEL, XR⟩ := al1 w 1 #[.bool false, .slice none 0 0, .int .i64 0] 27
 go_wp2_with (((with_reducible refine gate_store (p := 2) rfl ?_); go_must (refine sdy 2 (.tmp 25) rfl rfl rfl rfl rfl XR.out rfl ?_; intro wb HX HG)); replace BEL := yk (BEL.out.grown HG.out (by omega)); replace XR := HX; clear HG)
 refine bodyPost_ret (results_list (rs := [.cell 2 27, .tmp 3]) rfl (by simp) (Vals.box any_dyad info_dyad (g := w.heap.size) rfl XR.out rfl (.tmp .nil))) rfl ?_
 exact ⟨_, rfl, RDy.zero _ _ _, BEL.out.1⟩
theorem dzero_any (f : Nat) (w : World) :
 Calls Tryz.prog 45 #[.int .u8 f] w fun en w' => ∃ v', en = .returned (.tuple #[v', .bool (zeroO f).isSome]) ∧ DO w' w.heap.size v' (zeroO f) ∧ Below w.heap.size w w' := by
 unfold zeroO
 by_cases h1 : f = 1 ∨ f = 2 ∨ f = 3 ∨ f = 14 ∨ f = 17 ∨ f = 26
 · rw [if_pos h1]; exact dzero_a h1 w
 rw [if_neg h1]
 by_cases h2 : f = 23
 · rw [if_pos h2]; exact dzero_b h2 w
 rw [if_neg h2]
 by_cases h3 : f = 20
 · rw [if_pos h3]; exact dzero_c h3 w
 rw [if_neg h3]
 exact dzero_d (by omega) w
/-- Sine, cosine, tangent of so many quarters. -/
def turnT (f : Nat) (n : Int) : Option (Int × Int) :=
 if f = 18 then some ((if n % 4 = 1 then 1 else if n % 4 = 3 then -1 else 0), 0) else if n % 2 = 1 then none
 else if f = 17 then some ((if n = 0 then 1 else if n = 4 then -1 else 0), 0) else some ((if n = 2 then 1 else if n = 6 then -1 else 0), 0)
def turnO (f : Nat) (z : Int) : Option (Int × Int) := (quarF z).bind (turnT f)
theorem dturns_any {f : Nat} (hf : f = 16 ∨ f = 17 ∨ f = 18) {v : Value} {z : Int} {w : World} (h : CDy w v z (-1074)) (hz : z.natAbs < 2 ^ 2098) :
 Calls Tryz.prog 48 #[.int .u8 f, v] w fun en w' => ∃ v', en = .returned (.tuple #[v', .bool (turnO f z).isSome]) ∧ DO w' w.heap.size v' (turnO f z) ∧ Below w.heap.size w w' := by
 obtain ⟨b0, A, n0, c, x0, rfl⟩ := h.ex
 have QQ := yk (fun (W : World) (hb : Below w.heap.size w W) => dquarters_any (h.below hb) hz)
 have HQ : ∀ n, quarF z = some n → n = 0 ∨ n = 1 ∨ n = 2 ∨ n = 3 ∨ n = 4 ∨ n = 5 ∨ n = 6 ∨ n = 7 := by
  intro n hn; have := quar_range hn; omega
 unfold turnO
 clear h hz
 generalize quarF z = Q at *
 have key : Q = none ∨ (Q = some 1 ∨ Q = some 3 ∨ Q = some 5 ∨ Q = some 7) ∨ (Q = some 0 ∨ Q = some 2 ∨ Q = some 4 ∨ Q = some 6) := by
  rcases Q with _ | n
  · exact .inl rfl
  · rcases HQ n rfl with rfl | rfl | rfl | rfl | rfl | rfl | rfl | rfl <;> simp
 clear HQ
 rcases key with rfl | key | key
 · rcases hf with rfl | rfl | rfl
   all_goals (
    go_enter Tryz.func48, Tryz.ntmps48
    obtain ⟨BEL, X0, XR⟩ := al2 w 2 #[.bool b0, .slice A n0 c, .int .i64 x0] 27 #[.bool false, .slice none 0 0, .int .i64 0] 27
    obtain ⟨q0, q0', q1, q1', q2, q2'⟩ := bc3 X0.out
    go_wp2_with fail
    clear q0 q0' q1 q1' q2 q2'
    go_at_call 26
    refine (QQ.out _ BEL.out.1).mono ?_
    rintro en1 w1 ⟨rfl, hb⟩
    replace BEL := yk (BEL.out.next hb)
    replace X0 := yk (yb X0.out hb)
    replace XR := yk (yb XR.out hb)
    clear hb
    go_wp2_with (((with_reducible refine gate_store (p := 4) rfl ?_); go_must (refine sdy 4 (.tmp 15) rfl rfl rfl rfl rfl XR.out rfl ?_; intro wb HX HG)); replace BEL := yk (BEL.out.grown HG.out (by omega)); replace X0 := yk (blk_grown X0.out HG.out (by omega)); replace XR := HX; clear HG)
    refine bodyPost_ret (results_list (rs := [.cell 4 27, .tmp 5]) rfl (by simp) (Vals.box any_dyad info_dyad (g := w.heap.size + 1) rfl XR.out rfl (.tmp .nil))) rfl ?_
    exact ⟨_, rfl, RDy.zero _ _ _, BEL.out.1⟩)
 · have h3 : f = 18 ∨ (f = 16 ∨ f = 17) := by omega
   clear hf
   rcases h3 with rfl | hf
   · rcases key with rfl | rfl | rfl | rfl
     all_goals (
      go_enter Tryz.func48, Tryz.ntmps48
      obtain ⟨BEL, X0, XR⟩ := al2 w 2 #[.bool b0, .slice A n0 c, .int .i64 x0] 27 #[.bool false, .slice none 0 0, .int .i64 0] 27
      obtain ⟨q0, q0', q1, q1', q2, q2'⟩ := bc3 X0.out
      go_wp2_with fail
      clear q0 q0' q1 q1' q2 q2'
      go_at_call 26
      refine (QQ.out _ BEL.out.1).mono ?_
      rintro en1 w1 ⟨rfl, hb⟩
      replace BEL := yk (BEL.out.next hb)
      replace X0 := yk (yb X0.out hb)
      replace XR := yk (yb XR.out hb)
      clear hb
      simp only [Option.getD_some, Option.isSome_some]
      go_wp2_with fail
      replace BEL := yk (BEL.out.next (below_alloc (Below.refl w1.heap.size w1) (.cells #[.int .i64 0, .int .i64 1, .int .i64 0, .int .i64 (-1), .int .i64 0, .int .i64 1, .int .i64 0, .int .i64 (-1)] 2)))
      replace X0 := yk (yb X0.out (below_alloc (Below.refl w1.heap.size w1) (.cells #[.int .i64 0, .int .i64 1, .int .i64 0, .int .i64 (-1), .int .i64 0, .int .i64 1, .int .i64 0, .int .i64 (-1)] 2)))
      replace XR := yk (yb XR.out (below_alloc (Below.refl w1.heap.size w1) (.cells #[.int .i64 0, .int .i64 1, .int .i64 0, .int .i64 (-1), .int .i64 0, .int .i64 1, .int .i64 0, .int .i64 (-1)] 2)))
      go_at_call 21
      refine (dint_any (_) _ (by decide) (by decide)).mono ?_
      rintro en2 w2 ⟨v2, rfl, hr, hb⟩
      replace BEL := yk (BEL.out.next hb)
      replace X0 := yk (yb X0.out hb)
      replace XR := yk (yb XR.out hb)
      have P1 := yk hr
      obtain ⟨b2, A2, n2, c2, x2, rfl⟩ := hr.ex
      clear hr hb
      go_wp2_with fail
      have BLI := BEL
      go_at_call 79
      refine (dtold_nd (P1.out.c.nd (ok_lit (by decide) (by decide) (by decide)))).mono ?_
      rintro en3 w3 ⟨v3, rfl, hr, hb⟩
      replace BEL := yk (BEL.out.next hb)
      replace X0 := yk (yb X0.out hb)
      replace XR := yk (yb XR.out hb)
      replace P1 := yk (P1.out.below hb)
      have P2 := yk hr
      obtain ⟨b3, A3, n3, c3, x3, rfl⟩ := hr.ex
      clear hr hb
      go_wp2_with (((with_reducible refine gate_store (p := 4) rfl ?_); go_must (refine sdy 4 (.tmp 24) rfl rfl rfl rfl rfl XR.out rfl ?_; intro wb HX HG)); replace P1 := yk (P1.out.grown_box XR.out (by decide) HG.out); replace P2 := yk (P2.out.grown_box XR.out (by decide) HG.out); replace BEL := yk (BEL.out.grown HG.out (by omega)); replace X0 := yk (blk_grown X0.out HG.out (by omega)); replace XR := HX; clear HG)
      refine bodyPost_ret (results_list (rs := [.cell 4 27, .tmp 5]) rfl (by simp) (Vals.box any_dyad info_dyad (g := w.heap.size + 1) rfl XR.out rfl (.tmp .nil))) rfl ?_
      exact ⟨_, rfl, P2.out.lower BLI.out.1.size, BEL.out.1⟩)
   · rcases hf with rfl | rfl
     all_goals rcases key with rfl | rfl | rfl | rfl
     all_goals (
      go_enter Tryz.func48, Tryz.ntmps48
      obtain ⟨BEL, X0, XR⟩ := al2 w 2 #[.bool b0, .slice A n0 c, .int .i64 x0] 27 #[.bool false, .slice none 0 0, .int .i64 0] 27
      obtain ⟨q0, q0', q1, q1', q2, q2'⟩ := bc3 X0.out
      go_wp2_with fail
      clear q0 q0' q1 q1' q2 q2'
      go_at_call 26
      refine (QQ.out _ BEL.out.1).mono ?_
      rintro en1 w1 ⟨rfl, hb⟩
      replace BEL := yk (BEL.out.next hb)
      replace X0 := yk (yb X0.out hb)
      replace XR := yk (yb XR.out hb)
      clear hb
      go_wp2_with (((with_reducible refine gate_store (p := 4) rfl ?_); go_must (refine sdy 4 (.tmp 29) rfl rfl rfl rfl rfl XR.out rfl ?_; intro wb HX HG)); replace BEL := yk (BEL.out.grown HG.out (by omega)); replace X0 := yk (blk_grown X0.out HG.out (by omega)); replace XR := HX; clear HG)
      refine bodyPost_ret (results_list (rs := [.cell 4 27, .tmp 5]) rfl (by simp) (Vals.box any_dyad info_dyad (g := w.heap.size + 1) rfl XR.out rfl (.tmp .nil))) rfl ?_
      exact ⟨_, rfl, RDy.zero _ _ _, BEL.out.1⟩)
 · have h3 : f = 18 ∨ (f = 16 ∨ f = 17) := by omega
   clear hf
   rcases h3 with rfl | hf
   · rcases key with rfl | rfl | rfl | rfl
     all_goals (
      go_enter Tryz.func48, Tryz.ntmps48
      obtain ⟨BEL, X0, XR⟩ := al2 w 2 #[.bool b0, .slice A n0 c, .int .i64 x0] 27 #[.bool false, .slice none 0 0, .int .i64 0] 27
      obtain ⟨q0, q0', q1, q1', q2, q2'⟩ := bc3 X0.out
      go_wp2_with fail
      clear q0 q0' q1 q1' q2 q2'
      go_at_call 26
      refine (QQ.out _ BEL.out.1).mono ?_
      rintro en1 w1 ⟨rfl, hb⟩
      replace BEL := yk (BEL.out.next hb)
      replace X0 := yk (yb X0.out hb)
      replace XR := yk (yb XR.out hb)
      clear hb
      simp only [Option.getD_some, Option.isSome_some]
      go_wp2_with fail
      replace BEL := yk (BEL.out.next (below_alloc (Below.refl w1.heap.size w1) (.cells #[.int .i64 0, .int .i64 1, .int .i64 0, .int .i64 (-1), .int .i64 0, .int .i64 1, .int .i64 0, .int .i64 (-1)] 2)))
      replace X0 := yk (yb X0.out (below_alloc (Below.refl w1.heap.size w1) (.cells #[.int .i64 0, .int .i64 1, .int .i64 0, .int .i64 (-1), .int .i64 0, .int .i64 1, .int .i64 0, .int .i64 (-1)] 2)))
      replace XR := yk (yb XR.out (below_alloc (Below.refl w1.heap.size w1) (.cells #[.int .i64 0, .int .i64 1, .int .i64 0, .int .i64 (-1), .int .i64 0, .int .i64 1, .int .i64 0, .int .i64 (-1)] 2)))
      go_at_call 21
      refine (dint_any (_) _ (by decide) (by decide)).mono ?_
      rintro en2 w2 ⟨v2, rfl, hr, hb⟩
      replace BEL := yk (BEL.out.next hb)
      replace X0 := yk (yb X0.out hb)
      replace XR := yk (yb XR.out hb)
      have P1 := yk hr
      obtain ⟨b2, A2, n2, c2, x2, rfl⟩ := hr.ex
      clear hr hb
      go_wp2_with fail
      have BLI := BEL
      go_at_call 79
      refine (dtold_nd (P1.out.c.nd (ok_lit (by decide) (by decide) (by decide)))).mono ?_
      rintro en3 w3 ⟨v3, rfl, hr, hb⟩
      replace BEL := yk (BEL.out.next hb)
      replace X0 := yk (yb X0.out hb)
      replace XR := yk (yb XR.out hb)
      replace P1 := yk (P1.out.below hb)
      have P2 := yk hr
      obtain ⟨b3, A3, n3, c3, x3, rfl⟩ := hr.ex
      clear hr hb
      go_wp2_with (((with_reducible refine gate_store (p := 4) rfl ?_); go_must (refine sdy 4 (.tmp 24) rfl rfl rfl rfl rfl XR.out rfl ?_; intro wb HX HG)); replace P1 := yk (P1.out.grown_box XR.out (by decide) HG.out); replace P2 := yk (P2.out.grown_box XR.out (by decide) HG.out); replace BEL := yk (BEL.out.grown HG.out (by omega)); replace X0 := yk (blk_grown X0.out HG.out (by omega)); replace XR := HX; clear HG)
      refine bodyPost_ret (results_list (rs := [.cell 4 27, .tmp 5]) rfl (by simp) (Vals.box any_dyad info_dyad (g := w.heap.size + 1) rfl XR.out rfl (.tmp .nil))) rfl ?_
      exact ⟨_, rfl, P2.out.lower BLI.out.1.size, BEL.out.1⟩)
   · rcases hf with rfl | rfl
     all_goals rcases key with rfl | rfl | rfl | rfl
     all_goals (
      go_enter Tryz.func48, Tryz.ntmps48
      obtain ⟨BEL, X0, XR⟩ := al2 w 2 #[.bool b0, .slice A n0 c, .int .i64 x0] 27 #[.bool false, .slice none 0 0, .int .i64 0] 27
      obtain ⟨q0, q0', q1, q1', q2, q2'⟩ := bc3 X0.out
      go_wp2_with fail
      clear q0 q0' q1 q1' q2 q2'
      go_at_call 26
      refine (QQ.out _ BEL.out.1).mono ?_
      rintro en1 w1 ⟨rfl, hb⟩
      replace BEL := yk (BEL.out.next hb)
      replace X0 := yk (yb X0.out hb)
      replace XR := yk (yb XR.out hb)
      clear hb
      simp only [Option.getD_some, Option.isSome_some]
      go_wp2_with fail
      replace BEL := yk (BEL.out.next (below_alloc (Below.refl w1.heap.size w1) (.cells #[.int .i64 0, .int .i64 0, .int .i64 1, .int .i64 0, .int .i64 0, .int .i64 0, .int .i64 (-1), .int .i64 0] 2)))
      replace X0 := yk (yb X0.out (below_alloc (Below.refl w1.heap.size w1) (.cells #[.int .i64 0, .int .i64 0, .int .i64 1, .int .i64 0, .int .i64 0, .int .i64 0, .int .i64 (-1), .int .i64 0] 2)))
      replace XR := yk (yb XR.out (below_alloc (Below.refl w1.heap.size w1) (.cells #[.int .i64 0, .int .i64 0, .int .i64 1, .int .i64 0, .int .i64 0, .int .i64 0, .int .i64 (-1), .int .i64 0] 2)))
      go_at_call 21
      refine (dint_any (_) _ (by decide) (by decide)).mono ?_
      rintro en2 w2 ⟨v2, rfl, hr, hb⟩
      replace BEL := yk (BEL.out.next hb)
      replace X0 := yk (yb X0.out hb)
      replace XR := yk (yb XR.out hb)
      have P1 := yk hr
      obtain ⟨b2, A2, n2, c2, x2, rfl⟩ := hr.ex
      clear hr hb
      go_wp2_with fail
      have BLI := BEL
      go_at_call 79
      refine (dtold_nd (P1.out.c.nd (ok_lit (by decide) (by decide) (by decide)))).mono ?_
      rintro en3 w3 ⟨v3, rfl, hr, hb⟩
      replace BEL := yk (BEL.out.next hb)
      replace X0 := yk (yb X0.out hb)
      replace XR := yk (yb XR.out hb)
      replace P1 := yk (P1.out.below hb)
      have P2 := yk hr
      obtain ⟨b3, A3, n3, c3, x3, rfl⟩ := hr.ex
      clear hr hb
      go_wp2_with (((with_reducible refine gate_store (p := 4) rfl ?_); go_must (refine sdy 4 (.tmp 41) rfl rfl rfl rfl rfl XR.out rfl ?_; intro wb HX HG)); replace P1 := yk (P1.out.grown_box XR.out (by decide) HG.out); replace P2 := yk (P2.out.grown_box XR.out (by decide) HG.out); replace BEL := yk (BEL.out.grown HG.out (by omega)); replace X0 := yk (blk_grown X0.out HG.out (by omega)); replace XR := HX; clear HG)
      refine bodyPost_ret (results_list (rs := [.cell 4 27, .tmp 5]) rfl (by simp) (Vals.box any_dyad info_dyad (g := w.heap.size + 1) rfl XR.out rfl (.tmp .nil))) rfl ?_
      exact ⟨_, rfl, P2.out.lower BLI.out.1.size, BEL.out.1⟩)
theorem pow_nd {w : World} {b1 : Bool} {A : Option Addr} {n c : Nat} {x e : Int} (neg : Bool) (h : CDy w (.agg #[.bool b1, .slice A n c, .int .i64 x]) 1 e) (h1 : -1048576 ≤ e) (h2 : e ≤ 1048576) : NDy w (.agg #[.bool neg, .slice A n c, .int .i64 x]) (if neg = true then -1 else 1) e := by
 obtain ⟨-, hx, hC, hn, hc⟩ := CDy.parts h
 have e1 : cexp 1 e = e := by unfold cexp; simp [tz_odd]
 have e2 : cman 1 = 1 := cman_one
 rw [e1] at hx
 rw [e2] at hC hn
 refine ⟨neg, limbs 1, A, n, c, x, rfl, hC, hn, hc, wf_limbs _, ?_, by omega, by omega, .inr ⟨0, by omega, ?_⟩⟩
 · rw [← hn]; exact Nat.le_trans (limbs_len_le (k := 1) (by decide)) (by decide)
 · rw [nv_limbs]; cases neg <;> rfl
/-- The arc functions at 1 and -1. -/
def angO (f : Nat) (neg : Bool) : Option (Int × Int) :=
 if f = 22 then some (if neg = true then -1 else 1, -1) else if f = 24 then some (if neg = true then -1 else 1, -2)
 else if f = 23 then (if neg = true then some (1, 0) else some (0, 0)) else if f = 20 ∨ f = 29 then (if neg = true then none else some (0, 0)) else none
theorem dang_a {f : Nat} (hf : f = 22) (neg : Bool) (w : World) :
 Calls Tryz.prog 49 #[.int .u8 f, .bool neg] w fun en w' => ∃ v', en = .returned (.tuple #[v', .bool ((some (if neg = true then -1 else 1, -1)) : Option (Int × Int)).isSome]) ∧ DO w' w.heap.size v' (some (if neg = true then -1 else 1, -1)) ∧ Below w.heap.size w w' := by
 subst hf
 obtain ⟨s, hs⟩ : ∃ s : Int, s = if neg = true then -1 else 1 := ⟨_, rfl⟩
 have HND := yk (fun (W : World) (b1 : Bool) (A : Option Addr) (n c : Nat) (x : Int) (h : CDy W (.agg #[.bool b1, .slice A n c, .int .i64 x]) 1 (-1)) => (by
  rw [hs]; exact pow_nd neg h (by decide) (by decide) : NDy W (.agg #[.bool neg, .slice A n c, .int .i64 x]) s (-1)))
 rw [← hs]
 clear hs
 go_enter Tryz.func49, Tryz.ntmps49
 obtain ⟨BEL, XR, XD⟩ := al2 w 2 #[.bool false, .slice none 0 0, .int .i64 0] 27 #[.bool false, .slice none 0 0, .int .i64 0] 27
 go_wp2_with (((with_reducible refine gate_store (p := 6) rfl ?_); go_must (refine sdy 6 (.tmp 7) rfl rfl rfl rfl rfl XD.out rfl ?_; intro wb HX HG)); replace BEL := yk (BEL.out.grown HG.out (by omega)); replace XR := yk (blk_grown XR.out HG.out (by omega)); replace XD := HX; clear HG)
 go_at_call 80
 refine (dpower_any (-1) _).mono ?_
 rintro en1 w1 ⟨v1, rfl, hr, hb⟩
 replace BEL := yk (BEL.out.next hb)
 replace XR := yk (yb XR.out hb)
 replace XD := yk (yb XD.out hb)
 have P1 := yk hr
 obtain ⟨b1, A1, n1, c1, x1, rfl⟩ := hr.ex
 clear hr hb
 go_wp2_with (first | (((with_reducible refine gate_store (p := 6) rfl ?_); go_must (refine sdy 6 (.tmp 12) rfl rfl rfl rfl rfl XD.out rfl ?_; intro wb HX HG)); replace P1 := yk (P1.out.grown_box XD.out (by decide) HG.out); replace BEL := yk (BEL.out.grown HG.out (by omega)); replace XR := yk (blk_grown XR.out HG.out (by omega)); replace XD := HX; clear HG) | (((with_reducible refine gate_store (p := 31) rfl ?_); go_must (refine store_one 4 31 (.tmp 30) rfl rfl rfl (g := w.heap.size + 1) (i := 0) (cur := #[.bool b1, .slice A1 n1 c1, .int .i64 x1]) ((.bool neg)) rfl rfl rfl info_bool1 rfl XD.out (by simp) (new := #[.bool neg, .slice A1 n1 c1, .int .i64 x1]) rfl ?_; intro wb hbx hgx; have HX := yk hbx; have HG := yk hgx; clear hbx hgx)); replace P1 := yk (P1.out.grown_box XD.out (by decide) HG.out); replace BEL := yk (BEL.out.grown HG.out (by omega)); replace XR := yk (blk_grown XR.out HG.out (by omega)); replace XD := HX; clear HG HX; obtain ⟨q0, q0', q1, q1', q2, q2'⟩ := bc3 XD.out))
 have BLI := BEL
 clear q0 q0' q1 q1' q2 q2'
 go_at_call 79
 refine (dtold_nd (HND.out _ _ _ _ _ _ P1.out.c)).mono ?_
 rintro en2 w2 ⟨v2, rfl, hr, hb⟩
 replace BEL := yk (BEL.out.next hb)
 replace XR := yk (yb XR.out hb)
 replace XD := yk (yb XD.out hb)
 replace P1 := yk (P1.out.below hb)
 have P2 := yk hr
 obtain ⟨b2, A2, n2, c2, x2, rfl⟩ := hr.ex
 clear hr hb
 go_wp2_with (((with_reducible refine gate_store (p := 4) rfl ?_); go_must (refine sdy 4 (.tmp 34) rfl rfl rfl rfl rfl XR.out rfl ?_; intro wb HX HG)); replace P1 := yk (P1.out.grown_box XR.out (by decide) HG.out); replace P2 := yk (P2.out.grown_box XR.out (by decide) HG.out); replace BEL := yk (BEL.out.grown HG.out (by omega)); replace XD := yk (blk_grown XD.out HG.out (by omega)); replace XR := HX; clear HG)
 refine bodyPost_ret (results_list (rs := [.cell 4 27, .tmp 5]) rfl (by simp) (Vals.box any_dyad info_dyad (g := w.heap.size) rfl XR.out rfl (.tmp .nil))) rfl ?_
 exact ⟨_, rfl, P2.out.lower BLI.out.1.size, BEL.out.1⟩

theorem dang_b {f : Nat} (hf : f = 24) (neg : Bool) (w : World) :
 Calls Tryz.prog 49 #[.int .u8 f, .bool neg] w fun en w' => ∃ v', en = .returned (.tuple #[v', .bool ((some (if neg = true then -1 else 1, -2)) : Option (Int × Int)).isSome]) ∧ DO w' w.heap.size v' (some (if neg = true then -1 else 1, -2)) ∧ Below w.heap.size w w' := by
 subst hf
 obtain ⟨s, hs⟩ : ∃ s : Int, s = if neg = true then -1 else 1 := ⟨_, rfl⟩
 have HND := yk (fun (W : World) (b1 : Bool) (A : Option Addr) (n c : Nat) (x : Int) (h : CDy W (.agg #[.bool b1, .slice A n c, .int .i64 x]) 1 (-2)) => (by
  rw [hs]; exact pow_nd neg h (by decide) (by decide) : NDy W (.agg #[.bool neg, .slice A n c, .int .i64 x]) s (-2)))
 rw [← hs]
 clear hs
 go_enter Tryz.func49, Tryz.ntmps49
 obtain ⟨BEL, XR, XD⟩ := al2 w 2 #[.bool false, .slice none 0 0, .int .i64 0] 27 #[.bool false, .slice none 0 0, .int .i64 0] 27
 go_wp2_with (((with_reducible refine gate_store (p := 6) rfl ?_); go_must (refine sdy 6 (.tmp 7) rfl rfl rfl rfl rfl XD.out rfl ?_; intro wb HX HG)); replace BEL := yk (BEL.out.grown HG.out (by omega)); replace XR := yk (blk_grown XR.out HG.out (by omega)); replace XD := HX; clear HG)
 go_at_call 80
 refine (dpower_any (-2) _).mono ?_
 rintro en1 w1 ⟨v1, rfl, hr, hb⟩
 replace BEL := yk (BEL.out.next hb)
 replace XR := yk (yb XR.out hb)
 replace XD := yk (yb XD.out hb)
 have P1 := yk hr
 obtain ⟨b1, A1, n1, c1, x1, rfl⟩ := hr.ex
 clear hr hb
 go_wp2_with (first | (((with_reducible refine gate_store (p := 6) rfl ?_); go_must (refine sdy 6 (.tmp 15) rfl rfl rfl rfl rfl XD.out rfl ?_; intro wb HX HG)); replace P1 := yk (P1.out.grown_box XD.out (by decide) HG.out); replace BEL := yk (BEL.out.grown HG.out (by omega)); replace XR := yk (blk_grown XR.out HG.out (by omega)); replace XD := HX; clear HG) | (((with_reducible refine gate_store (p := 31) rfl ?_); go_must (refine store_one 4 31 (.tmp 30) rfl rfl rfl (g := w.heap.size + 1) (i := 0) (cur := #[.bool b1, .slice A1 n1 c1, .int .i64 x1]) ((.bool neg)) rfl rfl rfl info_bool1 rfl XD.out (by simp) (new := #[.bool neg, .slice A1 n1 c1, .int .i64 x1]) rfl ?_; intro wb hbx hgx; have HX := yk hbx; have HG := yk hgx; clear hbx hgx)); replace P1 := yk (P1.out.grown_box XD.out (by decide) HG.out); replace BEL := yk (BEL.out.grown HG.out (by omega)); replace XR := yk (blk_grown XR.out HG.out (by omega)); replace XD := HX; clear HG HX; obtain ⟨q0, q0', q1, q1', q2, q2'⟩ := bc3 XD.out))
 have BLI := BEL
 clear q0 q0' q1 q1' q2 q2'
 go_at_call 79
 refine (dtold_nd (HND.out _ _ _ _ _ _ P1.out.c)).mono ?_
 rintro en2 w2 ⟨v2, rfl, hr, hb⟩
 replace BEL := yk (BEL.out.next hb)
 replace XR := yk (yb XR.out hb)
 replace XD := yk (yb XD.out hb)
 replace P1 := yk (P1.out.below hb)
 have P2 := yk hr
 obtain ⟨b2, A2, n2, c2, x2, rfl⟩ := hr.ex
 clear hr hb
 go_wp2_with (((with_reducible refine gate_store (p := 4) rfl ?_); go_must (refine sdy 4 (.tmp 34) rfl rfl rfl rfl rfl XR.out rfl ?_; intro wb HX HG)); replace P1 := yk (P1.out.grown_box XR.out (by decide) HG.out); replace P2 := yk (P2.out.grown_box XR.out (by decide) HG.out); replace BEL := yk (BEL.out.grown HG.out (by omega)); replace XD := yk (blk_grown XD.out HG.out (by omega)); replace XR := HX; clear HG)
 refine bodyPost_ret (results_list (rs := [.cell 4 27, .tmp 5]) rfl (by simp) (Vals.box any_dyad info_dyad (g := w.heap.size) rfl XR.out rfl (.tmp .nil))) rfl ?_
 exact ⟨_, rfl, P2.out.lower BLI.out.1.size, BEL.out.1⟩

theorem dang_c {f : Nat} (hf : f = 23) (neg : Bool) (w : World) :
 Calls Tryz.prog 49 #[.int .u8 f, .bool neg] w fun en w' => ∃ v', en = .returned (.tuple #[v', .bool ((if neg = true then some (1, 0) else some (0, 0)) : Option (Int × Int)).isSome]) ∧ DO w' w.heap.size v' (if neg = true then some (1, 0) else some (0, 0)) ∧ Below w.heap.size w w' := by
 subst hf
 cases neg
 case false =>
  go_enter Tryz.func49, Tryz.ntmps49
  obtain ⟨BEL, XR, XD⟩ := al2 w 2 #[.bool false, .slice none 0 0, .int .i64 0] 27 #[.bool false, .slice none 0 0, .int .i64 0] 27
  go_wp2_with (first | (((with_reducible refine gate_store (p := 6) rfl ?_); go_must (refine sdy 6 (.tmp 7) rfl rfl rfl rfl rfl XD.out rfl ?_; intro wb HX HG)); replace BEL := yk (BEL.out.grown HG.out (by omega)); replace XR := yk (blk_grown XR.out HG.out (by omega)); replace XD := HX; clear HG) | (((with_reducible refine gate_store (p := 4) rfl ?_); go_must (refine sdy 4 (.tmp 23) rfl rfl rfl rfl rfl XR.out rfl ?_; intro wb HX HG)); replace BEL := yk (BEL.out.grown HG.out (by omega)); replace XD := yk (blk_grown XD.out HG.out (by omega)); replace XR := HX; clear HG))
  refine bodyPost_ret (results_list (rs := [.cell 4 27, .tmp 5]) rfl (by simp) (Vals.box any_dyad info_dyad (g := w.heap.size) rfl XR.out rfl (.tmp .nil))) rfl ?_
  exact ⟨_, rfl, RDy.zero _ _ _, BEL.out.1⟩
 case true =>
  go_enter Tryz.func49, Tryz.ntmps49
  obtain ⟨BEL, XR, XD⟩ := al2 w 2 #[.bool false, .slice none 0 0, .int .i64 0] 27 #[.bool false, .slice none 0 0, .int .i64 0] 27
  go_wp2_with (((with_reducible refine gate_store (p := 6) rfl ?_); go_must (refine sdy 6 (.tmp 7) rfl rfl rfl rfl rfl XD.out rfl ?_; intro wb HX HG)); replace BEL := yk (BEL.out.grown HG.out (by omega)); replace XR := yk (blk_grown XR.out HG.out (by omega)); replace XD := HX; clear HG)
  go_at_call 21
  refine (dint_any (1) _ (by decide) (by decide)).mono ?_
  rintro en1 w1 ⟨v1, rfl, hr, hb⟩
  replace BEL := yk (BEL.out.next hb)
  replace XR := yk (yb XR.out hb)
  replace XD := yk (yb XD.out hb)
  have P1 := yk hr
  obtain ⟨b1, A1, n1, c1, x1, rfl⟩ := hr.ex
  clear hr hb
  go_wp2_with fail
  have BLI := BEL
  go_at_call 79
  refine (dtold_nd (P1.out.c.nd (ok_lit (by decide) (by decide) (by decide)))).mono ?_
  rintro en2 w2 ⟨v2, rfl, hr, hb⟩
  replace BEL := yk (BEL.out.next hb)
  replace XR := yk (yb XR.out hb)
  replace XD := yk (yb XD.out hb)
  replace P1 := yk (P1.out.below hb)
  have P2 := yk hr
  obtain ⟨b2, A2, n2, c2, x2, rfl⟩ := hr.ex
  clear hr hb
  go_wp2_with (((with_reducible refine gate_store (p := 4) rfl ?_); go_must (refine sdy 4 (.tmp 21) rfl rfl rfl rfl rfl XR.out rfl ?_; intro wb HX HG)); replace P1 := yk (P1.out.grown_box XR.out (by decide) HG.out); replace P2 := yk (P2.out.grown_box XR.out (by decide) HG.out); replace BEL := yk (BEL.out.grown HG.out (by omega)); replace XD := yk (blk_grown XD.out HG.out (by omega)); replace XR := HX; clear HG)
  refine bodyPost_ret (results_list (rs := [.cell 4 27, .tmp 5]) rfl (by simp) (Vals.box any_dyad info_dyad (g := w.heap.size) rfl XR.out rfl (.tmp .nil))) rfl ?_
  exact ⟨_, rfl, P2.out.lower BLI.out.1.size, BEL.out.1⟩
theorem dang_d {f : Nat} (hf : f = 20 ∨ f = 29) (neg : Bool) (w : World) :
 Calls Tryz.prog 49 #[.int .u8 f, .bool neg] w fun en w' => ∃ v', en = .returned (.tuple #[v', .bool ((if neg = true then none else some (0, 0)) : Option (Int × Int)).isSome]) ∧ DO w' w.heap.size v' (if neg = true then none else some (0, 0)) ∧ Below w.heap.size w w' := by
 rcases hf with rfl | rfl
 all_goals cases neg
 all_goals (
  go_enter Tryz.func49, Tryz.ntmps49
  obtain ⟨BEL, XR, XD⟩ := al2 w 2 #[.bool false, .slice none 0 0, .int .i64 0] 27 #[.bool false, .slice none 0 0, .int .i64 0] 27
  go_wp2_with (first | (((with_reducible refine gate_store (p := 6) rfl ?_); go_must (refine sdy 6 (.tmp 7) rfl rfl rfl rfl rfl XD.out rfl ?_; intro wb HX HG)); replace BEL := yk (BEL.out.grown HG.out (by omega)); replace XR := yk (blk_grown XR.out HG.out (by omega)); replace XD := HX; clear HG) | (((with_reducible refine gate_store (p := 4) rfl ?_); go_must (refine sdy 4 (.tmp 27) rfl rfl rfl rfl rfl XR.out rfl ?_; intro wb HX HG)); replace BEL := yk (BEL.out.grown HG.out (by omega)); replace XD := yk (blk_grown XD.out HG.out (by omega)); replace XR := HX; clear HG))
  refine bodyPost_ret (results_list (rs := [.cell 4 27, .tmp 5]) rfl (by simp) (Vals.box any_dyad info_dyad (g := w.heap.size) rfl XR.out rfl (.tmp .nil))) rfl ?_
  exact ⟨_, rfl, RDy.zero _ _ _, BEL.out.1⟩)
theorem dang_e {f : Nat} (hf : ¬ f = 22 ∧ ¬ f = 24 ∧ ¬ f = 23 ∧ ¬ f = 20 ∧ ¬ f = 29) (neg : Bool) (w : World) :
 Calls Tryz.prog 49 #[.int .u8 f, .bool neg] w fun en w' => ∃ v', en = .returned (.tuple #[v', .bool ((none) : Option (Int × Int)).isSome]) ∧ DO w' w.heap.size v' (none) ∧ Below w.heap.size w w' := by
 have e22 : ((f : Int) == 22) = false := by simp; omega
 have e24 : ((f : Int) == 24) = false := by simp; omega
 have e23 : ((f : Int) == 23) = false := by simp; omega
 have e20 : ((f : Int) == 20) = false := by simp; omega
 have e29 : ((f : Int) == 29) = false := by simp; omega
 clear hf
 go_enter Tryz.func49, Tryz.ntmps49
 obtain ⟨BEL, XR, XD⟩ := al2 w 2 #[.bool false, .slice none 0 0, .int .i64 0] 27 #[.bool false, .slice none 0 0, .int .i64 0] 27
 go_wp2_with (first | (((with_reducible refine gate_store (p := 6) rfl ?_); go_must (refine sdy 6 (.tmp 7) rfl rfl rfl rfl rfl XD.out rfl ?_; intro wb HX HG)); replace BEL := yk (BEL.out.grown HG.out (by omega)); replace XR := yk (blk_grown XR.out HG.out (by omega)); replace XD := HX; clear HG) | (((with_reducible refine gate_store (p := 4) rfl ?_); go_must (refine sdy 4 (.tmp 9) rfl rfl rfl rfl rfl XR.out rfl ?_; intro wb HX HG)); replace BEL := yk (BEL.out.grown HG.out (by omega)); replace XD := yk (blk_grown XD.out HG.out (by omega)); replace XR := HX; clear HG))
 refine bodyPost_ret (results_list (rs := [.cell 4 27, .tmp 5]) rfl (by simp) (Vals.box any_dyad info_dyad (g := w.heap.size) rfl XR.out rfl (.tmp .nil))) rfl ?_
 exact ⟨_, rfl, RDy.zero _ _ _, BEL.out.1⟩
theorem dangles_any (f : Nat) (neg : Bool) (w : World) :
 Calls Tryz.prog 49 #[.int .u8 f, .bool neg] w fun en w' => ∃ v', en = .returned (.tuple #[v', .bool (angO f neg).isSome]) ∧ DO w' w.heap.size v' (angO f neg) ∧ Below w.heap.size w w' := by
 unfold angO
 by_cases h1 : f = 22
 · rw [if_pos h1]; exact dang_a h1 neg w
 rw [if_neg h1]
 by_cases h2 : f = 24
 · rw [if_pos h2]; exact dang_b h2 neg w
 rw [if_neg h2]
 by_cases h3 : f = 23
 · rw [if_pos h3]; exact dang_c h3 neg w
 rw [if_neg h3]
 by_cases h4 : f = 20 ∨ f = 29
 · rw [if_pos h4]; exact dang_d h4 neg w
 rw [if_neg h4]
 exact dang_e (by omega) neg w

theorem RDy.pow {W : World} {b : Nat} {v : Value} {n : Int} (h : RDy W b v 1 n) : RDy W b v (2 ^ (n - min n 0).toNat) (min n 0) := by
 have q := RDy.scale (e := min n 0) (n - min n 0).toNat (by rw [show min n 0 + ((n - min n 0).toNat : Int) = n by omega]; exact h)
 rw [Int.one_mul] at q
 exact q
theorem RDy.down {W : World} {b : Nat} {v : Value} {n l : Int} (h : RDy W b v l 0) : RDy W b v (l * 2 ^ (-(min n 0)).toNat) (min n 0) :=
 RDy.scale (e := min n 0) (-(min n 0)).toNat (by rw [show min n 0 + ((-(min n 0)).toNat : Int) = 0 by omega]; exact h)
/-- The document's powers of a small whole number. -/
def powO (f : Nat) (S : Option Int) : Option (Int × Int) := S.bind fun n => if f = 2 then some (powV n 0) else if f = 5 ∧ -54 ≤ n ∧ n ≤ 54 then some (powV n 1)
 else if f = 3 ∧ 0 ≤ n ∧ n ≤ 23 then some (tenI n.toNat - 0, 0) else if f = 6 ∧ 0 ≤ n ∧ n ≤ 16 then some (tenI n.toNat - 1, 0) else none
theorem ten_lt (k : Nat) (hk : k ≤ 23) : 10 ^ k < 2 ^ (64 * 4) := Nat.lt_of_le_of_lt (Nat.pow_le_pow_right (by decide) hk) (by decide +kernel)
theorem ten_int (k : Nat) : ((10 ^ k : Nat) : Int) = tenI k := by unfold tenI; simp
theorem ten_Ok {k : Nat} (hk : k ≤ 23) : Ok (tenI k) 0 := Ok.of _ (tenI_small (by omega)) (by decide) (by decide) (by decide)
theorem RNy.ex {w : World} {b m : Nat} {v : Value} (h : RNy w b v m) : ∃ bb A n c x, v = .agg #[.bool bb, .slice A n c, .int .i64 x] := by
 obtain ⟨A, n, c, rfl, -⟩ := h; exact ⟨_, _, _, _, _, rfl⟩
theorem RNy.ten {w : World} {b k : Nat} {v : Value} (h : RNy w b v (10 ^ k)) (hk : k ≤ 23) : NDy w v (tenI k) 0 := by rw [← ten_int]; exact h.nd (ten_lt k hk)
theorem dpow_none {f : Nat} (hf : f = 1 ∨ f = 2 ∨ f = 3 ∨ f = 4 ∨ f = 5 ∨ f = 6) {v : Value} {z : Int} {w : World} (h : NDy w v z (-1074)) (o : Ok z (-1074)) (hS : smallF (2 ^ 1074) z (-16384) 16384 = none) :
 Calls Tryz.prog 46 #[.int .u8 f, v] w fun en w' => ∃ v', en = .returned (.tuple #[v', .bool ((none) : Option (Int × Int)).isSome]) ∧ DO w' w.heap.size v' (none) ∧ Below w.heap.size w w' := by
 obtain ⟨b0, A, n0, c, x0, rfl⟩ := h.ex
 have QW := yk (fun (W : World) (hb : Below w.heap.size w W) => (by
  have q := dwhole_any (h.below hb) o
  rw [hS] at q; exact q : Calls Tryz.prog 81 #[.agg #[.bool b0, .slice A n0 c, .int .i64 x0]] W fun en w' => en = .returned (.tuple #[.int .i64 0, .bool false]) ∧ Below W.heap.size W w'))
 clear h o hS
 rcases hf with rfl | rfl | rfl | rfl | rfl | rfl
 all_goals (
  go_enter Tryz.func46, Tryz.ntmps46
  obtain ⟨BEL, X0, XR⟩ := al2 w 2 #[.bool b0, .slice A n0 c, .int .i64 x0] 27 #[.bool false, .slice none 0 0, .int .i64 0] 27
  obtain ⟨q0, q0', q1, q1', q2, q2'⟩ := bc3 X0.out
  go_wp2_with fail
  clear q0 q0' q1 q1' q2 q2'
  go_at_call 81
  refine (QW.out _ BEL.out.1).mono ?_
  rintro en1 w1 ⟨rfl, hb⟩
  replace BEL := yk (BEL.out.next hb)
  replace X0 := yk (yb X0.out hb)
  replace XR := yk (yb XR.out hb)
  clear hb
  go_wp2_with (((with_reducible refine gate_store (p := 4) rfl ?_); go_must (refine sdy 4 (.tmp 74) rfl rfl rfl rfl rfl XR.out rfl ?_; intro wb HX HG)); replace BEL := yk (BEL.out.grown HG.out (by omega)); replace X0 := yk (blk_grown X0.out HG.out (by omega)); replace XR := HX; clear HG)
  refine bodyPost_ret (results_list (rs := [.cell 4 27, .tmp 5]) rfl (by simp) (Vals.box any_dyad info_dyad (g := w.heap.size + 1) rfl XR.out rfl (.tmp .nil))) rfl ?_
  exact ⟨_, rfl, RDy.zero _ _ _, BEL.out.1⟩)
theorem dpow_zero {f : Nat} (hf : f = 1 ∨ f = 4) {n : Int} {v : Value} {z : Int} {w : World} (h : NDy w v z (-1074)) (o : Ok z (-1074)) (hS : smallF (2 ^ 1074) z (-16384) 16384 = some n) :
 Calls Tryz.prog 46 #[.int .u8 f, v] w fun en w' => ∃ v', en = .returned (.tuple #[v', .bool ((none) : Option (Int × Int)).isSome]) ∧ DO w' w.heap.size v' (none) ∧ Below w.heap.size w w' := by
 obtain ⟨b0, A, n0, c, x0, rfl⟩ := h.ex
 have QW := yk (fun (W : World) (hb : Below w.heap.size w W) => (by
  have q := dwhole_any (h.below hb) o
  rw [hS] at q; exact q : Calls Tryz.prog 81 #[.agg #[.bool b0, .slice A n0 c, .int .i64 x0]] W fun en w' => en = .returned (.tuple #[.int .i64 n, .bool true]) ∧ Below W.heap.size W w'))
 clear h o hS
 rcases hf with rfl | rfl
 all_goals (
  go_enter Tryz.func46, Tryz.ntmps46
  obtain ⟨BEL, X0, XR⟩ := al2 w 2 #[.bool b0, .slice A n0 c, .int .i64 x0] 27 #[.bool false, .slice none 0 0, .int .i64 0] 27
  obtain ⟨q0, q0', q1, q1', q2, q2'⟩ := bc3 X0.out
  go_wp2_with fail
  clear q0 q0' q1 q1' q2 q2'
  go_at_call 81
  refine (QW.out _ BEL.out.1).mono ?_
  rintro en1 w1 ⟨rfl, hb⟩
  replace BEL := yk (BEL.out.next hb)
  replace X0 := yk (yb X0.out hb)
  replace XR := yk (yb XR.out hb)
  clear hb
  go_wp2_with (((with_reducible refine gate_store (p := 4) rfl ?_); go_must (refine sdy 4 (.tmp 74) rfl rfl rfl rfl rfl XR.out rfl ?_; intro wb HX HG)); replace BEL := yk (BEL.out.grown HG.out (by omega)); replace X0 := yk (blk_grown X0.out HG.out (by omega)); replace XR := HX; clear HG)
  refine bodyPost_ret (results_list (rs := [.cell 4 27, .tmp 5]) rfl (by simp) (Vals.box any_dyad info_dyad (g := w.heap.size + 1) rfl XR.out rfl (.tmp .nil))) rfl ?_
  exact ⟨_, rfl, RDy.zero _ _ _, BEL.out.1⟩)
theorem dpow_two {f : Nat} (hf : f = 2) {n : Int} (h1 : -16384 ≤ n) (h2 : n ≤ 16384) {v : Value} {z : Int} {w : World} (h : NDy w v z (-1074)) (o : Ok z (-1074)) (hS : smallF (2 ^ 1074) z (-16384) 16384 = some n) :
 Calls Tryz.prog 46 #[.int .u8 f, v] w fun en w' => ∃ v', en = .returned (.tuple #[v', .bool ((some (powV n 0)) : Option (Int × Int)).isSome]) ∧ DO w' w.heap.size v' (some (powV n 0)) ∧ Below w.heap.size w w' := by
 obtain ⟨b0, A, n0, c, x0, rfl⟩ := h.ex
 have QW := yk (fun (W : World) (hb : Below w.heap.size w W) => (by
  have q := dwhole_any (h.below hb) o
  rw [hS] at q; exact q : Calls Tryz.prog 81 #[.agg #[.bool b0, .slice A n0 c, .int .i64 x0]] W fun en w' => en = .returned (.tuple #[.int .i64 n, .bool true]) ∧ Below W.heap.size W w'))
 have OK1 := yk (ok_lit (z := 1) (e := n) (by decide) (by omega) (by omega))
 have HF := yk (fun (W : World) (b : Nat) (v : Value) (h : RDy W b v 1 n) => (by
  unfold DO
  show RDy W b v (2 ^ (n - min n 0).toNat - 0 * 2 ^ (-(min n 0)).toNat) (min n 0)
  rw [Int.zero_mul, Int.sub_zero]; exact h.pow : DO W b v (some (powV n 0))))
 clear h o hS h1 h2
 subst hf
 go_enter Tryz.func46, Tryz.ntmps46
 obtain ⟨BEL, X0, XR⟩ := al2 w 2 #[.bool b0, .slice A n0 c, .int .i64 x0] 27 #[.bool false, .slice none 0 0, .int .i64 0] 27
 obtain ⟨q0, q0', q1, q1', q2, q2'⟩ := bc3 X0.out
 go_wp2_with fail
 clear q0 q0' q1 q1' q2 q2'
 go_at_call 81
 refine (QW.out _ BEL.out.1).mono ?_
 rintro en1 w1 ⟨rfl, hb⟩
 replace BEL := yk (BEL.out.next hb)
 replace X0 := yk (yb X0.out hb)
 replace XR := yk (yb XR.out hb)
 clear hb
 go_wp2_with fail
 go_at_call 80
 refine (dpower_any n _).mono ?_
 rintro en2 w2 ⟨v2, rfl, hr, hb⟩
 replace BEL := yk (BEL.out.next hb)
 replace X0 := yk (yb X0.out hb)
 replace XR := yk (yb XR.out hb)
 have P1 := yk hr
 obtain ⟨b2, A2, n2, c2, x2, rfl⟩ := hr.ex
 clear hr hb
 go_wp2_with fail
 have BLI := BEL
 go_at_call 79
 refine (dtold_nd (P1.out.c.nd OK1.out)).mono ?_
 rintro en3 w3 ⟨v3, rfl, hr, hb⟩
 replace BEL := yk (BEL.out.next hb)
 replace X0 := yk (yb X0.out hb)
 replace XR := yk (yb XR.out hb)
 replace P1 := yk (P1.out.below hb)
 have P9 := yk hr
 obtain ⟨b3, A3, n3, c3, x3, rfl⟩ := hr.ex
 clear hr hb
 go_wp2_with (((with_reducible refine gate_store (p := 4) rfl ?_); go_must (refine sdy 4 (.tmp 22) rfl rfl rfl rfl rfl XR.out rfl ?_; intro wb HX HG)); replace P1 := yk (P1.out.grown_box XR.out (by decide) HG.out); replace P9 := yk (P9.out.grown_box XR.out (by decide) HG.out); replace BEL := yk (BEL.out.grown HG.out (by omega)); replace X0 := yk (blk_grown X0.out HG.out (by omega)); replace XR := HX; clear HG)
 refine bodyPost_ret (results_list (rs := [.cell 4 27, .tmp 5]) rfl (by simp) (Vals.box any_dyad info_dyad (g := w.heap.size + 1) rfl XR.out rfl (.tmp .nil))) rfl ?_
 exact ⟨_, rfl, HF.out _ _ _ (P9.out.lower BLI.out.1.size), BEL.out.1⟩
theorem dpow_five {f : Nat} (hf : f = 5) {n : Int} (h1 : -54 ≤ n) (h2 : n ≤ 54) {v : Value} {z : Int} {w : World} (h : NDy w v z (-1074)) (o : Ok z (-1074)) (hS : smallF (2 ^ 1074) z (-16384) 16384 = some n) :
 Calls Tryz.prog 46 #[.int .u8 f, v] w fun en w' => ∃ v', en = .returned (.tuple #[v', .bool ((some (powV n 1)) : Option (Int × Int)).isSome]) ∧ DO w' w.heap.size v' (some (powV n 1)) ∧ Below w.heap.size w w' := by
 obtain ⟨b0, A, n0, c, x0, rfl⟩ := h.ex
 have QW := yk (fun (W : World) (hb : Below w.heap.size w W) => (by
  have q := dwhole_any (h.below hb) o
  rw [hS] at q; exact q : Calls Tryz.prog 81 #[.agg #[.bool b0, .slice A n0 c, .int .i64 x0]] W fun en w' => en = .returned (.tuple #[.int .i64 n, .bool true]) ∧ Below W.heap.size W w'))
 have hd1 : decide (-54 ≤ n) = true := decide_eq_true h1
 have hd2 : decide (n ≤ 54) = true := decide_eq_true h2
 have O1 := pow_Ok (n := n) (by omega) (by omega)
 have O2 := down_Ok (n := n) (l := 1) (by omega) (by omega) (by decide)
 have QL := yk (fun (W : World) (v : Value) (b : Nat) (h : RDy W b v 1 n) => (by
  have q := dless1_nd (h.pow.c.nd O1) O1 O2 (fun b u W h => RDy.down h)
  exact q : Calls Tryz.prog 82 #[v] W fun en w' => ∃ v', en = .returned v' ∧ RDy w' W.heap.size v' (powV n 1).1 (powV n 1).2 ∧ Below W.heap.size W w'))
 have O3 := yk (show Ok (powV n 1).1 (powV n 1).2 from Ok.of _ (sm_sub (sm_le (m := 60) (sm_pow _) (by omega)) (sm_le (m := 60) (sm_mul (a := 1) (n := 2) (by decide)) (by omega))) (by decide) (by show -65536 ≤ min n 0; omega) (by show min n 0 ≤ 65536; omega))
 clear h o hS h1 h2 O1 O2
 subst hf
 go_enter Tryz.func46, Tryz.ntmps46
 obtain ⟨BEL, X0, XR⟩ := al2 w 2 #[.bool b0, .slice A n0 c, .int .i64 x0] 27 #[.bool false, .slice none 0 0, .int .i64 0] 27
 obtain ⟨q0, q0', q1, q1', q2, q2'⟩ := bc3 X0.out
 go_wp2_with fail
 clear q0 q0' q1 q1' q2 q2'
 go_at_call 81
 refine (QW.out _ BEL.out.1).mono ?_
 rintro en1 w1 ⟨rfl, hb⟩
 replace BEL := yk (BEL.out.next hb)
 replace X0 := yk (yb X0.out hb)
 replace XR := yk (yb XR.out hb)
 clear hb
 go_wp2_with fail
 go_at_call 80
 refine (dpower_any n _).mono ?_
 rintro en2 w2 ⟨v2, rfl, hr, hb⟩
 replace BEL := yk (BEL.out.next hb)
 replace X0 := yk (yb X0.out hb)
 replace XR := yk (yb XR.out hb)
 have P1 := yk hr
 obtain ⟨b2, A2, n2, c2, x2, rfl⟩ := hr.ex
 clear hr hb
 go_wp2_with fail
 go_at_call 82
 refine (QL.out _ _ _ P1.out).mono ?_
 rintro en3 w3 ⟨v3, rfl, hr, hb⟩
 replace BEL := yk (BEL.out.next hb)
 replace X0 := yk (yb X0.out hb)
 replace XR := yk (yb XR.out hb)
 replace P1 := yk (P1.out.below hb)
 have P2 := yk hr
 obtain ⟨b3, A3, n3, c3, x3, rfl⟩ := hr.ex
 clear hr hb
 go_wp2_with fail
 have BLI := BEL
 go_at_call 79
 refine (dtold_nd (P2.out.c.nd O3.out)).mono ?_
 rintro en4 w4 ⟨v4, rfl, hr, hb⟩
 replace BEL := yk (BEL.out.next hb)
 replace X0 := yk (yb X0.out hb)
 replace XR := yk (yb XR.out hb)
 replace P1 := yk (P1.out.below hb)
 replace P2 := yk (P2.out.below hb)
 have P9 := yk hr
 obtain ⟨b4, A4, n4, c4, x4, rfl⟩ := hr.ex
 clear hr hb
 go_wp2_with (((with_reducible refine gate_store (p := 4) rfl ?_); go_must (refine sdy 4 (.tmp 39) rfl rfl rfl rfl rfl XR.out rfl ?_; intro wb HX HG)); replace P1 := yk (P1.out.grown_box XR.out (by decide) HG.out); replace P2 := yk (P2.out.grown_box XR.out (by decide) HG.out); replace P9 := yk (P9.out.grown_box XR.out (by decide) HG.out); replace BEL := yk (BEL.out.grown HG.out (by omega)); replace X0 := yk (blk_grown X0.out HG.out (by omega)); replace XR := HX; clear HG)
 refine bodyPost_ret (results_list (rs := [.cell 4 27, .tmp 5]) rfl (by simp) (Vals.box any_dyad info_dyad (g := w.heap.size + 1) rfl XR.out rfl (.tmp .nil))) rfl ?_
 exact ⟨_, rfl, P9.out.lower BLI.out.1.size, BEL.out.1⟩
theorem dpow_five_lo {f : Nat} (hf : f = 5) {n : Int} (h1 : ¬ -54 ≤ n) {v : Value} {z : Int} {w : World} (h : NDy w v z (-1074)) (o : Ok z (-1074)) (hS : smallF (2 ^ 1074) z (-16384) 16384 = some n) :
 Calls Tryz.prog 46 #[.int .u8 f, v] w fun en w' => ∃ v', en = .returned (.tuple #[v', .bool ((none) : Option (Int × Int)).isSome]) ∧ DO w' w.heap.size v' (none) ∧ Below w.heap.size w w' := by
 obtain ⟨b0, A, n0, c, x0, rfl⟩ := h.ex
 have QW := yk (fun (W : World) (hb : Below w.heap.size w W) => (by
  have q := dwhole_any (h.below hb) o
  rw [hS] at q; exact q : Calls Tryz.prog 81 #[.agg #[.bool b0, .slice A n0 c, .int .i64 x0]] W fun en w' => en = .returned (.tuple #[.int .i64 n, .bool true]) ∧ Below W.heap.size W w'))
 have hd1 : decide (-54 ≤ n) = false := decide_eq_false h1
 clear h o hS h1
 subst hf
 go_enter Tryz.func46, Tryz.ntmps46
 obtain ⟨BEL, X0, XR⟩ := al2 w 2 #[.bool b0, .slice A n0 c, .int .i64 x0] 27 #[.bool false, .slice none 0 0, .int .i64 0] 27
 obtain ⟨q0, q0', q1, q1', q2, q2'⟩ := bc3 X0.out
 go_wp2_with fail
 clear q0 q0' q1 q1' q2 q2'
 go_at_call 81
 refine (QW.out _ BEL.out.1).mono ?_
 rintro en1 w1 ⟨rfl, hb⟩
 replace BEL := yk (BEL.out.next hb)
 replace X0 := yk (yb X0.out hb)
 replace XR := yk (yb XR.out hb)
 clear hb
 go_wp2_with (((with_reducible refine gate_store (p := 4) rfl ?_); go_must (refine sdy 4 (.tmp 74) rfl rfl rfl rfl rfl XR.out rfl ?_; intro wb HX HG)); replace BEL := yk (BEL.out.grown HG.out (by omega)); replace X0 := yk (blk_grown X0.out HG.out (by omega)); replace XR := HX; clear HG)
 refine bodyPost_ret (results_list (rs := [.cell 4 27, .tmp 5]) rfl (by simp) (Vals.box any_dyad info_dyad (g := w.heap.size + 1) rfl XR.out rfl (.tmp .nil))) rfl ?_
 exact ⟨_, rfl, RDy.zero _ _ _, BEL.out.1⟩
theorem dpow_five_hi {f : Nat} (hf : f = 5) {n : Int} (h1 : -54 ≤ n ∧ ¬ n ≤ 54) {v : Value} {z : Int} {w : World} (h : NDy w v z (-1074)) (o : Ok z (-1074)) (hS : smallF (2 ^ 1074) z (-16384) 16384 = some n) :
 Calls Tryz.prog 46 #[.int .u8 f, v] w fun en w' => ∃ v', en = .returned (.tuple #[v', .bool ((none) : Option (Int × Int)).isSome]) ∧ DO w' w.heap.size v' (none) ∧ Below w.heap.size w w' := by
 obtain ⟨b0, A, n0, c, x0, rfl⟩ := h.ex
 have QW := yk (fun (W : World) (hb : Below w.heap.size w W) => (by
  have q := dwhole_any (h.below hb) o
  rw [hS] at q; exact q : Calls Tryz.prog 81 #[.agg #[.bool b0, .slice A n0 c, .int .i64 x0]] W fun en w' => en = .returned (.tuple #[.int .i64 n, .bool true]) ∧ Below W.heap.size W w'))
 have hd1 : decide (-54 ≤ n) = true := decide_eq_true h1.1
 have hd2 : decide (n ≤ 54) = false := decide_eq_false h1.2
 clear h o hS h1
 subst hf
 go_enter Tryz.func46, Tryz.ntmps46
 obtain ⟨BEL, X0, XR⟩ := al2 w 2 #[.bool b0, .slice A n0 c, .int .i64 x0] 27 #[.bool false, .slice none 0 0, .int .i64 0] 27
 obtain ⟨q0, q0', q1, q1', q2, q2'⟩ := bc3 X0.out
 go_wp2_with fail
 clear q0 q0' q1 q1' q2 q2'
 go_at_call 81
 refine (QW.out _ BEL.out.1).mono ?_
 rintro en1 w1 ⟨rfl, hb⟩
 replace BEL := yk (BEL.out.next hb)
 replace X0 := yk (yb X0.out hb)
 replace XR := yk (yb XR.out hb)
 clear hb
 go_wp2_with (((with_reducible refine gate_store (p := 4) rfl ?_); go_must (refine sdy 4 (.tmp 74) rfl rfl rfl rfl rfl XR.out rfl ?_; intro wb HX HG)); replace BEL := yk (BEL.out.grown HG.out (by omega)); replace X0 := yk (blk_grown X0.out HG.out (by omega)); replace XR := HX; clear HG)
 refine bodyPost_ret (results_list (rs := [.cell 4 27, .tmp 5]) rfl (by simp) (Vals.box any_dyad info_dyad (g := w.heap.size + 1) rfl XR.out rfl (.tmp .nil))) rfl ?_
 exact ⟨_, rfl, RDy.zero _ _ _, BEL.out.1⟩
theorem dpow_ten3 {f : Nat} (hf : f = 3) {n : Int} (h1 : 0 ≤ n) (h2 : n ≤ 23) {v : Value} {z : Int} {w : World} (h : NDy w v z (-1074)) (o : Ok z (-1074)) (hS : smallF (2 ^ 1074) z (-16384) 16384 = some n) :
 Calls Tryz.prog 46 #[.int .u8 f, v] w fun en w' => ∃ v', en = .returned (.tuple #[v', .bool ((some (tenI n.toNat - 0, 0)) : Option (Int × Int)).isSome]) ∧ DO w' w.heap.size v' (some (tenI n.toNat - 0, 0)) ∧ Below w.heap.size w w' := by
 obtain ⟨b0, A, n0, c, x0, rfl⟩ := h.ex
 have QW := yk (fun (W : World) (hb : Below w.heap.size w W) => (by
  have q := dwhole_any (h.below hb) o
  rw [hS] at q; exact q : Calls Tryz.prog 81 #[.agg #[.bool b0, .slice A n0 c, .int .i64 x0]] W fun en w' => en = .returned (.tuple #[.int .i64 n, .bool true]) ∧ Below W.heap.size W w'))
 obtain ⟨k, rfl⟩ : ∃ k : Nat, n = k := ⟨n.toNat, by omega⟩
 have hd1 : decide (0 ≤ (k : Int)) = true := decide_eq_true h1
 have hd2 : decide ((k : Int) ≤ 23) = true := decide_eq_true h2
 have HK := yk (show k ≤ 23 by omega)
 rw [Int.toNat_natCast]
 have HF := yk (fun (W : World) (b : Nat) (v : Value) (h : RDy W b v (tenI k) 0) => (by
  rw [Int.sub_zero]; exact h : DO W b v (some (tenI k - 0, 0))))
 clear h o hS h1 h2
 subst hf
 go_enter Tryz.func46, Tryz.ntmps46
 obtain ⟨BEL, X0, XR⟩ := al2 w 2 #[.bool b0, .slice A n0 c, .int .i64 x0] 27 #[.bool false, .slice none 0 0, .int .i64 0] 27
 obtain ⟨q0, q0', q1, q1', q2, q2'⟩ := bc3 X0.out
 go_wp2_with fail
 clear q0 q0' q1 q1' q2 q2'
 go_at_call 81
 refine (QW.out _ BEL.out.1).mono ?_
 rintro en1 w1 ⟨rfl, hb⟩
 replace BEL := yk (BEL.out.next hb)
 replace X0 := yk (yb X0.out hb)
 replace XR := yk (yb XR.out hb)
 clear hb
 go_wp2_with fail
 go_at_call 83
 refine (dten_any k (by have := HK.out; omega) _).mono ?_
 rintro en2 w2 ⟨v2, rfl, hr, hb⟩
 replace BEL := yk (BEL.out.next hb)
 replace X0 := yk (yb X0.out hb)
 replace XR := yk (yb XR.out hb)
 have P1 := yk hr
 obtain ⟨b2, A2, n2, c2, x2, rfl⟩ := hr.ex
 clear hr hb
 go_wp2_with fail
 have NT := yk (P1.out.ten HK.out)
 clear P1
 have BLI := BEL
 go_at_call 79
 refine (dtold_nd (NT.out)).mono ?_
 rintro en3 w3 ⟨v3, rfl, hr, hb⟩
 replace BEL := yk (BEL.out.next hb)
 replace X0 := yk (yb X0.out hb)
 replace XR := yk (yb XR.out hb)
 have P9 := yk hr
 obtain ⟨b3, A3, n3, c3, x3, rfl⟩ := hr.ex
 clear hr hb
 go_wp2_with (((with_reducible refine gate_store (p := 4) rfl ?_); go_must (refine sdy 4 (.tmp 55) rfl rfl rfl rfl rfl XR.out rfl ?_; intro wb HX HG)); replace P9 := yk (P9.out.grown_box XR.out (by decide) HG.out); replace BEL := yk (BEL.out.grown HG.out (by omega)); replace X0 := yk (blk_grown X0.out HG.out (by omega)); replace XR := HX; clear HG)
 refine bodyPost_ret (results_list (rs := [.cell 4 27, .tmp 5]) rfl (by simp) (Vals.box any_dyad info_dyad (g := w.heap.size + 1) rfl XR.out rfl (.tmp .nil))) rfl ?_
 exact ⟨_, rfl, HF.out _ _ _ (P9.out.lower BLI.out.1.size), BEL.out.1⟩
theorem dpow_ten3_lo {f : Nat} (hf : f = 3) {n : Int} (h1 : ¬ 0 ≤ n) {v : Value} {z : Int} {w : World} (h : NDy w v z (-1074)) (o : Ok z (-1074)) (hS : smallF (2 ^ 1074) z (-16384) 16384 = some n) :
 Calls Tryz.prog 46 #[.int .u8 f, v] w fun en w' => ∃ v', en = .returned (.tuple #[v', .bool ((none) : Option (Int × Int)).isSome]) ∧ DO w' w.heap.size v' (none) ∧ Below w.heap.size w w' := by
 obtain ⟨b0, A, n0, c, x0, rfl⟩ := h.ex
 have QW := yk (fun (W : World) (hb : Below w.heap.size w W) => (by
  have q := dwhole_any (h.below hb) o
  rw [hS] at q; exact q : Calls Tryz.prog 81 #[.agg #[.bool b0, .slice A n0 c, .int .i64 x0]] W fun en w' => en = .returned (.tuple #[.int .i64 n, .bool true]) ∧ Below W.heap.size W w'))
 have hd1 : decide (0 ≤ n) = false := decide_eq_false h1
 clear h o hS h1
 subst hf
 go_enter Tryz.func46, Tryz.ntmps46
 obtain ⟨BEL, X0, XR⟩ := al2 w 2 #[.bool b0, .slice A n0 c, .int .i64 x0] 27 #[.bool false, .slice none 0 0, .int .i64 0] 27
 obtain ⟨q0, q0', q1, q1', q2, q2'⟩ := bc3 X0.out
 go_wp2_with fail
 clear q0 q0' q1 q1' q2 q2'
 go_at_call 81
 refine (QW.out _ BEL.out.1).mono ?_
 rintro en1 w1 ⟨rfl, hb⟩
 replace BEL := yk (BEL.out.next hb)
 replace X0 := yk (yb X0.out hb)
 replace XR := yk (yb XR.out hb)
 clear hb
 go_wp2_with (((with_reducible refine gate_store (p := 4) rfl ?_); go_must (refine sdy 4 (.tmp 74) rfl rfl rfl rfl rfl XR.out rfl ?_; intro wb HX HG)); replace BEL := yk (BEL.out.grown HG.out (by omega)); replace X0 := yk (blk_grown X0.out HG.out (by omega)); replace XR := HX; clear HG)
 refine bodyPost_ret (results_list (rs := [.cell 4 27, .tmp 5]) rfl (by simp) (Vals.box any_dyad info_dyad (g := w.heap.size + 1) rfl XR.out rfl (.tmp .nil))) rfl ?_
 exact ⟨_, rfl, RDy.zero _ _ _, BEL.out.1⟩
theorem dpow_ten3_hi {f : Nat} (hf : f = 3) {n : Int} (h1 : 0 ≤ n ∧ ¬ n ≤ 23) {v : Value} {z : Int} {w : World} (h : NDy w v z (-1074)) (o : Ok z (-1074)) (hS : smallF (2 ^ 1074) z (-16384) 16384 = some n) :
 Calls Tryz.prog 46 #[.int .u8 f, v] w fun en w' => ∃ v', en = .returned (.tuple #[v', .bool ((none) : Option (Int × Int)).isSome]) ∧ DO w' w.heap.size v' (none) ∧ Below w.heap.size w w' := by
 obtain ⟨b0, A, n0, c, x0, rfl⟩ := h.ex
 have QW := yk (fun (W : World) (hb : Below w.heap.size w W) => (by
  have q := dwhole_any (h.below hb) o
  rw [hS] at q; exact q : Calls Tryz.prog 81 #[.agg #[.bool b0, .slice A n0 c, .int .i64 x0]] W fun en w' => en = .returned (.tuple #[.int .i64 n, .bool true]) ∧ Below W.heap.size W w'))
 have hd1 : decide (0 ≤ n) = true := decide_eq_true h1.1
 have hd2 : decide (n ≤ 23) = false := decide_eq_false h1.2
 clear h o hS h1
 subst hf
 go_enter Tryz.func46, Tryz.ntmps46
 obtain ⟨BEL, X0, XR⟩ := al2 w 2 #[.bool b0, .slice A n0 c, .int .i64 x0] 27 #[.bool false, .slice none 0 0, .int .i64 0] 27
 obtain ⟨q0, q0', q1, q1', q2, q2'⟩ := bc3 X0.out
 go_wp2_with fail
 clear q0 q0' q1 q1' q2 q2'
 go_at_call 81
 refine (QW.out _ BEL.out.1).mono ?_
 rintro en1 w1 ⟨rfl, hb⟩
 replace BEL := yk (BEL.out.next hb)
 replace X0 := yk (yb X0.out hb)
 replace XR := yk (yb XR.out hb)
 clear hb
 go_wp2_with (((with_reducible refine gate_store (p := 4) rfl ?_); go_must (refine sdy 4 (.tmp 74) rfl rfl rfl rfl rfl XR.out rfl ?_; intro wb HX HG)); replace BEL := yk (BEL.out.grown HG.out (by omega)); replace X0 := yk (blk_grown X0.out HG.out (by omega)); replace XR := HX; clear HG)
 refine bodyPost_ret (results_list (rs := [.cell 4 27, .tmp 5]) rfl (by simp) (Vals.box any_dyad info_dyad (g := w.heap.size + 1) rfl XR.out rfl (.tmp .nil))) rfl ?_
 exact ⟨_, rfl, RDy.zero _ _ _, BEL.out.1⟩
theorem dpow_ten6 {f : Nat} (hf : f = 6) {n : Int} (h1 : 0 ≤ n) (h2 : n ≤ 16) {v : Value} {z : Int} {w : World} (h : NDy w v z (-1074)) (o : Ok z (-1074)) (hS : smallF (2 ^ 1074) z (-16384) 16384 = some n) :
 Calls Tryz.prog 46 #[.int .u8 f, v] w fun en w' => ∃ v', en = .returned (.tuple #[v', .bool ((some (tenI n.toNat - 1, 0)) : Option (Int × Int)).isSome]) ∧ DO w' w.heap.size v' (some (tenI n.toNat - 1, 0)) ∧ Below w.heap.size w w' := by
 obtain ⟨b0, A, n0, c, x0, rfl⟩ := h.ex
 have QW := yk (fun (W : World) (hb : Below w.heap.size w W) => (by
  have q := dwhole_any (h.below hb) o
  rw [hS] at q; exact q : Calls Tryz.prog 81 #[.agg #[.bool b0, .slice A n0 c, .int .i64 x0]] W fun en w' => en = .returned (.tuple #[.int .i64 n, .bool true]) ∧ Below W.heap.size W w'))
 obtain ⟨k, rfl⟩ : ∃ k : Nat, n = k := ⟨n.toNat, by omega⟩
 have hd1 : decide (0 ≤ (k : Int)) = true := decide_eq_true h1
 have hd2 : decide ((k : Int) ≤ 16) = true := decide_eq_true h2
 have HK := yk (show k ≤ 23 by omega)
 rw [Int.toNat_natCast]
 have QL := yk (fun (W : World) (v : Value) (h : NDy W v (tenI k) 0) => (by
  have q := dless1_nd h (ten_Ok HK.out) (ok_lit (z := 1) (e := 0) (by decide) (by decide) (by decide)) (fun b u W h => h)
  exact q : Calls Tryz.prog 82 #[v] W fun en w' => ∃ v', en = .returned v' ∧ RDy w' W.heap.size v' (tenI k - 1) 0 ∧ Below W.heap.size W w'))
 have O3 := yk (show Ok (tenI k - 1) 0 from Ok.of _ (sm_sub (tenI_small (i := k) (by have := HK.out; omega)) (sm_le (a := 1) (n := 1) (m := 300) (by decide) (by decide))) (by decide) (by decide) (by decide))
 clear h o hS h1 h2
 subst hf
 go_enter Tryz.func46, Tryz.ntmps46
 obtain ⟨BEL, X0, XR⟩ := al2 w 2 #[.bool b0, .slice A n0 c, .int .i64 x0] 27 #[.bool false, .slice none 0 0, .int .i64 0] 27
 obtain ⟨q0, q0', q1, q1', q2, q2'⟩ := bc3 X0.out
 go_wp2_with fail
 clear q0 q0' q1 q1' q2 q2'
 go_at_call 81
 refine (QW.out _ BEL.out.1).mono ?_
 rintro en1 w1 ⟨rfl, hb⟩
 replace BEL := yk (BEL.out.next hb)
 replace X0 := yk (yb X0.out hb)
 replace XR := yk (yb XR.out hb)
 clear hb
 go_wp2_with fail
 go_at_call 83
 refine (dten_any k (by have := HK.out; omega) _).mono ?_
 rintro en2 w2 ⟨v2, rfl, hr, hb⟩
 replace BEL := yk (BEL.out.next hb)
 replace X0 := yk (yb X0.out hb)
 replace XR := yk (yb XR.out hb)
 have P1 := yk hr
 obtain ⟨b2, A2, n2, c2, x2, rfl⟩ := hr.ex
 clear hr hb
 go_wp2_with fail
 have NT := yk (P1.out.ten HK.out)
 clear P1
 go_at_call 82
 refine (QL.out _ _ NT.out).mono ?_
 rintro en3 w3 ⟨v3, rfl, hr, hb⟩
 replace BEL := yk (BEL.out.next hb)
 replace X0 := yk (yb X0.out hb)
 replace XR := yk (yb XR.out hb)
 have P2 := yk hr
 obtain ⟨b3, A3, n3, c3, x3, rfl⟩ := hr.ex
 clear hr hb
 clear NT
 go_wp2_with fail
 have BLI := BEL
 go_at_call 79
 refine (dtold_nd (P2.out.c.nd O3.out)).mono ?_
 rintro en4 w4 ⟨v4, rfl, hr, hb⟩
 replace BEL := yk (BEL.out.next hb)
 replace X0 := yk (yb X0.out hb)
 replace XR := yk (yb XR.out hb)
 replace P2 := yk (P2.out.below hb)
 have P9 := yk hr
 obtain ⟨b4, A4, n4, c4, x4, rfl⟩ := hr.ex
 clear hr hb
 go_wp2_with (((with_reducible refine gate_store (p := 4) rfl ?_); go_must (refine sdy 4 (.tmp 72) rfl rfl rfl rfl rfl XR.out rfl ?_; intro wb HX HG)); replace P2 := yk (P2.out.grown_box XR.out (by decide) HG.out); replace P9 := yk (P9.out.grown_box XR.out (by decide) HG.out); replace BEL := yk (BEL.out.grown HG.out (by omega)); replace X0 := yk (blk_grown X0.out HG.out (by omega)); replace XR := HX; clear HG)
 refine bodyPost_ret (results_list (rs := [.cell 4 27, .tmp 5]) rfl (by simp) (Vals.box any_dyad info_dyad (g := w.heap.size + 1) rfl XR.out rfl (.tmp .nil))) rfl ?_
 exact ⟨_, rfl, P9.out.lower BLI.out.1.size, BEL.out.1⟩
theorem dpow_ten6_lo {f : Nat} (hf : f = 6) {n : Int} (h1 : ¬ 0 ≤ n) {v : Value} {z : Int} {w : World} (h : NDy w v z (-1074)) (o : Ok z (-1074)) (hS : smallF (2 ^ 1074) z (-16384) 16384 = some n) :
 Calls Tryz.prog 46 #[.int .u8 f, v] w fun en w' => ∃ v', en = .returned (.tuple #[v', .bool ((none) : Option (Int × Int)).isSome]) ∧ DO w' w.heap.size v' (none) ∧ Below w.heap.size w w' := by
 obtain ⟨b0, A, n0, c, x0, rfl⟩ := h.ex
 have QW := yk (fun (W : World) (hb : Below w.heap.size w W) => (by
  have q := dwhole_any (h.below hb) o
  rw [hS] at q; exact q : Calls Tryz.prog 81 #[.agg #[.bool b0, .slice A n0 c, .int .i64 x0]] W fun en w' => en = .returned (.tuple #[.int .i64 n, .bool true]) ∧ Below W.heap.size W w'))
 have hd1 : decide (0 ≤ n) = false := decide_eq_false h1
 clear h o hS h1
 subst hf
 go_enter Tryz.func46, Tryz.ntmps46
 obtain ⟨BEL, X0, XR⟩ := al2 w 2 #[.bool b0, .slice A n0 c, .int .i64 x0] 27 #[.bool false, .slice none 0 0, .int .i64 0] 27
 obtain ⟨q0, q0', q1, q1', q2, q2'⟩ := bc3 X0.out
 go_wp2_with fail
 clear q0 q0' q1 q1' q2 q2'
 go_at_call 81
 refine (QW.out _ BEL.out.1).mono ?_
 rintro en1 w1 ⟨rfl, hb⟩
 replace BEL := yk (BEL.out.next hb)
 replace X0 := yk (yb X0.out hb)
 replace XR := yk (yb XR.out hb)
 clear hb
 go_wp2_with (((with_reducible refine gate_store (p := 4) rfl ?_); go_must (refine sdy 4 (.tmp 74) rfl rfl rfl rfl rfl XR.out rfl ?_; intro wb HX HG)); replace BEL := yk (BEL.out.grown HG.out (by omega)); replace X0 := yk (blk_grown X0.out HG.out (by omega)); replace XR := HX; clear HG)
 refine bodyPost_ret (results_list (rs := [.cell 4 27, .tmp 5]) rfl (by simp) (Vals.box any_dyad info_dyad (g := w.heap.size + 1) rfl XR.out rfl (.tmp .nil))) rfl ?_
 exact ⟨_, rfl, RDy.zero _ _ _, BEL.out.1⟩
theorem dpow_ten6_hi {f : Nat} (hf : f = 6) {n : Int} (h1 : 0 ≤ n ∧ ¬ n ≤ 16) {v : Value} {z : Int} {w : World} (h : NDy w v z (-1074)) (o : Ok z (-1074)) (hS : smallF (2 ^ 1074) z (-16384) 16384 = some n) :
 Calls Tryz.prog 46 #[.int .u8 f, v] w fun en w' => ∃ v', en = .returned (.tuple #[v', .bool ((none) : Option (Int × Int)).isSome]) ∧ DO w' w.heap.size v' (none) ∧ Below w.heap.size w w' := by
 obtain ⟨b0, A, n0, c, x0, rfl⟩ := h.ex
 have QW := yk (fun (W : World) (hb : Below w.heap.size w W) => (by
  have q := dwhole_any (h.below hb) o
  rw [hS] at q; exact q : Calls Tryz.prog 81 #[.agg #[.bool b0, .slice A n0 c, .int .i64 x0]] W fun en w' => en = .returned (.tuple #[.int .i64 n, .bool true]) ∧ Below W.heap.size W w'))
 have hd1 : decide (0 ≤ n) = true := decide_eq_true h1.1
 have hd2 : decide (n ≤ 16) = false := decide_eq_false h1.2
 clear h o hS h1
 subst hf
 go_enter Tryz.func46, Tryz.ntmps46
 obtain ⟨BEL, X0, XR⟩ := al2 w 2 #[.bool b0, .slice A n0 c, .int .i64 x0] 27 #[.bool false, .slice none 0 0, .int .i64 0] 27
 obtain ⟨q0, q0', q1, q1', q2, q2'⟩ := bc3 X0.out
 go_wp2_with fail
 clear q0 q0' q1 q1' q2 q2'
 go_at_call 81
 refine (QW.out _ BEL.out.1).mono ?_
 rintro en1 w1 ⟨rfl, hb⟩
 replace BEL := yk (BEL.out.next hb)
 replace X0 := yk (yb X0.out hb)
 replace XR := yk (yb XR.out hb)
 clear hb
 go_wp2_with (((with_reducible refine gate_store (p := 4) rfl ?_); go_must (refine sdy 4 (.tmp 74) rfl rfl rfl rfl rfl XR.out rfl ?_; intro wb HX HG)); replace BEL := yk (BEL.out.grown HG.out (by omega)); replace X0 := yk (blk_grown X0.out HG.out (by omega)); replace XR := HX; clear HG)
 refine bodyPost_ret (results_list (rs := [.cell 4 27, .tmp 5]) rfl (by simp) (Vals.box any_dyad info_dyad (g := w.heap.size + 1) rfl XR.out rfl (.tmp .nil))) rfl ?_
 exact ⟨_, rfl, RDy.zero _ _ _, BEL.out.1⟩
theorem dpowers_any {f : Nat} (hf : f = 1 ∨ f = 2 ∨ f = 3 ∨ f = 4 ∨ f = 5 ∨ f = 6) {v : Value} {z : Int} {w : World} (h : NDy w v z (-1074)) (o : Ok z (-1074)) :
 Calls Tryz.prog 46 #[.int .u8 f, v] w fun en w' => ∃ v', en = .returned (.tuple #[v', .bool (powO f (smallF (2 ^ 1074) z (-16384) 16384)).isSome]) ∧ DO w' w.heap.size v' (powO f (smallF (2 ^ 1074) z (-16384) 16384)) ∧ Below w.heap.size w w' := by
 rcases hS : smallF (2 ^ 1074) z (-16384) 16384 with _ | n
 · exact dpow_none hf h o hS
 have hn := smallF_in (Int.pow_pos (by decide)) hS
 unfold powO
 rw [Option.bind_some]
 by_cases f2 : f = 2
 · rw [if_pos f2]; exact dpow_two f2 hn.1 hn.2 h o hS
 rw [if_neg f2]
 by_cases f5 : f = 5
 · by_cases a : -54 ≤ n
   · by_cases b : n ≤ 54
     · rw [if_pos ⟨f5, a, b⟩]; exact dpow_five f5 a b h o hS
     · rw [if_neg (fun q => b q.2.2), if_neg (fun q => by omega), if_neg (fun q => by omega)]; exact dpow_five_hi f5 ⟨a, b⟩ h o hS
   · rw [if_neg (fun q => a q.2.1), if_neg (fun q => by omega), if_neg (fun q => by omega)]; exact dpow_five_lo f5 a h o hS
 rw [if_neg (fun q => f5 q.1)]
 by_cases f3 : f = 3
 · by_cases a : 0 ≤ n
   · by_cases b : n ≤ 23
     · rw [if_pos ⟨f3, a, b⟩]; exact dpow_ten3 f3 a b h o hS
     · rw [if_neg (fun q => b q.2.2), if_neg (fun q => by omega)]; exact dpow_ten3_hi f3 ⟨a, b⟩ h o hS
   · rw [if_neg (fun q => a q.2.1), if_neg (fun q => by omega)]; exact dpow_ten3_lo f3 a h o hS
 rw [if_neg (fun q => f3 q.1)]
 by_cases f6 : f = 6
 · by_cases a : 0 ≤ n
   · by_cases b : n ≤ 16
     · rw [if_pos ⟨f6, a, b⟩]; exact dpow_ten6 f6 a b h o hS
     · rw [if_neg (fun q => b q.2.2)]; exact dpow_ten6_hi f6 ⟨a, b⟩ h o hS
   · rw [if_neg (fun q => a q.2.1)]; exact dpow_ten6_lo f6 a h o hS
 rw [if_neg (fun q => f6 q.1)]
 exact dpow_zero (by omega) h o hS
end Go.Proofs.YtgpjplelgffocaaGreatDoor
