/- Part 6 of the library of this claim: what the program and the document compute, as contracts of their functions. -/
import Derived.Test.YtgpjplelgffocaaGreatDoorC5
import Derived.Deep.DeepCutAuto
set_option maxRecDepth 100000
set_option maxHeartbeats 8000000
namespace Go.Proofs.YtgpjplelgffocaaGreatDoor
open Go.RowKit Go.Proofs.YtgpjplelgffocaaGreatDoorW.PrintWords Limb
set_option linter.unusedVariables false
set_option linter.unusedSimpArgs false

def logT (f : Nat) (z : Int) : Int := if 10 ≤ f then z + 1 * 2 ^ 1074 else z
def logO (f : Nat) (t : Int) : Option (Int × Int) :=
 if f = 8 ∨ f = 11 then log2F t else if f = 9 then logF (2 ^ 1074) 22 t else if f = 12 then logF (2 ^ 1074) 16 t else if t = 2 ^ 1074 then some (0, 0) else none
theorem same_one {t x : Int} (hp : 0 < t) (hx : x = cexp t (-1074)) : decide (cneg t = cneg 1 ∧ cexp t (-1074) = cexp 1 x ∧ cman t = cman 1) = decide (cman t = 1) := by
 have e1 : cexp 1 x = x := by unfold cexp; simp [tz_odd]
 have e2 : cman 1 = 1 := cman_one
 have e3 : cneg 1 = false := rfl
 have e4 : cneg t = false := by unfold cneg; exact decide_eq_false (by omega)
 rw [e1, e2, e3, e4, hx]
 exact decide_eq_decide.2 ⟨fun h => h.2.2, fun h => ⟨rfl, rfl, h⟩⟩
theorem sgn_eq0 (r : Int) : (sgnI r == 0) = decide (r = 0) := by
 unfold sgnI
 by_cases h : r = 0
 · rw [if_pos h, decide_eq_true h]; rfl
 · rw [if_neg h, decide_eq_false h]; split <;> rfl
theorem dlogs_any {f : Nat} (hf : 7 ≤ f ∧ f ≤ 12) {v : Value} {z : Int} {w : World} (h : CDy w v z (-1074)) (hz : z.natAbs < 2 ^ 2098) (hp : 0 < logT f z) :
 Calls Tryz.prog 47 #[.int .u8 f, v] w fun en w' => ∃ v', en = .returned (.tuple #[v', .bool (logO f (logT f z)).isSome]) ∧ DO w' w.heap.size v' (logO f (logT f z)) ∧ Below w.heap.size w w' := by
 obtain ⟨b0, A, n0, c, x0, rfl⟩ := h.ex
 have OZ := ok_z hz
 have OM : Ok (1 * 2 ^ 1074) (-1074) := Ok.of (e := -1074) _ (sm_mul (a := 1) (n := 2) (k := 1074) (by decide)) (by decide) (by decide) (by decide)
 obtain ⟨t, ht⟩ : ∃ t, t = logT f z := ⟨_, rfl⟩
 have hts : t.natAbs < 2 ^ 2400 := by
  rw [ht]; unfold logT
  split
  · exact sm_le (m := 2400) (sm_add hz (sm_le (m := 2098) (sm_mul (a := 1) (n := 2) (k := 1074) (by decide)) (by decide))) (by decide)
  · exact sm_le (m := 2400) hz (by decide)
 have OT := yk (Ok.of (z := t) (e := -1074) _ hts (by decide) (by decide) (by decide))
 have CX := yk (cexp_small hts)
 have QP := yk (fun (h10 : 10 ≤ f) (W : World) (u : Value) (hb : Below w.heap.size w W) (b : Nat) (hu : RDy W b u 1 0) => (by
  have q := plus_nd ((h.below hb).nd OZ) ((RDy.scale (e := -1074) 1074 hu).c.nd OM) OZ.len28 OM.len28 OZ.lo33 OZ.hi33 OM.lo33 OM.hi33
  rw [show z + 1 * 2 ^ 1074 = t from by rw [ht]; unfold logT; rw [if_pos h10]] at q
  exact q : Calls Tryz.prog 84 #[.agg #[.bool b0, .slice A n0 c, .int .i64 x0], u] W fun en w' => ∃ v', en = .returned v' ∧ RDy w' W.heap.size v' t (-1074) ∧ Below W.heap.size W w'))
 have QZ := yk (fun (h10 : ¬ 10 ≤ f) (W : World) (hb : Below w.heap.size w W) => (by
  rw [show t = z from by rw [ht]; unfold logT; rw [if_neg h10]]
  exact (h.below hb).nd OZ : NDy W (.agg #[.bool b0, .slice A n0 c, .int .i64 x0]) t (-1074)))
 rw [← ht] at hp ⊢
 obtain ⟨O, hO⟩ : ∃ O, O = logO f t := ⟨_, rfl⟩
 obtain ⟨M, hM⟩ : ∃ M : Int, M = 2 ^ 1074 := ⟨_, rfl⟩
 obtain ⟨most, hmost⟩ : ∃ m : Nat, m = if 10 ≤ f then 16 else 22 := ⟨_, rfl⟩
 have HMO := yk (show most ≤ 22 by rw [hmost]; split <;> omega)
 have HM2 := yk (ya (fun h10 : 10 ≤ f => (show most = 16 by rw [hmost, if_pos h10])) (fun h10 : ¬ 10 ≤ f => (show most = 22 by rw [hmost, if_neg h10])))
 have HA := yk (fun (h8 : f = 8 ∨ f = 11) => (show O = if cman t = 1 then some (cexp t (-1074), 0) else none by rw [hO]; unfold logO; rw [if_pos h8]; rfl))
 have HXX := yk (fun (x : Int) (hx : x = cexp t (-1074)) => same_one hp hx)
 have HB := yk (fun (h8 : ¬ (f = 8 ∨ f = 11)) (h9 : f = 9 ∨ f = 12) => (show O = logF M most t by
  rw [hO, hM, hmost]; unfold logO
  rw [if_neg h8]
  rcases h9 with rfl | rfl <;> rfl))
 have HC := yk (fun (h8 : ¬ (f = 8 ∨ f = 11)) (h9 : ¬ (f = 9 ∨ f = 12)) => (show O = if t = M then some (0, 0) else none by
  rw [hO, hM]; unfold logO
  rw [if_neg h8, if_neg (fun q => h9 (.inl q)), if_neg (fun q => h9 (.inr q))]))
 have HHIT := yk (fun (h8 : ¬ (f = 8 ∨ f = 11)) (i : Nat) (hi : i < most + 1) (ha : i = 0 ∨ (f = 9 ∨ f = 12)) (hno : ∀ j, j < i → (j = 0 ∨ (f = 9 ∨ f = 12)) → ¬ t = tenI j * M) (h1 : t = tenI i * M) => (by
  by_cases h9 : f = 9 ∨ f = 12
  · rw [HB.out h8 h9]; exact log_some hi (fun j hj => hno j hj (.inr h9)) h1
  · have hi0 : i = 0 := ha.resolve_right h9
    subst hi0
    rw [tenI_zero, Int.one_mul] at h1
    rw [HC.out h8 h9, if_pos h1]; rfl : O = some ((i : Int), 0)))
 have HEND := yk (fun (h8 : ¬ (f = 8 ∨ f = 11)) (hno : ∀ j, j < most + 1 → (j = 0 ∨ (f = 9 ∨ f = 12)) → ¬ t = tenI j * M) => (by
  by_cases h9 : f = 9 ∨ f = 12
  · rw [HB.out h8 h9]; exact log_none (fun j hj => hno j hj (.inr h9))
  · have h1 := hno 0 (by omega) (.inl rfl)
    rw [tenI_zero, Int.one_mul] at h1
    rw [HC.out h8 h9, if_neg h1] : O = none))
 have HP := yk (fun (k : Nat) (hk : k ≤ 23) (W : World) (u : Value) (b : Nat) (h : RNy W b u (10 ^ k)) => (by
  have h1 := h.ten hk
  obtain ⟨bb, l, A, n, c, x, rfl, q1, q2, q3, q4, q5, q6, q7, q8⟩ := h1
  refine ⟨bb, l, A, n, c, x, rfl, q1, q2, q3, q4, q5, q6, q7, ?_⟩
  rw [hM]
  rcases q8 with ⟨a1, a2⟩ | ⟨j, a1, a2⟩
  · exact .inl ⟨a1, by rw [a2, Int.zero_mul]⟩
  · exact .inr ⟨j + 1074, by omega, by rw [a2, Int.pow_add, Int.mul_assoc]⟩ : NDy W u (tenI k * M) (-1074)))
 have OTN := yk (fun (i : Nat) (hi : i ≤ 60) => (by
  have q := Ok.of (e := -1074) _ (sm_mul (k := 1074) (tenI_small hi)) (by decide) (by decide) (by decide)
  rw [← hM] at q; exact q : Ok (tenI i * M) (-1074)))
 rw [← hO]
 obtain ⟨mI, hmI⟩ : ∃ m : Int, m = (most : Int) := ⟨_, rfl⟩
 have HMI := yk hmI
 clear hmI
 obtain ⟨T10, hd⟩ : ∃ q, decide ((10 : Int) ≤ f) = q := ⟨_, rfl⟩
 have H10 := yk hd
 have HF := yk hf
 clear h hz OZ OM hts hp hO ht hM hmost hf
 go_enter Tryz.func47, Tryz.ntmps47
 go_upto_if 9 with fail
 go_cut [6] (fun v6 wx => ∃ (b : Bool) (A : Option Addr) (n c : Nat) (x : Int), v6 = .int .i64 mI ∧ Aside0 (BelN w 2 wx) ∧ Aside0 (wx.heap[w.heap.size]? = some (.cells #[.bool b, .slice A n c, .int .i64 x] 27 (0, 0))) ∧ Aside0 (wx.heap[w.heap.size + 1]? = some (.cells #[.bool false, .slice none 0 0, .int .i64 0] 27 (0, 0))) ∧ Aside0 (NDy wx (.agg #[.bool b, .slice A n c, .int .i64 x]) t (-1074)))
 case first =>
  obtain ⟨BEL, X0, XR⟩ := al2 w 2 #[.bool b0, .slice A n0 c, .int .i64 x0] 27 #[.bool false, .slice none 0 0, .int .i64 0] 27
  clear hd
  cases T10
  case false =>
   have h10 : ¬ 10 ≤ f := by have := of_decide_eq_false H10.out; omega
   have HN := yk (QZ.out h10 _ BEL.out.1)
   have hm := yk (HM2.out.2 h10)
   clear h10
   go_wp2_with fail
   go_meet
   case rel => exact ⟨_, _, _, _, _, by rw [HMI.out, hm.out]; rfl, BEL, X0, XR, HN⟩
  case true =>
   have h10 : 10 ≤ f := by have := of_decide_eq_true H10.out; omega
   have QQ := yk (QP.out h10)
   have hm := yk (HM2.out.1 h10)
   clear h10
   go_upto_region 3 with fail
   obtain ⟨GM, hGM⟩ : ∃ G : (Nat → Prop) → (Nat → Value) → World → Prop, G = fun L v W => BelN w 2 W ∧ W.heap[w.heap.size + 1]? = some (.cells #[.bool false, .slice none 0 0, .int .i64 0] 27 (0, 0)) ∧ (L 0 → (v 0) = .agg #[.bool b0, .slice A n0 c, .int .i64 x0]) ∧ (L 1 → RDy W w.heap.size (v 1) 1 0) ∧ (L 2 → RDy W (w.heap.size + 2) (v 2) t (-1074)) ∧ ((¬ L 3 → W.heap[w.heap.size]? = some (.cells #[.bool b0, .slice A n0 c, .int .i64 x0] 27 (0, 0))) ∧ (L 3 → ∃ (bb : Bool) (A : Option Addr) (n c : Nat) (x : Int), (v 2) = .agg #[.bool bb, .slice A n c, .int .i64 x] ∧ W.heap[w.heap.size]? = some (.cells #[.bool bb, .slice A n c, .int .i64 x] 27 (0, 0)))) := ⟨_, rfl⟩
   refine wp_region_slotsV [10, 11, 12] (by kernel_rfl) (by kernel_rfl) (G := GM) ?h0M ?hstepM ?hendM
   case h0M =>
    intro v; rw [hGM]
    exact ⟨BEL.out.next (below_drew yr), blk_drew XR.out, fun h => h.elim, fun h => h.elim, fun h => h.elim, ⟨fun _ => blk_drew X0.out, fun h => h.elim⟩⟩
   case hstepM =>
    intro k o ho v W L hGv hnk haft hcl K hK
    rw [hGM] at hGv
    obtain ⟨hB, hb0, f0, f1, f2, f3⟩ := hGv
    rcases k with _ | _ | _ | _ | k
    all_goals first
     | (cases ho; done)
     | (obtain rfl := (Option.some.inj ho).symm
        clear ho
        rw [if_pos (by rfl)]
        simp only [setAll, List.setIfInBounds_toArray, List.set_cons_zero, List.set_cons_succ, List.set_nil, List.getElem_toArray, List.getElem_cons_zero, List.getElem_cons_succ, Nat.reduceAdd] at haft hK ⊢)
    ·
     have hgb := f3.1 (fun h => hnk (hcl 3 _ rfl h ⟨0, .phase⟩ (by simp) rfl))
     have cc0 := (box_cell (v := .bool b0) hgb 0 rfl).1
     have cc1 := (box_cell (v := .slice A n0 c) hgb 1 rfl).1
     have cc2 := (box_cell (v := .int .i64 x0) hgb 2 rfl).1
     have hb := yw W
     have key := hK.out (.agg #[.bool b0, .slice A n0 c, .int .i64 x0]) W (by rw [hGM]; exact ⟨hB.next hb, yb hb0 hb, yu, (fun h => by rw [upd_ne v _ (by decide)]; exact (f1 (yx h)).below hb), (fun h => by rw [upd_ne v _ (by decide)]; exact (f2 (yx h)).below hb), (⟨fun h2 => yb (f3.1 (fun h3 => h2 (.inl h3))) hb, fun h2 => by rw [upd_ne v _ (by decide)]; obtain ⟨bb, A, n, c, x, y1, y2⟩ := f3.2 (yx h2); exact ⟨bb, A, n, c, x, y1, yb y2 hb⟩⟩)⟩)
     clear hb0 f0 f1 f2 f3 hb hK
     go_simp
     simpa [upd] using key
    ·
     have HALL := yk (ya hK (ya hB (ya hb0 ( ya f0 ( ya f1 ( ya f2 ( ya f3 (True.intro))))))))
     clear hK hb0 f0 f1 f2 f3
     go_simp
     go_at_call 21
     refine (dint_any 1 _ (by decide) (by decide)).mono ?_
     rintro en w4 ⟨v1, rfl, hr, hb⟩
     obtain ⟨hK, hB, hb0, f0, f1, f2, f3, _⟩ := HALL.out
     have key := hK.out (v1) w4 (by rw [hGM]; exact ⟨hB.next hb, yb hb0 hb, (kV f0), fun _ => by rw [upd_eq]; exact hr.lower (lw hB.2), (fun h => by rw [upd_ne v _ (by decide)]; exact (f2 (yx h)).below hb), (⟨fun h2 => yb (f3.1 (fun h3 => h2 (.inl h3))) hb, fun h2 => by rw [upd_ne v _ (by decide)]; obtain ⟨bb, A, n, c, x, y1, y2⟩ := f3.2 (yx h2); exact ⟨bb, A, n, c, x, y1, yb y2 hb⟩⟩)⟩)
     clear hb0 f0 f1 f2 f3 hK HALL
     simpa [upd] using key
    ·
     have hns3 : ¬ L 3 := fun hs => hnk (hcl 3 _ rfl hs ⟨2, .data⟩ (by simp) rfl)
     have d0 := f0 (haft ⟨0, .data⟩ (by simp) rfl)
     have D0 := d0
     have d1 := f1 (haft ⟨1, .data⟩ (by simp) rfl)
     have D1 := d1
     have HALL := yk (ya hK (ya hB (ya hb0 ( ya f0 ( ya f1 ( ya f2 ( ya f3 (True.intro))))))))
     clear hK hb0 f0 f1 f2 f3
     go_simp
     go_at_call 84
     refine (QQ.out _ _ hB.1 _ d1).mono ?_
     rintro en w4 ⟨v1, rfl, hr, hb⟩
     obtain ⟨hK, hB, hb0, f0, f1, f2, f3, _⟩ := HALL.out
     have key := hK.out (v1) w4 (by rw [hGM]; exact ⟨hB.next hb, yb hb0 hb, (kV f0), (fun h => by rw [upd_ne v _ (by decide)]; exact (f1 (yx h)).below hb), fun _ => by rw [upd_eq]; exact hr.lower hB.2, (⟨fun h2 => yb (f3.1 (fun h3 => h2 (.inl h3))) hb, fun h2 => (hns3 (yx h2)).elim⟩)⟩)
     clear hb0 f0 f1 f2 f3 hK HALL
     simpa [upd, D0] using key
    ·
     have hgb := f3.1 hnk
     have ds := f2 (haft ⟨2, .data⟩ (by simp) rfl)
     obtain ⟨bb, A, n, c, x, es⟩ := ds.ex
     refine wp_store_box 27 3 (.tmp 12) rfl rfl (g := w.heap.size) (e := 27) (v 2) [.bool bb, .slice A n c, .int .i64 x] (by first | rfl | exact rfl) rfl (by rw [es]; rfl) info_dyad ?_ hgb rfl ?_
     · intro q hq; simp at hq; rcases hq with rfl | rfl | rfl <;> rfl
     · intro w1 hw1 hg
       have key := hK.out undef w1 (by rw [hGM]; exact ⟨hB.grown hg (by omega), blk_grown hb0 hg (by omega), (kV f0), (fun h => by rw [upd_ne v _ (by decide)]; exact (f1 (yx h)).grown_box hgb (by decide) hg), (fun h => by rw [upd_ne v _ (by decide)]; exact (f2 (yx h)).grown_box hgb (by decide) hg), ⟨fun h => (h (.inr rfl)).elim, fun _ => by rw [upd_ne v _ (by decide)]; exact ⟨bb, A, n, c, x, es, hw1⟩⟩⟩)
       clear hb0 f0 f1 f2 f3 hK
       simpa [upd] using key
   case hendM =>
    intro v W L0 hall hGv
    rw [hGM] at hGv
    obtain ⟨hB, hb0, f0, f1, f2, f3⟩ := hGv
    have d2 := f2 (hall 2 (by decide))
    obtain ⟨b7, A7, n7, c7, x7, p3, hx7⟩ := f3.2 (hall 3 (by decide))
    rw [p3] at d2
    replace BEL := yk hB
    replace XR := yk hb0
    replace X0 := yk hx7
    have P0 := yk d2
    clear hall f0 f1 f2 f3 hB hb0 d2 hx7
    simp only [setAll, List.setIfInBounds_toArray, List.set_cons_zero, List.set_cons_succ, Nat.reduceAdd]
    go_wp2_with fail
    go_meet
    case rel => exact ⟨_, _, _, _, _, by rw [HMI.out, hm.out]; rfl, BEL, X0, XR, ⟨P0.out.c.nd OT.out⟩⟩
 case rest =>
 clear hd
 obtain ⟨b7, A7, n7, c7, x7, rfl, BEL, X0, XR, N0⟩ := hcut
 obtain ⟨q0, q0', q1, q1', q2, q2'⟩ := bc3 X0.out
 go_wp2_with fail
 have BLI := BEL
 clear q0 q0' q1 q1' q2 q2'
 go_at_call 56
 refine (one_nd N0.out).mono ?_
 rintro en8 w8 ⟨v8, rfl, hr, hb⟩
 replace BEL := yk (BEL.out.next hb)
 replace X0 := yk (yb X0.out hb)
 replace XR := yk (yb XR.out hb)
 have P1 := yk hr
 obtain ⟨b8, A8, n8, c8, x8, rfl⟩ := hr.ex
 clear hr hb
 clear N0
 obtain ⟨-, ex, -⟩ := CDy.parts P1.out.c
 have HXE := yk ex
 clear ex
 replace P1 := yk (P1.out.lower (b' := w.heap.size) BLI.out.1.size)
 clear BLI QP QZ
 by_cases h8 : f = 8 ∨ f = 11
 case pos =>
  have HO := yk (HA.out h8)
  obtain ⟨q, hq⟩ : ∃ q, decide (cman t = 1) = q := ⟨_, rfl⟩
  have HQ := yk hq
  replace HXX := yk (fun (x : Int) (hx : x = cexp t (-1074)) => (HXX.out x hx).trans hq)
  clear hq HHIT HEND HB HC HA
  rcases h8 with rfl | rfl
  all_goals (
   go_wp2_with (((with_reducible refine gate_store (p := 3) rfl ?_); go_must (refine sdy 3 (.tmp 14) rfl rfl rfl rfl rfl X0.out rfl ?_; intro wb HX HG)); replace P1 := yk (P1.out.grown_box X0.out (by decide) HG.out); replace BEL := yk (BEL.out.grown HG.out (by omega)); replace XR := yk (blk_grown XR.out HG.out (by omega)); replace X0 := HX; clear HG)
   go_upto_region 7 with fail
   obtain ⟨TN, hTN⟩ : ∃ T : List (Option Value), T = [some (.agg #[.bool b8, .slice A8 n8 c8, .int .i64 x8]), some (.pointer (some ⟨w.heap.size, 2, none⟩)), some (.int .i64 x8), none, none] := ⟨_, rfl⟩
   obtain ⟨GN, hGN⟩ : ∃ G : (Nat → Prop) → (Nat → Value) → World → Prop, G = fun L v W => BelN w 2 W ∧ W.heap[w.heap.size]? = some (.cells #[.bool b8, .slice A8 n8 c8, .int .i64 x8] 27 (0, 0)) ∧ W.heap[w.heap.size + 1]? = some (.cells #[.bool false, .slice none 0 0, .int .i64 0] 27 (0, 0)) ∧ RDy W w.heap.size (.agg #[.bool b8, .slice A8 n8 c8, .int .i64 x8]) t (-1074) ∧ (∀ j c, L j → TN[j]? = some (some c) → v j = c) ∧ (L 3 → RDy W w.heap.size (v 3) 1 x8) ∧ (L 4 → (v 4) = .bool q) := ⟨_, rfl⟩
   refine wp_region_slotsV [21, 22, 23, 24, 25] (by kernel_rfl) (by kernel_rfl) (G := GN) ?h0N ?hstepN ?hendN
   case h0N =>
    intro v; rw [hGN]
    exact ⟨BEL.out.next (below_drew yr), blk_drew X0.out, blk_drew XR.out, P1.out.below (below_drew yr), fun _ _ h => h.elim, fun h => h.elim, fun h => h.elim⟩
   case hstepN =>
    intro k o ho v W L hGv hnk haft hcl K hK
    rw [hGN] at hGv
    obtain ⟨hB, hb0, hb1, hk0, fT, f3, f4⟩ := hGv
    rcases k with _ | _ | _ | _ | _ | k
    all_goals first
     | (cases ho; done)
     | (obtain rfl := (Option.some.inj ho).symm
        clear ho
        rw [if_pos (by rfl)]
        simp only [setAll, List.setIfInBounds_toArray, List.set_cons_zero, List.set_cons_succ, List.set_nil, List.getElem_toArray, List.getElem_cons_zero, List.getElem_cons_succ, Nat.reduceAdd] at haft hK ⊢)
    ·
     have cc0 := (box_cell (v := .bool b8) hb0 0 rfl).1
     have cc1 := (box_cell (v := .slice A8 n8 c8) hb0 1 rfl).1
     have cc2 := (box_cell (v := .int .i64 x8) hb0 2 rfl).1
     have hb := yw W
     have key := hK.out (.agg #[.bool b8, .slice A8 n8 c8, .int .i64 x8]) W (by rw [hGN]; exact ⟨hB.next hb, yb hb0 hb, yb hb1 hb, hk0.below hb, tabs_step fT (fun c h => by rw [hTN] at h; exact yo h), (fun h => by rw [upd_ne v _ (by decide)]; exact (f3 (yx h)).below hb), (kV f4)⟩)
     clear hb0 hb1 hk0 fT f3 f4 hK hb
     go_simp
     simpa [upd] using key
    ·
     have hb := yw W
     have key := hK.out (.pointer (some ⟨w.heap.size, 2, none⟩)) W (by rw [hGN]; exact ⟨hB.next hb, yb hb0 hb, yb hb1 hb, hk0.below hb, tabs_step fT (fun c h => by rw [hTN] at h; exact yo h), (fun h => by rw [upd_ne v _ (by decide)]; exact (f3 (yx h)).below hb), (kV f4)⟩)
     clear hb0 hb1 hk0 fT f3 f4 hK hb
     go_simp
     simpa [upd] using key
    ·
     have d1 := fT 1 _ (haft ⟨1, .data⟩ (by simp) rfl) (by rw [hTN]; rfl)
     have cc0 := (box_cell (v := .bool b8) hb0 0 rfl).1
     have cc1 := (box_cell (v := .slice A8 n8 c8) hb0 1 rfl).1
     have cc2 := (box_cell (v := .int .i64 x8) hb0 2 rfl).1
     have hb := yw W
     have key := hK.out (.int .i64 x8) W (by rw [hGN]; exact ⟨hB.next hb, yb hb0 hb, yb hb1 hb, hk0.below hb, tabs_step fT (fun c h => by rw [hTN] at h; exact yo h), (fun h => by rw [upd_ne v _ (by decide)]; exact (f3 (yx h)).below hb), (kV f4)⟩)
     clear hb0 hb1 hk0 fT f3 f4 hK hb
     go_simp
     simpa [upd, d1] using key
    ·
     have d2 := fT 2 _ (haft ⟨2, .data⟩ (by simp) rfl) (by rw [hTN]; rfl)
     have HALL := yk (ya hK (ya hB (ya hb0 ( ya hb1 ( ya hk0 ( ya fT ( ya f3 ( ya f4 (True.intro)))))))))
     clear hK hb0 hb1 hk0 fT f3 f4
     go_simp
     go_at_call 80
     refine (dpower_any x8 _).mono ?_
     rintro en w4 ⟨v1, rfl, hr, hb⟩
     obtain ⟨hK, hB, hb0, hb1, hk0, fT, f3, f4, _⟩ := HALL.out
     have key := hK.out (v1) w4 (by rw [hGN]; exact ⟨hB.next hb, yb hb0 hb, yb hb1 hb, hk0.below hb, tabs_step fT (fun c h => by rw [hTN] at h; cases h), fun _ => by rw [upd_eq]; exact hr.lower (lw hB.2), (kV f4)⟩)
     clear hb0 hb1 hk0 fT f3 f4 hK HALL
     simpa [upd, d2] using key
    ·
     have d0 := fT 0 _ (haft ⟨0, .data⟩ (by simp) rfl) (by rw [hTN]; rfl)
     have d3 := f3 (haft ⟨3, .data⟩ (by simp) rfl)
     have K1 := hk0
     have HALL := yk (ya hK (ya hB (ya hb0 ( ya hb1 ( ya hk0 ( ya fT ( ya f3 ( ya f4 (True.intro)))))))))
     clear hK hb0 hb1 hk0 fT f3 f4
     go_simp
     go_at_call 8
     have QS := same_ok K1.c d3.c OT.out
     rw [HXX.out _ HXE.out] at QS
     refine QS.mono ?_
     rintro en w4 ⟨rfl, hb⟩
     obtain ⟨hK, hB, hb0, hb1, hk0, fT, f3, f4, _⟩ := HALL.out
     have key := hK.out (.bool q) w4 (by rw [hGN]; exact ⟨hB.next hb, yb hb0 hb, yb hb1 hb, hk0.below hb, tabs_step fT (fun c h => by rw [hTN] at h; cases h), (fun h => by rw [upd_ne v _ (by decide)]; exact (f3 (yx h)).below hb), yu⟩)
     clear hb0 hb1 hk0 fT f3 f4 hK HALL
     simpa [upd, d0] using key
   case hendN =>
    intro v W L0 hall hGv
    rw [hGN] at hGv
    obtain ⟨hB, hb0, hb1, hk0, fT, f3, f4⟩ := hGv
    have d4 := f4 (hall 4 (by decide))
    replace BEL := yk hB
    replace X0 := yk hb0
    replace XR := yk hb1
    replace P1 := yk hk0
    clear hall hB fT f3 f4 hb0 hb1 hk0 hTN hGN TN GN
    simp only [setAll, List.setIfInBounds_toArray, List.set_cons_zero, List.set_cons_succ, Nat.reduceAdd, d4]
    clear d4
    cases q
    case false =>
     have HOO : Aside0 (O = none) := ⟨by rw [HO.out, if_neg (of_decide_eq_false HQ.out)]⟩
     go_wp2_with (((with_reducible refine gate_store (p := 4) rfl ?_); go_must (refine sdy 4 (.tmp 32) rfl rfl rfl rfl rfl XR.out rfl ?_; intro wb HX HG)); replace P1 := yk (P1.out.grown_box XR.out (by decide) HG.out); replace BEL := yk (BEL.out.grown HG.out (by omega)); replace X0 := yk (blk_grown X0.out HG.out (by omega)); replace XR := HX; clear HG)
     rw [HOO.out]
     refine bodyPost_ret (results_list (rs := [.cell 4 27, .tmp 5]) rfl (by simp) (Vals.box any_dyad info_dyad (g := w.heap.size + 1) rfl XR.out rfl (.tmp .nil))) rfl ?_
     exact ⟨_, rfl, RDy.zero _ _ _, BEL.out.1⟩
    case true =>
     have HOO : Aside0 (O = some (x8, 0)) := ⟨by rw [HO.out, if_pos (of_decide_eq_true HQ.out), HXE.out]⟩
     obtain ⟨q0, q0', q1, q1', q2, q2'⟩ := bc3 X0.out
     go_wp2_with fail
     clear q0 q0' q1 q1' q2 q2'
     go_at_call 21
     refine (dint_any x8 _ (by have := CX.out; rw [← HXE.out] at this; omega) (by have := CX.out; rw [← HXE.out] at this; omega)).mono ?_
     rintro en9 w9 ⟨v9, rfl, hr, hb⟩
     replace BEL := yk (BEL.out.next hb)
     replace X0 := yk (yb X0.out hb)
     replace XR := yk (yb XR.out hb)
     replace P1 := yk (P1.out.below hb)
     have P2 := yk hr
     obtain ⟨b9, A9, n9, c9, x9, rfl⟩ := hr.ex
     clear hr hb
     go_wp2_with fail
     have BLK := BEL
     go_at_call 79
     refine (dtold_nd (P2.out.c.nd (Ok.of 20 (by have := CX.out; rw [← HXE.out] at this; omega) (by decide) (by decide) (by decide)))).mono ?_
     rintro en10 w10 ⟨v10, rfl, hr, hb⟩
     replace BEL := yk (BEL.out.next hb)
     replace X0 := yk (yb X0.out hb)
     replace XR := yk (yb XR.out hb)
     replace P1 := yk (P1.out.below hb)
     replace P2 := yk (P2.out.below hb)
     have P3 := yk hr
     obtain ⟨b10, A10, n10, c10, x10, rfl⟩ := hr.ex
     clear hr hb
     go_wp2_with (((with_reducible refine gate_store (p := 4) rfl ?_); go_must (refine sdy 4 (.tmp 30) rfl rfl rfl rfl rfl XR.out rfl ?_; intro wb HX HG)); replace P1 := yk (P1.out.grown_box XR.out (by decide) HG.out); replace P2 := yk (P2.out.grown_box XR.out (by decide) HG.out); replace P3 := yk (P3.out.grown_box XR.out (by decide) HG.out); replace BEL := yk (BEL.out.grown HG.out (by omega)); replace X0 := yk (blk_grown X0.out HG.out (by omega)); replace XR := HX; clear HG)
     rw [HOO.out]
     refine bodyPost_ret (results_list (rs := [.cell 4 27, .tmp 5]) rfl (by simp) (Vals.box any_dyad info_dyad (g := w.heap.size + 1) rfl XR.out rfl (.tmp .nil))) rfl ?_
     exact ⟨_, rfl, P3.out.lower BLK.out.1.size, BEL.out.1⟩)
 case neg =>
  replace HHIT := yk (HHIT.out h8)
  replace HEND := yk (HEND.out h8)
  have e8 : ((f : Int) == 8) = false := by simp; omega
  have e11 : ((f : Int) == 11) = false := by simp; omega
  clear h8 HB HC HA HXX
  go_wp2_with (((with_reducible refine gate_store (p := 3) rfl ?_); go_must (refine sdy 3 (.tmp 14) rfl rfl rfl rfl rfl X0.out rfl ?_; intro wb HX HG)); replace P1 := yk (P1.out.grown_box X0.out (by decide) HG.out); replace BEL := yk (BEL.out.grown HG.out (by omega)); replace XR := yk (blk_grown XR.out HG.out (by omega)); replace X0 := HX; clear HG)
  go_loopw [7] (fun v7 wr => ∃ i : Nat, v7 = .int .i64 i ∧ i ≤ most + 1 ∧ Aside0 (BelN w 2 wr) ∧ Aside0 (wr.heap[w.heap.size + 1]? = some (.cells #[.bool false, .slice none 0 0, .int .i64 0] 27 (0, 0))) ∧ Aside0 (wr.heap[w.heap.size]? = some (.cells #[.bool b8, .slice A8 n8 c8, .int .i64 x8] 27 (0, 0))) ∧ Aside0 (RDy wr w.heap.size (.agg #[.bool b8, .slice A8 n8 c8, .int .i64 x8]) t (-1074)) ∧ Aside0 (∀ j, j < i → (j = 0 ∨ (f = 9 ∨ f = 12)) → ¬ t = tenI j * M)) (fun v7 _ => most + 1 - (intOf v7).toNat)
  case atStart => exact ⟨0, rfl, Nat.zero_le _, BEL, XR, X0, P1, ⟨fun j hj => absurd hj (Nat.not_lt_zero _)⟩⟩
  case round =>
   clear BEL XR X0 P1
   obtain ⟨i, rfl, hik, BEL, XR, X0, P1, HNO⟩ := hrel
   by_cases hlt : i < most + 1
   · have hld : decide ((i : Int) ≤ mI) = true := decide_eq_true (by have := HMI.out; omega)
     have HI := yk hlt
     have HI23 := yk (show i ≤ 23 by have := HMO.out; omega)
     obtain ⟨eq, heq⟩ : ∃ q, decide (t = tenI i * M) = q := ⟨_, rfl⟩
     have HEQ : Aside0 ((sgnI (t - tenI i * M) == 0) = eq) := ⟨(sgn_eq0 _).trans ((decide_eq_decide.2 (by omega)).trans heq)⟩
     have HE2 := yk heq
     clear heq
     have hwi : wrap64 ((i : Int) + 1) = (i : Int) + 1 := by have := HI23.out; unfold wrap64; omega
     have hcs : i = 0 ∨ (i ≠ 0 ∧ f = 9) ∨ (i ≠ 0 ∧ f ≠ 9 ∧ f = 12) ∨ (i ≠ 0 ∧ f ≠ 9 ∧ f ≠ 12) := by omega
     clear hlt hik
     rcases hcs with hi0 | ⟨hi0, h9⟩ | ⟨hi0, h9, h12⟩ | ⟨hi0, h9, h12⟩
     · have HAA : Aside0 (((i : Int) == 0) = true) := ⟨by simp; omega⟩
       have HAK : Aside0 ((i = 0 ∨ (f = 9 ∨ f = 12))) := ⟨by omega⟩
       clear hi0
       go_upto_region 13 with fail
       obtain ⟨TA, hTA⟩ : ∃ T : List (Option Value), T = [some (.int .i64 (i : Int)), some (.bool true), some (.bool true), none, none, some (.bool true), some (.bool true), none, none, some (.bool true), some (.bool true), some (.agg #[.bool b8, .slice A8 n8 c8, .int .i64 x8]), some (.int .i64 (i : Int)), none, none, some (.bool eq), some (.bool eq)] := ⟨_, rfl⟩
       obtain ⟨GA, hGA⟩ : ∃ G : (Nat → Prop) → (Nat → Value) → World → Prop, G = fun L v W => BelN w 2 W ∧ W.heap[w.heap.size]? = some (.cells #[.bool b8, .slice A8 n8 c8, .int .i64 x8] 27 (0, 0)) ∧ W.heap[w.heap.size + 1]? = some (.cells #[.bool false, .slice none 0 0, .int .i64 0] 27 (0, 0)) ∧ RDy W w.heap.size (.agg #[.bool b8, .slice A8 n8 c8, .int .i64 x8]) t (-1074) ∧ (∀ j c, L j → TA[j]? = some (some c) → v j = c) ∧ (L 13 → NDy W (v 13) (tenI i * M) (-1074)) ∧ (L 14 → (v 14) = .int .i64 (sgnI (t - tenI i * M))) := ⟨_, rfl⟩
       refine wp_region_slotsV [38, 39, 40, 41, 42, 43, 44, 45, 46, 47, 48, 49, 50, 51, 52, 53, 54] (by kernel_rfl) (by kernel_rfl) (G := GA) ?h0A ?hstepA ?hendA
       case h0A =>
        intro v; rw [hGA]
        exact ⟨BEL.out.next (below_drew yr), blk_drew X0.out, blk_drew XR.out, P1.out.below (below_drew yr), fun _ _ h => h.elim, fun h => h.elim, fun h => h.elim⟩
       case hstepA =>
        intro k o ho v W L hGv hnk haft hcl K hK
        rw [hGA] at hGv
        obtain ⟨hB, hb0, hb1, hk0, fT, f13, f14⟩ := hGv
        rcases k with _ | _ | _ | _ | _ | _ | _ | _ | _ | _ | _ | _ | _ | _ | _ | _ | _ | k
        all_goals first
         | (cases ho; done)
         | (obtain rfl := (Option.some.inj ho).symm
            clear ho
            simp only [setAll, List.setIfInBounds_toArray, List.set_cons_zero, List.set_cons_succ, List.set_nil, List.getElem_toArray, List.getElem_cons_zero, List.getElem_cons_succ, Nat.reduceAdd] at haft hK ⊢)
        ·
         rw [if_pos (by rfl)]
         have hb := yw W
         have key := hK.out (.int .i64 (i : Int)) W (by rw [hGA]; exact ⟨hB.next hb, yb hb0 hb, yb hb1 hb, hk0.below hb, tabs_step fT (fun c h => by rw [hTA] at h; exact yo h), (fun h => by rw [upd_ne v _ (by decide)]; exact (f13 (yx h)).below hb), (kV f14)⟩)
         clear hb0 hb1 hk0 fT f13 f14 hK hb
         go_simp
         simpa [upd] using key
        ·
         have d0 := fT 0 _ (haft ⟨0, .data⟩ (by simp) rfl) (by rw [hTA]; rfl)
         rw [if_pos (by rfl)]
         have ha := HAA.out
         have hb := yw W
         have key := hK.out (.bool true) W (by rw [hGA]; exact ⟨hB.next hb, yb hb0 hb, yb hb1 hb, hk0.below hb, tabs_step fT (fun c h => by rw [hTA] at h; exact yo h), (fun h => by rw [upd_ne v _ (by decide)]; exact (f13 (yx h)).below hb), (kV f14)⟩)
         clear hb0 hb1 hk0 fT f13 f14 hK hb
         go_simp
         simpa [upd, d0] using key
        ·
         have d1 := fT 1 _ (haft ⟨1, .data⟩ (by simp) rfl) (by rw [hTA]; rfl)
         rw [if_pos (by rfl)]
         have hb := yw W
         have key := hK.out (.bool true) W (by rw [hGA]; exact ⟨hB.next hb, yb hb0 hb, yb hb1 hb, hk0.below hb, tabs_step fT (fun c h => by rw [hTA] at h; exact yo h), (fun h => by rw [upd_ne v _ (by decide)]; exact (f13 (yx h)).below hb), (kV f14)⟩)
         clear hb0 hb1 hk0 fT f13 f14 hK hb
         go_simp
         simpa [upd, d1] using key
        ·
         have dg := fT 2 _ (haft ⟨2, .guard⟩ (by simp) rfl) (by rw [hTA]; rfl)
         rw [if_neg (by simp [Region.wanted, yielded, dg])]
         have hb := yw W
         have key := hK.out undef W (by rw [hGA]; exact ⟨hB.next hb, yb hb0 hb, yb hb1 hb, hk0.below hb, tabs_step fT (fun c h => by rw [hTA] at h; cases h), (fun h => by rw [upd_ne v _ (by decide)]; exact (f13 (yx h)).below hb), (kV f14)⟩)
         clear hb0 hb1 hk0 fT f13 f14 hK hb
         simpa [upd, Act.put, dg] using key
        ·
         have dg := fT 2 _ (haft ⟨2, .guard⟩ (by simp) rfl) (by rw [hTA]; rfl)
         rw [if_neg (by simp [Region.wanted, yielded, dg])]
         have hb := yw W
         have key := hK.out undef W (by rw [hGA]; exact ⟨hB.next hb, yb hb0 hb, yb hb1 hb, hk0.below hb, tabs_step fT (fun c h => by rw [hTA] at h; cases h), (fun h => by rw [upd_ne v _ (by decide)]; exact (f13 (yx h)).below hb), (kV f14)⟩)
         clear hb0 hb1 hk0 fT f13 f14 hK hb
         simpa [upd, Act.put, dg] using key
        ·
         have d2 := fT 2 _ (haft ⟨2, .data⟩ (by simp) rfl) (by rw [hTA]; rfl)
         rw [if_pos (by rfl)]
         have hb := yw W
         have key := hK.out (.bool true) W (by rw [hGA]; exact ⟨hB.next hb, yb hb0 hb, yb hb1 hb, hk0.below hb, tabs_step fT (fun c h => by rw [hTA] at h; exact yo h), (fun h => by rw [upd_ne v _ (by decide)]; exact (f13 (yx h)).below hb), (kV f14)⟩)
         clear hb0 hb1 hk0 fT f13 f14 hK hb
         go_simp
         simpa [upd, d2] using key
        ·
         have d5 := fT 5 _ (haft ⟨5, .data⟩ (by simp) rfl) (by rw [hTA]; rfl)
         rw [if_pos (by rfl)]
         have hb := yw W
         have key := hK.out (.bool true) W (by rw [hGA]; exact ⟨hB.next hb, yb hb0 hb, yb hb1 hb, hk0.below hb, tabs_step fT (fun c h => by rw [hTA] at h; exact yo h), (fun h => by rw [upd_ne v _ (by decide)]; exact (f13 (yx h)).below hb), (kV f14)⟩)
         clear hb0 hb1 hk0 fT f13 f14 hK hb
         go_simp
         simpa [upd, d5] using key
        ·
         have dg := fT 6 _ (haft ⟨6, .guard⟩ (by simp) rfl) (by rw [hTA]; rfl)
         rw [if_neg (by simp [Region.wanted, yielded, dg])]
         have hb := yw W
         have key := hK.out undef W (by rw [hGA]; exact ⟨hB.next hb, yb hb0 hb, yb hb1 hb, hk0.below hb, tabs_step fT (fun c h => by rw [hTA] at h; cases h), (fun h => by rw [upd_ne v _ (by decide)]; exact (f13 (yx h)).below hb), (kV f14)⟩)
         clear hb0 hb1 hk0 fT f13 f14 hK hb
         simpa [upd, Act.put, dg] using key
        ·
         have dg := fT 6 _ (haft ⟨6, .guard⟩ (by simp) rfl) (by rw [hTA]; rfl)
         rw [if_neg (by simp [Region.wanted, yielded, dg])]
         have hb := yw W
         have key := hK.out undef W (by rw [hGA]; exact ⟨hB.next hb, yb hb0 hb, yb hb1 hb, hk0.below hb, tabs_step fT (fun c h => by rw [hTA] at h; cases h), (fun h => by rw [upd_ne v _ (by decide)]; exact (f13 (yx h)).below hb), (kV f14)⟩)
         clear hb0 hb1 hk0 fT f13 f14 hK hb
         simpa [upd, Act.put, dg] using key
        ·
         have d6 := fT 6 _ (haft ⟨6, .data⟩ (by simp) rfl) (by rw [hTA]; rfl)
         rw [if_pos (by rfl)]
         have hb := yw W
         have key := hK.out (.bool true) W (by rw [hGA]; exact ⟨hB.next hb, yb hb0 hb, yb hb1 hb, hk0.below hb, tabs_step fT (fun c h => by rw [hTA] at h; exact yo h), (fun h => by rw [upd_ne v _ (by decide)]; exact (f13 (yx h)).below hb), (kV f14)⟩)
         clear hb0 hb1 hk0 fT f13 f14 hK hb
         go_simp
         simpa [upd, d6] using key
        ·
         have d9 := fT 9 _ (haft ⟨9, .data⟩ (by simp) rfl) (by rw [hTA]; rfl)
         rw [if_pos (by rfl)]
         have hb := yw W
         have key := hK.out (.bool true) W (by rw [hGA]; exact ⟨hB.next hb, yb hb0 hb, yb hb1 hb, hk0.below hb, tabs_step fT (fun c h => by rw [hTA] at h; exact yo h), (fun h => by rw [upd_ne v _ (by decide)]; exact (f13 (yx h)).below hb), (kV f14)⟩)
         clear hb0 hb1 hk0 fT f13 f14 hK hb
         go_simp
         simpa [upd, d9] using key
        ·
         have dg := fT 10 _ (haft ⟨10, .guard⟩ (by simp) rfl) (by rw [hTA]; rfl)
         rw [if_pos (by simp [Region.wanted, yielded, dg])]
         have cc0 := (box_cell (v := .bool b8) hb0 0 rfl).1
         have cc1 := (box_cell (v := .slice A8 n8 c8) hb0 1 rfl).1
         have cc2 := (box_cell (v := .int .i64 x8) hb0 2 rfl).1
         have hb := yw W
         have key := hK.out (.agg #[.bool b8, .slice A8 n8 c8, .int .i64 x8]) W (by rw [hGA]; exact ⟨hB.next hb, yb hb0 hb, yb hb1 hb, hk0.below hb, tabs_step fT (fun c h => by rw [hTA] at h; exact yo h), (fun h => by rw [upd_ne v _ (by decide)]; exact (f13 (yx h)).below hb), (kV f14)⟩)
         clear hb0 hb1 hk0 fT f13 f14 hK hb
         go_simp
         simpa [upd, dg] using key
        ·
         have dg := fT 10 _ (haft ⟨10, .guard⟩ (by simp) rfl) (by rw [hTA]; rfl)
         rw [if_pos (by simp [Region.wanted, yielded, dg])]
         have hb := yw W
         have key := hK.out (.int .i64 (i : Int)) W (by rw [hGA]; exact ⟨hB.next hb, yb hb0 hb, yb hb1 hb, hk0.below hb, tabs_step fT (fun c h => by rw [hTA] at h; exact yo h), (fun h => by rw [upd_ne v _ (by decide)]; exact (f13 (yx h)).below hb), (kV f14)⟩)
         clear hb0 hb1 hk0 fT f13 f14 hK hb
         go_simp
         simpa [upd, dg] using key
        ·
         have d12 := fT 12 _ (haft ⟨12, .data⟩ (by simp) rfl) (by rw [hTA]; rfl)
         have dg := fT 10 _ (haft ⟨10, .guard⟩ (by simp) rfl) (by rw [hTA]; rfl)
         rw [if_pos (by simp [Region.wanted, yielded, dg])]
         have HALL := yk (ya hK (ya hB (ya hb0 ( ya hb1 ( ya hk0 ( ya fT ( ya f13 ( ya f14 (True.intro)))))))))
         clear hK hb0 hb1 hk0 fT f13 f14
         go_simp
         go_at_call 83
         refine (dten_any i (by have := HI23.out; omega) _).mono ?_
         rintro en w4 ⟨v1, rfl, hr, hb⟩
         obtain ⟨hK, hB, hb0, hb1, hk0, fT, f13, f14, _⟩ := HALL.out
         have key := hK.out (v1) w4 (by rw [hGA]; exact ⟨hB.next hb, yb hb0 hb, yb hb1 hb, hk0.below hb, tabs_step fT (fun c h => by rw [hTA] at h; cases h), fun _ => by rw [upd_eq]; exact HP.out i HI23.out _ _ _ hr, (kV f14)⟩)
         clear hb0 hb1 hk0 fT f13 f14 hK HALL
         simpa [upd, d12, dg] using key
        ·
         have d11 := fT 11 _ (haft ⟨11, .data⟩ (by simp) rfl) (by rw [hTA]; rfl)
         have d13 := f13 (haft ⟨13, .data⟩ (by simp) rfl)
         have dg := fT 10 _ (haft ⟨10, .guard⟩ (by simp) rfl) (by rw [hTA]; rfl)
         rw [if_pos (by simp [Region.wanted, yielded, dg])]
         have K1 := hk0
         have HALL := yk (ya hK (ya hB (ya hb0 ( ya hb1 ( ya hk0 ( ya fT ( ya f13 ( ya f14 (True.intro)))))))))
         clear hK hb0 hb1 hk0 fT f13 f14
         go_simp
         go_at_call 55
         refine (order_nd (K1.c.nd OT.out) d13 OT.out (OTN.out i (by have := HI23.out; omega))).mono ?_
         rintro en w4 ⟨rfl, hb⟩
         obtain ⟨hK, hB, hb0, hb1, hk0, fT, f13, f14, _⟩ := HALL.out
         have key := hK.out (.int .i64 (sgnI (t - tenI i * M))) w4 (by rw [hGA]; exact ⟨hB.next hb, yb hb0 hb, yb hb1 hb, hk0.below hb, tabs_step fT (fun c h => by rw [hTA] at h; cases h), (fun h => by rw [upd_ne v _ (by decide)]; exact (f13 (yx h)).below hb), yu⟩)
         clear hb0 hb1 hk0 fT f13 f14 hK HALL
         simpa [upd, d11, dg] using key
        ·
         have d14 := f14 (haft ⟨14, .data⟩ (by simp) rfl)
         have dg := fT 10 _ (haft ⟨10, .guard⟩ (by simp) rfl) (by rw [hTA]; rfl)
         rw [if_pos (by simp [Region.wanted, yielded, dg])]
         have he := HEQ.out
         have hb := yw W
         have key := hK.out (.bool eq) W (by rw [hGA]; exact ⟨hB.next hb, yb hb0 hb, yb hb1 hb, hk0.below hb, tabs_step fT (fun c h => by rw [hTA] at h; exact yo h), (fun h => by rw [upd_ne v _ (by decide)]; exact (f13 (yx h)).below hb), (kV f14)⟩)
         clear hb0 hb1 hk0 fT f13 f14 hK hb
         go_simp
         simpa [upd, dg, d14] using key
        ·
         have d10 := fT 10 _ (haft ⟨10, .data⟩ (by simp) rfl) (by rw [hTA]; rfl)
         have d15 := fT 15 _ (haft ⟨15, .data⟩ (by simp) rfl) (by rw [hTA]; rfl)
         rw [if_pos (by rfl)]
         have hb := yw W
         have key := hK.out (.bool eq) W (by rw [hGA]; exact ⟨hB.next hb, yb hb0 hb, yb hb1 hb, hk0.below hb, tabs_step fT (fun c h => by rw [hTA] at h; exact yo h), (fun h => by rw [upd_ne v _ (by decide)]; exact (f13 (yx h)).below hb), (kV f14)⟩)
         clear hb0 hb1 hk0 fT f13 f14 hK hb
         go_simp
         simpa [upd, d10, d15] using key
       case hendA =>
        intro v W L0 hall hGv
        rw [hGA] at hGv
        obtain ⟨hB, hb0, hb1, hk0, fT, f13, f14⟩ := hGv
        have d16 := fT 16 _ (hall 16 (by decide)) (by rw [hTA]; rfl)
        replace BEL := yk hB
        replace X0 := yk hb0
        replace XR := yk hb1
        replace P1 := yk hk0
        clear hall hB hb0 hb1 hk0 fT f13 f14 hGA GA hTA TA
        simp only [setAll, List.setIfInBounds_toArray, List.set_cons_zero, List.set_cons_succ, Nat.reduceAdd, d16]
        clear d16
        cases eq
        case false =>
         go_wp2
         go_roundw
         case rel => exact ⟨i + 1, by go_num, HI.out, BEL, XR, X0, P1, ⟨fun j hj hj0 => by rcases Nat.lt_succ_iff_lt_or_eq.1 hj with h1 | rfl; exact HNO.out j h1 hj0; exact of_decide_eq_false HE2.out⟩⟩
         case measure => rw [hwi]; exact meas_int HI.out
        case true =>
         have HOO := yk (HHIT.out i HI.out HAK.out HNO.out (of_decide_eq_true HE2.out))
         go_wp2_with fail
         go_at_call 21
         refine (dint_any i _ (by omega) (by have := HI23.out; omega)).mono ?_
         rintro en9 w9 ⟨v9, rfl, hr, hb⟩
         replace BEL := yk (BEL.out.next hb)
         replace X0 := yk (yb X0.out hb)
         replace XR := yk (yb XR.out hb)
         have P2 := yk hr
         obtain ⟨b9, A9, n9, c9, x9, rfl⟩ := hr.ex
         clear hr hb
         go_wp2_with fail
         have BLK := BEL
         go_at_call 79
         refine (dtold_nd (P2.out.c.nd (Ok.of 20 (by have := HI23.out; omega) (by decide) (by decide) (by decide)))).mono ?_
         rintro en10 w10 ⟨v10, rfl, hr, hb⟩
         replace BEL := yk (BEL.out.next hb)
         replace X0 := yk (yb X0.out hb)
         replace XR := yk (yb XR.out hb)
         replace P2 := yk (P2.out.below hb)
         have P3 := yk hr
         obtain ⟨b10, A10, n10, c10, x10, rfl⟩ := hr.ex
         clear hr hb
         go_wp2_with (((with_reducible refine gate_store (p := 4) rfl ?_); go_must (refine sdy 4 (.tmp 58) rfl rfl rfl rfl rfl XR.out rfl ?_; intro wb HX HG)); replace P2 := yk (P2.out.grown_box XR.out (by decide) HG.out); replace P3 := yk (P3.out.grown_box XR.out (by decide) HG.out); replace BEL := yk (BEL.out.grown HG.out (by omega)); replace X0 := yk (blk_grown X0.out HG.out (by omega)); replace XR := HX; clear HG)
         rw [HOO.out]
         refine bodyPost_ret (results_list (rs := [.cell 4 27, .tmp 5]) rfl (by simp) (Vals.box any_dyad info_dyad (g := w.heap.size + 1) rfl XR.out rfl (.tmp .nil))) rfl ?_
         exact ⟨_, rfl, P3.out.lower BLK.out.1.size, BEL.out.1⟩
     · have HAA : Aside0 (((i : Int) == 0) = false) := ⟨by simp; omega⟩
       have HB9 : Aside0 (((f : Int) == 9) = true) := ⟨by simp; omega⟩
       have HAK : Aside0 ((i = 0 ∨ (f = 9 ∨ f = 12))) := ⟨by omega⟩
       clear hi0 h9
       go_upto_region 13 with fail
       obtain ⟨TB, hTB⟩ : ∃ T : List (Option Value), T = [some (.int .i64 (i : Int)), some (.bool false), some (.bool false), some (.int .u8 (f : Int)), some (.bool true), some (.bool true), some (.bool true), none, none, some (.bool true), some (.bool true), some (.agg #[.bool b8, .slice A8 n8 c8, .int .i64 x8]), some (.int .i64 (i : Int)), none, none, some (.bool eq), some (.bool eq)] := ⟨_, rfl⟩
       obtain ⟨GB, hGB⟩ : ∃ G : (Nat → Prop) → (Nat → Value) → World → Prop, G = fun L v W => BelN w 2 W ∧ W.heap[w.heap.size]? = some (.cells #[.bool b8, .slice A8 n8 c8, .int .i64 x8] 27 (0, 0)) ∧ W.heap[w.heap.size + 1]? = some (.cells #[.bool false, .slice none 0 0, .int .i64 0] 27 (0, 0)) ∧ RDy W w.heap.size (.agg #[.bool b8, .slice A8 n8 c8, .int .i64 x8]) t (-1074) ∧ (∀ j c, L j → TB[j]? = some (some c) → v j = c) ∧ (L 13 → NDy W (v 13) (tenI i * M) (-1074)) ∧ (L 14 → (v 14) = .int .i64 (sgnI (t - tenI i * M))) := ⟨_, rfl⟩
       refine wp_region_slotsV [38, 39, 40, 41, 42, 43, 44, 45, 46, 47, 48, 49, 50, 51, 52, 53, 54] (by kernel_rfl) (by kernel_rfl) (G := GB) ?h0B ?hstepB ?hendB
       case h0B =>
        intro v; rw [hGB]
        exact ⟨BEL.out.next (below_drew yr), blk_drew X0.out, blk_drew XR.out, P1.out.below (below_drew yr), fun _ _ h => h.elim, fun h => h.elim, fun h => h.elim⟩
       case hstepB =>
        intro k o ho v W L hGv hnk haft hcl K hK
        rw [hGB] at hGv
        obtain ⟨hB, hb0, hb1, hk0, fT, f13, f14⟩ := hGv
        rcases k with _ | _ | _ | _ | _ | _ | _ | _ | _ | _ | _ | _ | _ | _ | _ | _ | _ | k
        all_goals first
         | (cases ho; done)
         | (obtain rfl := (Option.some.inj ho).symm
            clear ho
            simp only [setAll, List.setIfInBounds_toArray, List.set_cons_zero, List.set_cons_succ, List.set_nil, List.getElem_toArray, List.getElem_cons_zero, List.getElem_cons_succ, Nat.reduceAdd] at haft hK ⊢)
        ·
         rw [if_pos (by rfl)]
         have hb := yw W
         have key := hK.out (.int .i64 (i : Int)) W (by rw [hGB]; exact ⟨hB.next hb, yb hb0 hb, yb hb1 hb, hk0.below hb, tabs_step fT (fun c h => by rw [hTB] at h; exact yo h), (fun h => by rw [upd_ne v _ (by decide)]; exact (f13 (yx h)).below hb), (kV f14)⟩)
         clear hb0 hb1 hk0 fT f13 f14 hK hb
         go_simp
         simpa [upd] using key
        ·
         have d0 := fT 0 _ (haft ⟨0, .data⟩ (by simp) rfl) (by rw [hTB]; rfl)
         rw [if_pos (by rfl)]
         have ha := HAA.out
         have hb := yw W
         have key := hK.out (.bool false) W (by rw [hGB]; exact ⟨hB.next hb, yb hb0 hb, yb hb1 hb, hk0.below hb, tabs_step fT (fun c h => by rw [hTB] at h; exact yo h), (fun h => by rw [upd_ne v _ (by decide)]; exact (f13 (yx h)).below hb), (kV f14)⟩)
         clear hb0 hb1 hk0 fT f13 f14 hK hb
         go_simp
         simpa [upd, d0] using key
        ·
         have d1 := fT 1 _ (haft ⟨1, .data⟩ (by simp) rfl) (by rw [hTB]; rfl)
         rw [if_pos (by rfl)]
         have hb := yw W
         have key := hK.out (.bool false) W (by rw [hGB]; exact ⟨hB.next hb, yb hb0 hb, yb hb1 hb, hk0.below hb, tabs_step fT (fun c h => by rw [hTB] at h; exact yo h), (fun h => by rw [upd_ne v _ (by decide)]; exact (f13 (yx h)).below hb), (kV f14)⟩)
         clear hb0 hb1 hk0 fT f13 f14 hK hb
         go_simp
         simpa [upd, d1] using key
        ·
         have dg := fT 2 _ (haft ⟨2, .guard⟩ (by simp) rfl) (by rw [hTB]; rfl)
         rw [if_pos (by simp [Region.wanted, yielded, dg])]
         have hb := yw W
         have key := hK.out (.int .u8 (f : Int)) W (by rw [hGB]; exact ⟨hB.next hb, yb hb0 hb, yb hb1 hb, hk0.below hb, tabs_step fT (fun c h => by rw [hTB] at h; exact yo h), (fun h => by rw [upd_ne v _ (by decide)]; exact (f13 (yx h)).below hb), (kV f14)⟩)
         clear hb0 hb1 hk0 fT f13 f14 hK hb
         go_simp
         simpa [upd, dg] using key
        ·
         have d3 := fT 3 _ (haft ⟨3, .data⟩ (by simp) rfl) (by rw [hTB]; rfl)
         have dg := fT 2 _ (haft ⟨2, .guard⟩ (by simp) rfl) (by rw [hTB]; rfl)
         rw [if_pos (by simp [Region.wanted, yielded, dg])]
         have ha := HB9.out
         have hb := yw W
         have key := hK.out (.bool true) W (by rw [hGB]; exact ⟨hB.next hb, yb hb0 hb, yb hb1 hb, hk0.below hb, tabs_step fT (fun c h => by rw [hTB] at h; exact yo h), (fun h => by rw [upd_ne v _ (by decide)]; exact (f13 (yx h)).below hb), (kV f14)⟩)
         clear hb0 hb1 hk0 fT f13 f14 hK hb
         go_simp
         simpa [upd, d3, dg] using key
        ·
         have d2 := fT 2 _ (haft ⟨2, .data⟩ (by simp) rfl) (by rw [hTB]; rfl)
         have d4 := fT 4 _ (haft ⟨4, .data⟩ (by simp) rfl) (by rw [hTB]; rfl)
         rw [if_pos (by rfl)]
         have hb := yw W
         have key := hK.out (.bool true) W (by rw [hGB]; exact ⟨hB.next hb, yb hb0 hb, yb hb1 hb, hk0.below hb, tabs_step fT (fun c h => by rw [hTB] at h; exact yo h), (fun h => by rw [upd_ne v _ (by decide)]; exact (f13 (yx h)).below hb), (kV f14)⟩)
         clear hb0 hb1 hk0 fT f13 f14 hK hb
         go_simp
         simpa [upd, d2, d4] using key
        ·
         have d5 := fT 5 _ (haft ⟨5, .data⟩ (by simp) rfl) (by rw [hTB]; rfl)
         rw [if_pos (by rfl)]
         have hb := yw W
         have key := hK.out (.bool true) W (by rw [hGB]; exact ⟨hB.next hb, yb hb0 hb, yb hb1 hb, hk0.below hb, tabs_step fT (fun c h => by rw [hTB] at h; exact yo h), (fun h => by rw [upd_ne v _ (by decide)]; exact (f13 (yx h)).below hb), (kV f14)⟩)
         clear hb0 hb1 hk0 fT f13 f14 hK hb
         go_simp
         simpa [upd, d5] using key
        ·
         have dg := fT 6 _ (haft ⟨6, .guard⟩ (by simp) rfl) (by rw [hTB]; rfl)
         rw [if_neg (by simp [Region.wanted, yielded, dg])]
         have hb := yw W
         have key := hK.out undef W (by rw [hGB]; exact ⟨hB.next hb, yb hb0 hb, yb hb1 hb, hk0.below hb, tabs_step fT (fun c h => by rw [hTB] at h; cases h), (fun h => by rw [upd_ne v _ (by decide)]; exact (f13 (yx h)).below hb), (kV f14)⟩)
         clear hb0 hb1 hk0 fT f13 f14 hK hb
         simpa [upd, Act.put, dg] using key
        ·
         have dg := fT 6 _ (haft ⟨6, .guard⟩ (by simp) rfl) (by rw [hTB]; rfl)
         rw [if_neg (by simp [Region.wanted, yielded, dg])]
         have hb := yw W
         have key := hK.out undef W (by rw [hGB]; exact ⟨hB.next hb, yb hb0 hb, yb hb1 hb, hk0.below hb, tabs_step fT (fun c h => by rw [hTB] at h; cases h), (fun h => by rw [upd_ne v _ (by decide)]; exact (f13 (yx h)).below hb), (kV f14)⟩)
         clear hb0 hb1 hk0 fT f13 f14 hK hb
         simpa [upd, Act.put, dg] using key
        ·
         have d6 := fT 6 _ (haft ⟨6, .data⟩ (by simp) rfl) (by rw [hTB]; rfl)
         rw [if_pos (by rfl)]
         have hb := yw W
         have key := hK.out (.bool true) W (by rw [hGB]; exact ⟨hB.next hb, yb hb0 hb, yb hb1 hb, hk0.below hb, tabs_step fT (fun c h => by rw [hTB] at h; exact yo h), (fun h => by rw [upd_ne v _ (by decide)]; exact (f13 (yx h)).below hb), (kV f14)⟩)
         clear hb0 hb1 hk0 fT f13 f14 hK hb
         go_simp
         simpa [upd, d6] using key
        ·
         have d9 := fT 9 _ (haft ⟨9, .data⟩ (by simp) rfl) (by rw [hTB]; rfl)
         rw [if_pos (by rfl)]
         have hb := yw W
         have key := hK.out (.bool true) W (by rw [hGB]; exact ⟨hB.next hb, yb hb0 hb, yb hb1 hb, hk0.below hb, tabs_step fT (fun c h => by rw [hTB] at h; exact yo h), (fun h => by rw [upd_ne v _ (by decide)]; exact (f13 (yx h)).below hb), (kV f14)⟩)
         clear hb0 hb1 hk0 fT f13 f14 hK hb
         go_simp
         simpa [upd, d9] using key
        ·
         have dg := fT 10 _ (haft ⟨10, .guard⟩ (by simp) rfl) (by rw [hTB]; rfl)
         rw [if_pos (by simp [Region.wanted, yielded, dg])]
         have cc0 := (box_cell (v := .bool b8) hb0 0 rfl).1
         have cc1 := (box_cell (v := .slice A8 n8 c8) hb0 1 rfl).1
         have cc2 := (box_cell (v := .int .i64 x8) hb0 2 rfl).1
         have hb := yw W
         have key := hK.out (.agg #[.bool b8, .slice A8 n8 c8, .int .i64 x8]) W (by rw [hGB]; exact ⟨hB.next hb, yb hb0 hb, yb hb1 hb, hk0.below hb, tabs_step fT (fun c h => by rw [hTB] at h; exact yo h), (fun h => by rw [upd_ne v _ (by decide)]; exact (f13 (yx h)).below hb), (kV f14)⟩)
         clear hb0 hb1 hk0 fT f13 f14 hK hb
         go_simp
         simpa [upd, dg] using key
        ·
         have dg := fT 10 _ (haft ⟨10, .guard⟩ (by simp) rfl) (by rw [hTB]; rfl)
         rw [if_pos (by simp [Region.wanted, yielded, dg])]
         have hb := yw W
         have key := hK.out (.int .i64 (i : Int)) W (by rw [hGB]; exact ⟨hB.next hb, yb hb0 hb, yb hb1 hb, hk0.below hb, tabs_step fT (fun c h => by rw [hTB] at h; exact yo h), (fun h => by rw [upd_ne v _ (by decide)]; exact (f13 (yx h)).below hb), (kV f14)⟩)
         clear hb0 hb1 hk0 fT f13 f14 hK hb
         go_simp
         simpa [upd, dg] using key
        ·
         have d12 := fT 12 _ (haft ⟨12, .data⟩ (by simp) rfl) (by rw [hTB]; rfl)
         have dg := fT 10 _ (haft ⟨10, .guard⟩ (by simp) rfl) (by rw [hTB]; rfl)
         rw [if_pos (by simp [Region.wanted, yielded, dg])]
         have HALL := yk (ya hK (ya hB (ya hb0 ( ya hb1 ( ya hk0 ( ya fT ( ya f13 ( ya f14 (True.intro)))))))))
         clear hK hb0 hb1 hk0 fT f13 f14
         go_simp
         go_at_call 83
         refine (dten_any i (by have := HI23.out; omega) _).mono ?_
         rintro en w4 ⟨v1, rfl, hr, hb⟩
         obtain ⟨hK, hB, hb0, hb1, hk0, fT, f13, f14, _⟩ := HALL.out
         have key := hK.out (v1) w4 (by rw [hGB]; exact ⟨hB.next hb, yb hb0 hb, yb hb1 hb, hk0.below hb, tabs_step fT (fun c h => by rw [hTB] at h; cases h), fun _ => by rw [upd_eq]; exact HP.out i HI23.out _ _ _ hr, (kV f14)⟩)
         clear hb0 hb1 hk0 fT f13 f14 hK HALL
         simpa [upd, d12, dg] using key
        ·
         have d11 := fT 11 _ (haft ⟨11, .data⟩ (by simp) rfl) (by rw [hTB]; rfl)
         have d13 := f13 (haft ⟨13, .data⟩ (by simp) rfl)
         have dg := fT 10 _ (haft ⟨10, .guard⟩ (by simp) rfl) (by rw [hTB]; rfl)
         rw [if_pos (by simp [Region.wanted, yielded, dg])]
         have K1 := hk0
         have HALL := yk (ya hK (ya hB (ya hb0 ( ya hb1 ( ya hk0 ( ya fT ( ya f13 ( ya f14 (True.intro)))))))))
         clear hK hb0 hb1 hk0 fT f13 f14
         go_simp
         go_at_call 55
         refine (order_nd (K1.c.nd OT.out) d13 OT.out (OTN.out i (by have := HI23.out; omega))).mono ?_
         rintro en w4 ⟨rfl, hb⟩
         obtain ⟨hK, hB, hb0, hb1, hk0, fT, f13, f14, _⟩ := HALL.out
         have key := hK.out (.int .i64 (sgnI (t - tenI i * M))) w4 (by rw [hGB]; exact ⟨hB.next hb, yb hb0 hb, yb hb1 hb, hk0.below hb, tabs_step fT (fun c h => by rw [hTB] at h; cases h), (fun h => by rw [upd_ne v _ (by decide)]; exact (f13 (yx h)).below hb), yu⟩)
         clear hb0 hb1 hk0 fT f13 f14 hK HALL
         simpa [upd, d11, dg] using key
        ·
         have d14 := f14 (haft ⟨14, .data⟩ (by simp) rfl)
         have dg := fT 10 _ (haft ⟨10, .guard⟩ (by simp) rfl) (by rw [hTB]; rfl)
         rw [if_pos (by simp [Region.wanted, yielded, dg])]
         have he := HEQ.out
         have hb := yw W
         have key := hK.out (.bool eq) W (by rw [hGB]; exact ⟨hB.next hb, yb hb0 hb, yb hb1 hb, hk0.below hb, tabs_step fT (fun c h => by rw [hTB] at h; exact yo h), (fun h => by rw [upd_ne v _ (by decide)]; exact (f13 (yx h)).below hb), (kV f14)⟩)
         clear hb0 hb1 hk0 fT f13 f14 hK hb
         go_simp
         simpa [upd, dg, d14] using key
        ·
         have d10 := fT 10 _ (haft ⟨10, .data⟩ (by simp) rfl) (by rw [hTB]; rfl)
         have d15 := fT 15 _ (haft ⟨15, .data⟩ (by simp) rfl) (by rw [hTB]; rfl)
         rw [if_pos (by rfl)]
         have hb := yw W
         have key := hK.out (.bool eq) W (by rw [hGB]; exact ⟨hB.next hb, yb hb0 hb, yb hb1 hb, hk0.below hb, tabs_step fT (fun c h => by rw [hTB] at h; exact yo h), (fun h => by rw [upd_ne v _ (by decide)]; exact (f13 (yx h)).below hb), (kV f14)⟩)
         clear hb0 hb1 hk0 fT f13 f14 hK hb
         go_simp
         simpa [upd, d10, d15] using key
       case hendB =>
        intro v W L0 hall hGv
        rw [hGB] at hGv
        obtain ⟨hB, hb0, hb1, hk0, fT, f13, f14⟩ := hGv
        have d16 := fT 16 _ (hall 16 (by decide)) (by rw [hTB]; rfl)
        replace BEL := yk hB
        replace X0 := yk hb0
        replace XR := yk hb1
        replace P1 := yk hk0
        clear hall hB hb0 hb1 hk0 fT f13 f14 hGB GB hTB TB
        simp only [setAll, List.setIfInBounds_toArray, List.set_cons_zero, List.set_cons_succ, Nat.reduceAdd, d16]
        clear d16
        cases eq
        case false =>
         go_wp2
         go_roundw
         case rel => exact ⟨i + 1, by go_num, HI.out, BEL, XR, X0, P1, ⟨fun j hj hj0 => by rcases Nat.lt_succ_iff_lt_or_eq.1 hj with h1 | rfl; exact HNO.out j h1 hj0; exact of_decide_eq_false HE2.out⟩⟩
         case measure => rw [hwi]; exact meas_int HI.out
        case true =>
         have HOO := yk (HHIT.out i HI.out HAK.out HNO.out (of_decide_eq_true HE2.out))
         go_wp2_with fail
         go_at_call 21
         refine (dint_any i _ (by omega) (by have := HI23.out; omega)).mono ?_
         rintro en9 w9 ⟨v9, rfl, hr, hb⟩
         replace BEL := yk (BEL.out.next hb)
         replace X0 := yk (yb X0.out hb)
         replace XR := yk (yb XR.out hb)
         have P2 := yk hr
         obtain ⟨b9, A9, n9, c9, x9, rfl⟩ := hr.ex
         clear hr hb
         go_wp2_with fail
         have BLK := BEL
         go_at_call 79
         refine (dtold_nd (P2.out.c.nd (Ok.of 20 (by have := HI23.out; omega) (by decide) (by decide) (by decide)))).mono ?_
         rintro en10 w10 ⟨v10, rfl, hr, hb⟩
         replace BEL := yk (BEL.out.next hb)
         replace X0 := yk (yb X0.out hb)
         replace XR := yk (yb XR.out hb)
         replace P2 := yk (P2.out.below hb)
         have P3 := yk hr
         obtain ⟨b10, A10, n10, c10, x10, rfl⟩ := hr.ex
         clear hr hb
         go_wp2_with (((with_reducible refine gate_store (p := 4) rfl ?_); go_must (refine sdy 4 (.tmp 58) rfl rfl rfl rfl rfl XR.out rfl ?_; intro wb HX HG)); replace P2 := yk (P2.out.grown_box XR.out (by decide) HG.out); replace P3 := yk (P3.out.grown_box XR.out (by decide) HG.out); replace BEL := yk (BEL.out.grown HG.out (by omega)); replace X0 := yk (blk_grown X0.out HG.out (by omega)); replace XR := HX; clear HG)
         rw [HOO.out]
         refine bodyPost_ret (results_list (rs := [.cell 4 27, .tmp 5]) rfl (by simp) (Vals.box any_dyad info_dyad (g := w.heap.size + 1) rfl XR.out rfl (.tmp .nil))) rfl ?_
         exact ⟨_, rfl, P3.out.lower BLK.out.1.size, BEL.out.1⟩
     · have HAA : Aside0 (((i : Int) == 0) = false) := ⟨by simp; omega⟩
       have HB9 : Aside0 (((f : Int) == 9) = false) := ⟨by simp; omega⟩
       have HB12 : Aside0 (((f : Int) == 12) = true) := ⟨by simp; omega⟩
       have HAK : Aside0 ((i = 0 ∨ (f = 9 ∨ f = 12))) := ⟨by omega⟩
       clear hi0 h9 h12
       go_upto_region 13 with fail
       obtain ⟨TC, hTC⟩ : ∃ T : List (Option Value), T = [some (.int .i64 (i : Int)), some (.bool false), some (.bool false), some (.int .u8 (f : Int)), some (.bool false), some (.bool false), some (.bool false), some (.int .u8 (f : Int)), some (.bool true), some (.bool true), some (.bool true), some (.agg #[.bool b8, .slice A8 n8 c8, .int .i64 x8]), some (.int .i64 (i : Int)), none, none, some (.bool eq), some (.bool eq)] := ⟨_, rfl⟩
       obtain ⟨GC, hGC⟩ : ∃ G : (Nat → Prop) → (Nat → Value) → World → Prop, G = fun L v W => BelN w 2 W ∧ W.heap[w.heap.size]? = some (.cells #[.bool b8, .slice A8 n8 c8, .int .i64 x8] 27 (0, 0)) ∧ W.heap[w.heap.size + 1]? = some (.cells #[.bool false, .slice none 0 0, .int .i64 0] 27 (0, 0)) ∧ RDy W w.heap.size (.agg #[.bool b8, .slice A8 n8 c8, .int .i64 x8]) t (-1074) ∧ (∀ j c, L j → TC[j]? = some (some c) → v j = c) ∧ (L 13 → NDy W (v 13) (tenI i * M) (-1074)) ∧ (L 14 → (v 14) = .int .i64 (sgnI (t - tenI i * M))) := ⟨_, rfl⟩
       refine wp_region_slotsV [38, 39, 40, 41, 42, 43, 44, 45, 46, 47, 48, 49, 50, 51, 52, 53, 54] (by kernel_rfl) (by kernel_rfl) (G := GC) ?h0C ?hstepC ?hendC
       case h0C =>
        intro v; rw [hGC]
        exact ⟨BEL.out.next (below_drew yr), blk_drew X0.out, blk_drew XR.out, P1.out.below (below_drew yr), fun _ _ h => h.elim, fun h => h.elim, fun h => h.elim⟩
       case hstepC =>
        intro k o ho v W L hGv hnk haft hcl K hK
        rw [hGC] at hGv
        obtain ⟨hB, hb0, hb1, hk0, fT, f13, f14⟩ := hGv
        rcases k with _ | _ | _ | _ | _ | _ | _ | _ | _ | _ | _ | _ | _ | _ | _ | _ | _ | k
        all_goals first
         | (cases ho; done)
         | (obtain rfl := (Option.some.inj ho).symm
            clear ho
            simp only [setAll, List.setIfInBounds_toArray, List.set_cons_zero, List.set_cons_succ, List.set_nil, List.getElem_toArray, List.getElem_cons_zero, List.getElem_cons_succ, Nat.reduceAdd] at haft hK ⊢)
        ·
         rw [if_pos (by rfl)]
         have hb := yw W
         have key := hK.out (.int .i64 (i : Int)) W (by rw [hGC]; exact ⟨hB.next hb, yb hb0 hb, yb hb1 hb, hk0.below hb, tabs_step fT (fun c h => by rw [hTC] at h; exact yo h), (fun h => by rw [upd_ne v _ (by decide)]; exact (f13 (yx h)).below hb), (kV f14)⟩)
         clear hb0 hb1 hk0 fT f13 f14 hK hb
         go_simp
         simpa [upd] using key
        ·
         have d0 := fT 0 _ (haft ⟨0, .data⟩ (by simp) rfl) (by rw [hTC]; rfl)
         rw [if_pos (by rfl)]
         have ha := HAA.out
         have hb := yw W
         have key := hK.out (.bool false) W (by rw [hGC]; exact ⟨hB.next hb, yb hb0 hb, yb hb1 hb, hk0.below hb, tabs_step fT (fun c h => by rw [hTC] at h; exact yo h), (fun h => by rw [upd_ne v _ (by decide)]; exact (f13 (yx h)).below hb), (kV f14)⟩)
         clear hb0 hb1 hk0 fT f13 f14 hK hb
         go_simp
         simpa [upd, d0] using key
        ·
         have d1 := fT 1 _ (haft ⟨1, .data⟩ (by simp) rfl) (by rw [hTC]; rfl)
         rw [if_pos (by rfl)]
         have hb := yw W
         have key := hK.out (.bool false) W (by rw [hGC]; exact ⟨hB.next hb, yb hb0 hb, yb hb1 hb, hk0.below hb, tabs_step fT (fun c h => by rw [hTC] at h; exact yo h), (fun h => by rw [upd_ne v _ (by decide)]; exact (f13 (yx h)).below hb), (kV f14)⟩)
         clear hb0 hb1 hk0 fT f13 f14 hK hb
         go_simp
         simpa [upd, d1] using key
        ·
         have dg := fT 2 _ (haft ⟨2, .guard⟩ (by simp) rfl) (by rw [hTC]; rfl)
         rw [if_pos (by simp [Region.wanted, yielded, dg])]
         have hb := yw W
         have key := hK.out (.int .u8 (f : Int)) W (by rw [hGC]; exact ⟨hB.next hb, yb hb0 hb, yb hb1 hb, hk0.below hb, tabs_step fT (fun c h => by rw [hTC] at h; exact yo h), (fun h => by rw [upd_ne v _ (by decide)]; exact (f13 (yx h)).below hb), (kV f14)⟩)
         clear hb0 hb1 hk0 fT f13 f14 hK hb
         go_simp
         simpa [upd, dg] using key
        ·
         have d3 := fT 3 _ (haft ⟨3, .data⟩ (by simp) rfl) (by rw [hTC]; rfl)
         have dg := fT 2 _ (haft ⟨2, .guard⟩ (by simp) rfl) (by rw [hTC]; rfl)
         rw [if_pos (by simp [Region.wanted, yielded, dg])]
         have ha := HB9.out
         have hb := yw W
         have key := hK.out (.bool false) W (by rw [hGC]; exact ⟨hB.next hb, yb hb0 hb, yb hb1 hb, hk0.below hb, tabs_step fT (fun c h => by rw [hTC] at h; exact yo h), (fun h => by rw [upd_ne v _ (by decide)]; exact (f13 (yx h)).below hb), (kV f14)⟩)
         clear hb0 hb1 hk0 fT f13 f14 hK hb
         go_simp
         simpa [upd, d3, dg] using key
        ·
         have d2 := fT 2 _ (haft ⟨2, .data⟩ (by simp) rfl) (by rw [hTC]; rfl)
         have d4 := fT 4 _ (haft ⟨4, .data⟩ (by simp) rfl) (by rw [hTC]; rfl)
         rw [if_pos (by rfl)]
         have hb := yw W
         have key := hK.out (.bool false) W (by rw [hGC]; exact ⟨hB.next hb, yb hb0 hb, yb hb1 hb, hk0.below hb, tabs_step fT (fun c h => by rw [hTC] at h; exact yo h), (fun h => by rw [upd_ne v _ (by decide)]; exact (f13 (yx h)).below hb), (kV f14)⟩)
         clear hb0 hb1 hk0 fT f13 f14 hK hb
         go_simp
         simpa [upd, d2, d4] using key
        ·
         have d5 := fT 5 _ (haft ⟨5, .data⟩ (by simp) rfl) (by rw [hTC]; rfl)
         rw [if_pos (by rfl)]
         have hb := yw W
         have key := hK.out (.bool false) W (by rw [hGC]; exact ⟨hB.next hb, yb hb0 hb, yb hb1 hb, hk0.below hb, tabs_step fT (fun c h => by rw [hTC] at h; exact yo h), (fun h => by rw [upd_ne v _ (by decide)]; exact (f13 (yx h)).below hb), (kV f14)⟩)
         clear hb0 hb1 hk0 fT f13 f14 hK hb
         go_simp
         simpa [upd, d5] using key
        ·
         have dg := fT 6 _ (haft ⟨6, .guard⟩ (by simp) rfl) (by rw [hTC]; rfl)
         rw [if_pos (by simp [Region.wanted, yielded, dg])]
         have hb := yw W
         have key := hK.out (.int .u8 (f : Int)) W (by rw [hGC]; exact ⟨hB.next hb, yb hb0 hb, yb hb1 hb, hk0.below hb, tabs_step fT (fun c h => by rw [hTC] at h; exact yo h), (fun h => by rw [upd_ne v _ (by decide)]; exact (f13 (yx h)).below hb), (kV f14)⟩)
         clear hb0 hb1 hk0 fT f13 f14 hK hb
         go_simp
         simpa [upd, dg] using key
        ·
         have d7 := fT 7 _ (haft ⟨7, .data⟩ (by simp) rfl) (by rw [hTC]; rfl)
         have dg := fT 6 _ (haft ⟨6, .guard⟩ (by simp) rfl) (by rw [hTC]; rfl)
         rw [if_pos (by simp [Region.wanted, yielded, dg])]
         have ha := HB12.out
         have hb := yw W
         have key := hK.out (.bool true) W (by rw [hGC]; exact ⟨hB.next hb, yb hb0 hb, yb hb1 hb, hk0.below hb, tabs_step fT (fun c h => by rw [hTC] at h; exact yo h), (fun h => by rw [upd_ne v _ (by decide)]; exact (f13 (yx h)).below hb), (kV f14)⟩)
         clear hb0 hb1 hk0 fT f13 f14 hK hb
         go_simp
         simpa [upd, d7, dg] using key
        ·
         have d6 := fT 6 _ (haft ⟨6, .data⟩ (by simp) rfl) (by rw [hTC]; rfl)
         have d8 := fT 8 _ (haft ⟨8, .data⟩ (by simp) rfl) (by rw [hTC]; rfl)
         rw [if_pos (by rfl)]
         have hb := yw W
         have key := hK.out (.bool true) W (by rw [hGC]; exact ⟨hB.next hb, yb hb0 hb, yb hb1 hb, hk0.below hb, tabs_step fT (fun c h => by rw [hTC] at h; exact yo h), (fun h => by rw [upd_ne v _ (by decide)]; exact (f13 (yx h)).below hb), (kV f14)⟩)
         clear hb0 hb1 hk0 fT f13 f14 hK hb
         go_simp
         simpa [upd, d6, d8] using key
        ·
         have d9 := fT 9 _ (haft ⟨9, .data⟩ (by simp) rfl) (by rw [hTC]; rfl)
         rw [if_pos (by rfl)]
         have hb := yw W
         have key := hK.out (.bool true) W (by rw [hGC]; exact ⟨hB.next hb, yb hb0 hb, yb hb1 hb, hk0.below hb, tabs_step fT (fun c h => by rw [hTC] at h; exact yo h), (fun h => by rw [upd_ne v _ (by decide)]; exact (f13 (yx h)).below hb), (kV f14)⟩)
         clear hb0 hb1 hk0 fT f13 f14 hK hb
         go_simp
         simpa [upd, d9] using key
        ·
         have dg := fT 10 _ (haft ⟨10, .guard⟩ (by simp) rfl) (by rw [hTC]; rfl)
         rw [if_pos (by simp [Region.wanted, yielded, dg])]
         have cc0 := (box_cell (v := .bool b8) hb0 0 rfl).1
         have cc1 := (box_cell (v := .slice A8 n8 c8) hb0 1 rfl).1
         have cc2 := (box_cell (v := .int .i64 x8) hb0 2 rfl).1
         have hb := yw W
         have key := hK.out (.agg #[.bool b8, .slice A8 n8 c8, .int .i64 x8]) W (by rw [hGC]; exact ⟨hB.next hb, yb hb0 hb, yb hb1 hb, hk0.below hb, tabs_step fT (fun c h => by rw [hTC] at h; exact yo h), (fun h => by rw [upd_ne v _ (by decide)]; exact (f13 (yx h)).below hb), (kV f14)⟩)
         clear hb0 hb1 hk0 fT f13 f14 hK hb
         go_simp
         simpa [upd, dg] using key
        ·
         have dg := fT 10 _ (haft ⟨10, .guard⟩ (by simp) rfl) (by rw [hTC]; rfl)
         rw [if_pos (by simp [Region.wanted, yielded, dg])]
         have hb := yw W
         have key := hK.out (.int .i64 (i : Int)) W (by rw [hGC]; exact ⟨hB.next hb, yb hb0 hb, yb hb1 hb, hk0.below hb, tabs_step fT (fun c h => by rw [hTC] at h; exact yo h), (fun h => by rw [upd_ne v _ (by decide)]; exact (f13 (yx h)).below hb), (kV f14)⟩)
         clear hb0 hb1 hk0 fT f13 f14 hK hb
         go_simp
         simpa [upd, dg] using key
        ·
         have d12 := fT 12 _ (haft ⟨12, .data⟩ (by simp) rfl) (by rw [hTC]; rfl)
         have dg := fT 10 _ (haft ⟨10, .guard⟩ (by simp) rfl) (by rw [hTC]; rfl)
         rw [if_pos (by simp [Region.wanted, yielded, dg])]
         have HALL := yk (ya hK (ya hB (ya hb0 ( ya hb1 ( ya hk0 ( ya fT ( ya f13 ( ya f14 (True.intro)))))))))
         clear hK hb0 hb1 hk0 fT f13 f14
         go_simp
         go_at_call 83
         refine (dten_any i (by have := HI23.out; omega) _).mono ?_
         rintro en w4 ⟨v1, rfl, hr, hb⟩
         obtain ⟨hK, hB, hb0, hb1, hk0, fT, f13, f14, _⟩ := HALL.out
         have key := hK.out (v1) w4 (by rw [hGC]; exact ⟨hB.next hb, yb hb0 hb, yb hb1 hb, hk0.below hb, tabs_step fT (fun c h => by rw [hTC] at h; cases h), fun _ => by rw [upd_eq]; exact HP.out i HI23.out _ _ _ hr, (kV f14)⟩)
         clear hb0 hb1 hk0 fT f13 f14 hK HALL
         simpa [upd, d12, dg] using key
        ·
         have d11 := fT 11 _ (haft ⟨11, .data⟩ (by simp) rfl) (by rw [hTC]; rfl)
         have d13 := f13 (haft ⟨13, .data⟩ (by simp) rfl)
         have dg := fT 10 _ (haft ⟨10, .guard⟩ (by simp) rfl) (by rw [hTC]; rfl)
         rw [if_pos (by simp [Region.wanted, yielded, dg])]
         have K1 := hk0
         have HALL := yk (ya hK (ya hB (ya hb0 ( ya hb1 ( ya hk0 ( ya fT ( ya f13 ( ya f14 (True.intro)))))))))
         clear hK hb0 hb1 hk0 fT f13 f14
         go_simp
         go_at_call 55
         refine (order_nd (K1.c.nd OT.out) d13 OT.out (OTN.out i (by have := HI23.out; omega))).mono ?_
         rintro en w4 ⟨rfl, hb⟩
         obtain ⟨hK, hB, hb0, hb1, hk0, fT, f13, f14, _⟩ := HALL.out
         have key := hK.out (.int .i64 (sgnI (t - tenI i * M))) w4 (by rw [hGC]; exact ⟨hB.next hb, yb hb0 hb, yb hb1 hb, hk0.below hb, tabs_step fT (fun c h => by rw [hTC] at h; cases h), (fun h => by rw [upd_ne v _ (by decide)]; exact (f13 (yx h)).below hb), yu⟩)
         clear hb0 hb1 hk0 fT f13 f14 hK HALL
         simpa [upd, d11, dg] using key
        ·
         have d14 := f14 (haft ⟨14, .data⟩ (by simp) rfl)
         have dg := fT 10 _ (haft ⟨10, .guard⟩ (by simp) rfl) (by rw [hTC]; rfl)
         rw [if_pos (by simp [Region.wanted, yielded, dg])]
         have he := HEQ.out
         have hb := yw W
         have key := hK.out (.bool eq) W (by rw [hGC]; exact ⟨hB.next hb, yb hb0 hb, yb hb1 hb, hk0.below hb, tabs_step fT (fun c h => by rw [hTC] at h; exact yo h), (fun h => by rw [upd_ne v _ (by decide)]; exact (f13 (yx h)).below hb), (kV f14)⟩)
         clear hb0 hb1 hk0 fT f13 f14 hK hb
         go_simp
         simpa [upd, dg, d14] using key
        ·
         have d10 := fT 10 _ (haft ⟨10, .data⟩ (by simp) rfl) (by rw [hTC]; rfl)
         have d15 := fT 15 _ (haft ⟨15, .data⟩ (by simp) rfl) (by rw [hTC]; rfl)
         rw [if_pos (by rfl)]
         have hb := yw W
         have key := hK.out (.bool eq) W (by rw [hGC]; exact ⟨hB.next hb, yb hb0 hb, yb hb1 hb, hk0.below hb, tabs_step fT (fun c h => by rw [hTC] at h; exact yo h), (fun h => by rw [upd_ne v _ (by decide)]; exact (f13 (yx h)).below hb), (kV f14)⟩)
         clear hb0 hb1 hk0 fT f13 f14 hK hb
         go_simp
         simpa [upd, d10, d15] using key
       case hendC =>
        intro v W L0 hall hGv
        rw [hGC] at hGv
        obtain ⟨hB, hb0, hb1, hk0, fT, f13, f14⟩ := hGv
        have d16 := fT 16 _ (hall 16 (by decide)) (by rw [hTC]; rfl)
        replace BEL := yk hB
        replace X0 := yk hb0
        replace XR := yk hb1
        replace P1 := yk hk0
        clear hall hB hb0 hb1 hk0 fT f13 f14 hGC GC hTC TC
        simp only [setAll, List.setIfInBounds_toArray, List.set_cons_zero, List.set_cons_succ, Nat.reduceAdd, d16]
        clear d16
        cases eq
        case false =>
         go_wp2
         go_roundw
         case rel => exact ⟨i + 1, by go_num, HI.out, BEL, XR, X0, P1, ⟨fun j hj hj0 => by rcases Nat.lt_succ_iff_lt_or_eq.1 hj with h1 | rfl; exact HNO.out j h1 hj0; exact of_decide_eq_false HE2.out⟩⟩
         case measure => rw [hwi]; exact meas_int HI.out
        case true =>
         have HOO := yk (HHIT.out i HI.out HAK.out HNO.out (of_decide_eq_true HE2.out))
         go_wp2_with fail
         go_at_call 21
         refine (dint_any i _ (by omega) (by have := HI23.out; omega)).mono ?_
         rintro en9 w9 ⟨v9, rfl, hr, hb⟩
         replace BEL := yk (BEL.out.next hb)
         replace X0 := yk (yb X0.out hb)
         replace XR := yk (yb XR.out hb)
         have P2 := yk hr
         obtain ⟨b9, A9, n9, c9, x9, rfl⟩ := hr.ex
         clear hr hb
         go_wp2_with fail
         have BLK := BEL
         go_at_call 79
         refine (dtold_nd (P2.out.c.nd (Ok.of 20 (by have := HI23.out; omega) (by decide) (by decide) (by decide)))).mono ?_
         rintro en10 w10 ⟨v10, rfl, hr, hb⟩
         replace BEL := yk (BEL.out.next hb)
         replace X0 := yk (yb X0.out hb)
         replace XR := yk (yb XR.out hb)
         replace P2 := yk (P2.out.below hb)
         have P3 := yk hr
         obtain ⟨b10, A10, n10, c10, x10, rfl⟩ := hr.ex
         clear hr hb
         go_wp2_with (((with_reducible refine gate_store (p := 4) rfl ?_); go_must (refine sdy 4 (.tmp 58) rfl rfl rfl rfl rfl XR.out rfl ?_; intro wb HX HG)); replace P2 := yk (P2.out.grown_box XR.out (by decide) HG.out); replace P3 := yk (P3.out.grown_box XR.out (by decide) HG.out); replace BEL := yk (BEL.out.grown HG.out (by omega)); replace X0 := yk (blk_grown X0.out HG.out (by omega)); replace XR := HX; clear HG)
         rw [HOO.out]
         refine bodyPost_ret (results_list (rs := [.cell 4 27, .tmp 5]) rfl (by simp) (Vals.box any_dyad info_dyad (g := w.heap.size + 1) rfl XR.out rfl (.tmp .nil))) rfl ?_
         exact ⟨_, rfl, P3.out.lower BLK.out.1.size, BEL.out.1⟩
     · have HAA : Aside0 (((i : Int) == 0) = false) := ⟨by simp; omega⟩
       have HB9 : Aside0 (((f : Int) == 9) = false) := ⟨by simp; omega⟩
       have HB12 : Aside0 (((f : Int) == 12) = false) := ⟨by simp; omega⟩
       have HAK : Aside0 (¬ (i = 0 ∨ (f = 9 ∨ f = 12))) := ⟨by omega⟩
       clear hi0 h9 h12
       go_upto_region 13 with fail
       obtain ⟨TD, hTD⟩ : ∃ T : List (Option Value), T = [some (.int .i64 (i : Int)), some (.bool false), some (.bool false), some (.int .u8 (f : Int)), some (.bool false), some (.bool false), some (.bool false), some (.int .u8 (f : Int)), some (.bool false), some (.bool false), some (.bool false), none, none, none, none, none, some (.bool false)] := ⟨_, rfl⟩
       obtain ⟨GD, hGD⟩ : ∃ G : (Nat → Prop) → (Nat → Value) → World → Prop, G = fun L v W => BelN w 2 W ∧ W.heap[w.heap.size]? = some (.cells #[.bool b8, .slice A8 n8 c8, .int .i64 x8] 27 (0, 0)) ∧ W.heap[w.heap.size + 1]? = some (.cells #[.bool false, .slice none 0 0, .int .i64 0] 27 (0, 0)) ∧ RDy W w.heap.size (.agg #[.bool b8, .slice A8 n8 c8, .int .i64 x8]) t (-1074) ∧ (∀ j c, L j → TD[j]? = some (some c) → v j = c) := ⟨_, rfl⟩
       refine wp_region_slotsV [38, 39, 40, 41, 42, 43, 44, 45, 46, 47, 48, 49, 50, 51, 52, 53, 54] (by kernel_rfl) (by kernel_rfl) (G := GD) ?h0D ?hstepD ?hendD
       case h0D =>
        intro v; rw [hGD]
        exact ⟨BEL.out.next (below_drew yr), blk_drew X0.out, blk_drew XR.out, P1.out.below (below_drew yr), fun _ _ h => h.elim⟩
       case hstepD =>
        intro k o ho v W L hGv hnk haft hcl K hK
        rw [hGD] at hGv
        obtain ⟨hB, hb0, hb1, hk0, fT⟩ := hGv
        rcases k with _ | _ | _ | _ | _ | _ | _ | _ | _ | _ | _ | _ | _ | _ | _ | _ | _ | k
        all_goals first
         | (cases ho; done)
         | (obtain rfl := (Option.some.inj ho).symm
            clear ho
            simp only [setAll, List.setIfInBounds_toArray, List.set_cons_zero, List.set_cons_succ, List.set_nil, List.getElem_toArray, List.getElem_cons_zero, List.getElem_cons_succ, Nat.reduceAdd] at haft hK ⊢)
        ·
         rw [if_pos (by rfl)]
         have hb := yw W
         have key := hK.out (.int .i64 (i : Int)) W (by rw [hGD]; exact ⟨hB.next hb, yb hb0 hb, yb hb1 hb, hk0.below hb, tabs_step fT (fun c h => by rw [hTD] at h; exact yo h)⟩)
         clear hb0 hb1 hk0 fT hK hb
         go_simp
         simpa [upd] using key
        ·
         have d0 := fT 0 _ (haft ⟨0, .data⟩ (by simp) rfl) (by rw [hTD]; rfl)
         rw [if_pos (by rfl)]
         have ha := HAA.out
         have hb := yw W
         have key := hK.out (.bool false) W (by rw [hGD]; exact ⟨hB.next hb, yb hb0 hb, yb hb1 hb, hk0.below hb, tabs_step fT (fun c h => by rw [hTD] at h; exact yo h)⟩)
         clear hb0 hb1 hk0 fT hK hb
         go_simp
         simpa [upd, d0] using key
        ·
         have d1 := fT 1 _ (haft ⟨1, .data⟩ (by simp) rfl) (by rw [hTD]; rfl)
         rw [if_pos (by rfl)]
         have hb := yw W
         have key := hK.out (.bool false) W (by rw [hGD]; exact ⟨hB.next hb, yb hb0 hb, yb hb1 hb, hk0.below hb, tabs_step fT (fun c h => by rw [hTD] at h; exact yo h)⟩)
         clear hb0 hb1 hk0 fT hK hb
         go_simp
         simpa [upd, d1] using key
        ·
         have dg := fT 2 _ (haft ⟨2, .guard⟩ (by simp) rfl) (by rw [hTD]; rfl)
         rw [if_pos (by simp [Region.wanted, yielded, dg])]
         have hb := yw W
         have key := hK.out (.int .u8 (f : Int)) W (by rw [hGD]; exact ⟨hB.next hb, yb hb0 hb, yb hb1 hb, hk0.below hb, tabs_step fT (fun c h => by rw [hTD] at h; exact yo h)⟩)
         clear hb0 hb1 hk0 fT hK hb
         go_simp
         simpa [upd, dg] using key
        ·
         have d3 := fT 3 _ (haft ⟨3, .data⟩ (by simp) rfl) (by rw [hTD]; rfl)
         have dg := fT 2 _ (haft ⟨2, .guard⟩ (by simp) rfl) (by rw [hTD]; rfl)
         rw [if_pos (by simp [Region.wanted, yielded, dg])]
         have ha := HB9.out
         have hb := yw W
         have key := hK.out (.bool false) W (by rw [hGD]; exact ⟨hB.next hb, yb hb0 hb, yb hb1 hb, hk0.below hb, tabs_step fT (fun c h => by rw [hTD] at h; exact yo h)⟩)
         clear hb0 hb1 hk0 fT hK hb
         go_simp
         simpa [upd, d3, dg] using key
        ·
         have d2 := fT 2 _ (haft ⟨2, .data⟩ (by simp) rfl) (by rw [hTD]; rfl)
         have d4 := fT 4 _ (haft ⟨4, .data⟩ (by simp) rfl) (by rw [hTD]; rfl)
         rw [if_pos (by rfl)]
         have hb := yw W
         have key := hK.out (.bool false) W (by rw [hGD]; exact ⟨hB.next hb, yb hb0 hb, yb hb1 hb, hk0.below hb, tabs_step fT (fun c h => by rw [hTD] at h; exact yo h)⟩)
         clear hb0 hb1 hk0 fT hK hb
         go_simp
         simpa [upd, d2, d4] using key
        ·
         have d5 := fT 5 _ (haft ⟨5, .data⟩ (by simp) rfl) (by rw [hTD]; rfl)
         rw [if_pos (by rfl)]
         have hb := yw W
         have key := hK.out (.bool false) W (by rw [hGD]; exact ⟨hB.next hb, yb hb0 hb, yb hb1 hb, hk0.below hb, tabs_step fT (fun c h => by rw [hTD] at h; exact yo h)⟩)
         clear hb0 hb1 hk0 fT hK hb
         go_simp
         simpa [upd, d5] using key
        ·
         have dg := fT 6 _ (haft ⟨6, .guard⟩ (by simp) rfl) (by rw [hTD]; rfl)
         rw [if_pos (by simp [Region.wanted, yielded, dg])]
         have hb := yw W
         have key := hK.out (.int .u8 (f : Int)) W (by rw [hGD]; exact ⟨hB.next hb, yb hb0 hb, yb hb1 hb, hk0.below hb, tabs_step fT (fun c h => by rw [hTD] at h; exact yo h)⟩)
         clear hb0 hb1 hk0 fT hK hb
         go_simp
         simpa [upd, dg] using key
        ·
         have d7 := fT 7 _ (haft ⟨7, .data⟩ (by simp) rfl) (by rw [hTD]; rfl)
         have dg := fT 6 _ (haft ⟨6, .guard⟩ (by simp) rfl) (by rw [hTD]; rfl)
         rw [if_pos (by simp [Region.wanted, yielded, dg])]
         have ha := HB12.out
         have hb := yw W
         have key := hK.out (.bool false) W (by rw [hGD]; exact ⟨hB.next hb, yb hb0 hb, yb hb1 hb, hk0.below hb, tabs_step fT (fun c h => by rw [hTD] at h; exact yo h)⟩)
         clear hb0 hb1 hk0 fT hK hb
         go_simp
         simpa [upd, d7, dg] using key
        ·
         have d6 := fT 6 _ (haft ⟨6, .data⟩ (by simp) rfl) (by rw [hTD]; rfl)
         have d8 := fT 8 _ (haft ⟨8, .data⟩ (by simp) rfl) (by rw [hTD]; rfl)
         rw [if_pos (by rfl)]
         have hb := yw W
         have key := hK.out (.bool false) W (by rw [hGD]; exact ⟨hB.next hb, yb hb0 hb, yb hb1 hb, hk0.below hb, tabs_step fT (fun c h => by rw [hTD] at h; exact yo h)⟩)
         clear hb0 hb1 hk0 fT hK hb
         go_simp
         simpa [upd, d6, d8] using key
        ·
         have d9 := fT 9 _ (haft ⟨9, .data⟩ (by simp) rfl) (by rw [hTD]; rfl)
         rw [if_pos (by rfl)]
         have hb := yw W
         have key := hK.out (.bool false) W (by rw [hGD]; exact ⟨hB.next hb, yb hb0 hb, yb hb1 hb, hk0.below hb, tabs_step fT (fun c h => by rw [hTD] at h; exact yo h)⟩)
         clear hb0 hb1 hk0 fT hK hb
         go_simp
         simpa [upd, d9] using key
        ·
         have dg := fT 10 _ (haft ⟨10, .guard⟩ (by simp) rfl) (by rw [hTD]; rfl)
         rw [if_neg (by simp [Region.wanted, yielded, dg])]
         have hb := yw W
         have key := hK.out undef W (by rw [hGD]; exact ⟨hB.next hb, yb hb0 hb, yb hb1 hb, hk0.below hb, tabs_step fT (fun c h => by rw [hTD] at h; cases h)⟩)
         clear hb0 hb1 hk0 fT hK hb
         simpa [upd, Act.put, dg] using key
        ·
         have dg := fT 10 _ (haft ⟨10, .guard⟩ (by simp) rfl) (by rw [hTD]; rfl)
         rw [if_neg (by simp [Region.wanted, yielded, dg])]
         have hb := yw W
         have key := hK.out undef W (by rw [hGD]; exact ⟨hB.next hb, yb hb0 hb, yb hb1 hb, hk0.below hb, tabs_step fT (fun c h => by rw [hTD] at h; cases h)⟩)
         clear hb0 hb1 hk0 fT hK hb
         simpa [upd, Act.put, dg] using key
        ·
         have dg := fT 10 _ (haft ⟨10, .guard⟩ (by simp) rfl) (by rw [hTD]; rfl)
         rw [if_neg (by simp [Region.wanted, yielded, dg])]
         have hb := yw W
         have key := hK.out undef W (by rw [hGD]; exact ⟨hB.next hb, yb hb0 hb, yb hb1 hb, hk0.below hb, tabs_step fT (fun c h => by rw [hTD] at h; cases h)⟩)
         clear hb0 hb1 hk0 fT hK hb
         simpa [upd, Act.put, dg] using key
        ·
         have dg := fT 10 _ (haft ⟨10, .guard⟩ (by simp) rfl) (by rw [hTD]; rfl)
         rw [if_neg (by simp [Region.wanted, yielded, dg])]
         have hb := yw W
         have key := hK.out undef W (by rw [hGD]; exact ⟨hB.next hb, yb hb0 hb, yb hb1 hb, hk0.below hb, tabs_step fT (fun c h => by rw [hTD] at h; cases h)⟩)
         clear hb0 hb1 hk0 fT hK hb
         simpa [upd, Act.put, dg] using key
        ·
         have dg := fT 10 _ (haft ⟨10, .guard⟩ (by simp) rfl) (by rw [hTD]; rfl)
         rw [if_neg (by simp [Region.wanted, yielded, dg])]
         have hb := yw W
         have key := hK.out undef W (by rw [hGD]; exact ⟨hB.next hb, yb hb0 hb, yb hb1 hb, hk0.below hb, tabs_step fT (fun c h => by rw [hTD] at h; cases h)⟩)
         clear hb0 hb1 hk0 fT hK hb
         simpa [upd, Act.put, dg] using key
        ·
         have d10 := fT 10 _ (haft ⟨10, .data⟩ (by simp) rfl) (by rw [hTD]; rfl)
         rw [if_pos (by rfl)]
         have hb := yw W
         have key := hK.out (.bool false) W (by rw [hGD]; exact ⟨hB.next hb, yb hb0 hb, yb hb1 hb, hk0.below hb, tabs_step fT (fun c h => by rw [hTD] at h; exact yo h)⟩)
         clear hb0 hb1 hk0 fT hK hb
         go_simp
         simpa [upd, d10] using key
       case hendD =>
        intro v W L0 hall hGv
        rw [hGD] at hGv
        obtain ⟨hB, hb0, hb1, hk0, fT⟩ := hGv
        have d16 := fT 16 _ (hall 16 (by decide)) (by rw [hTD]; rfl)
        replace BEL := yk hB
        replace X0 := yk hb0
        replace XR := yk hb1
        replace P1 := yk hk0
        clear hall hB hb0 hb1 hk0 fT hGD GD hTD TD
        simp only [setAll, List.setIfInBounds_toArray, List.set_cons_zero, List.set_cons_succ, Nat.reduceAdd, d16]
        clear d16
        go_wp2
        go_roundw
        case rel => exact ⟨i + 1, by go_num, HI.out, BEL, XR, X0, P1, ⟨fun j hj hj0 => by rcases Nat.lt_succ_iff_lt_or_eq.1 hj with h1 | rfl; exact HNO.out j h1 hj0; exact absurd hj0 HAK.out⟩⟩
        case measure => rw [hwi]; exact meas_int HI.out
   · have hld : decide ((i : Int) ≤ mI) = false := decide_eq_false (by have := HMI.out; omega)
     have hlt' : ¬ (i : Int) ≤ mI := by have := HMI.out; omega
     have he : i = most + 1 := by omega
     subst he
     have HOO := yk (HEND.out HNO.out)
     go_wp2_with (((with_reducible refine gate_store (p := 4) rfl ?_); go_must (refine sdy 4 (.tmp 60) rfl rfl rfl rfl rfl XR.out rfl ?_; intro wb HX HG)); replace P1 := yk (P1.out.grown_box XR.out (by decide) HG.out); replace BEL := yk (BEL.out.grown HG.out (by omega)); replace X0 := yk (blk_grown X0.out HG.out (by omega)); replace XR := HX; clear HG)
     rw [HOO.out]
     refine bodyPost_ret (results_list (rs := [.cell 4 27, .tmp 5]) rfl (by simp) (Vals.box any_dyad info_dyad (g := w.heap.size + 1) rfl XR.out rfl (.tmp .nil))) rfl ?_
     exact ⟨_, rfl, RDy.zero _ _ _, BEL.out.1⟩
/-- The document's exact case of a number in the domain. -/
def valO (f : Nat) (z : Int) : Option (Int × Int) :=
 if z = 0 then zeroO f else if f ≤ 6 then powO f (smallF (2 ^ 1074) z (-16384) 16384) else if f ≤ 12 then logO f (logT f z)
 else if 16 ≤ f ∧ f ≤ 18 then turnO f z else if z = 1 * 2 ^ 1074 ∨ z = -1 * 2 ^ 1074 then angO f (decide (z < 0)) else none
theorem atF_yes {n z : Int} {y : Int × Int} (h : z = n * 2 ^ 1074) : atF n y z = some y := if_pos h
theorem atF_no {n z : Int} {y : Int × Int} (h : ¬ z = n * 2 ^ 1074) : atF n y z = none := if_neg h
theorem small_filter {M z lo hi : Int} (hM : 0 < M) (h1 : -16384 ≤ lo) (h2 : hi ≤ 16384) : smallF M z lo hi = (smallF M z (-16384) 16384).bind (fun n => if lo ≤ n ∧ n ≤ hi then some n else none) := by
 unfold smallF
 by_cases hz : z % M = 0
 · have e := of_whole hz
   obtain ⟨a, ha⟩ : ∃ a, a = z / M := ⟨_, rfl⟩
   rw [← ha] at e ⊢
   have key : ∀ l h : Int, (z % M = 0 ∧ l * M ≤ z ∧ z ≤ h * M) ↔ (l ≤ a ∧ a ≤ h) := by
    intro l h
    rw [e]
    constructor
    · rintro ⟨-, q1, q2⟩; exact ⟨Int.le_of_mul_le_mul_right q1 hM, Int.le_of_mul_le_mul_right q2 hM⟩
    · rintro ⟨q1, q2⟩; exact ⟨Int.mul_emod_left _ _, Int.mul_le_mul_of_nonneg_right q1 (Int.le_of_lt hM), Int.mul_le_mul_of_nonneg_right q2 (Int.le_of_lt hM)⟩
   simp only [key]
   by_cases q : -16384 ≤ a ∧ a ≤ 16384
   · rw [if_pos q, Option.bind_some]
   · rw [if_neg q, Option.bind_none, if_neg (fun h => q ⟨by omega, by omega⟩)]
 · rw [if_neg (fun h => hz h.1), if_neg (fun h => hz h.1)]; rfl
theorem pow_map {M z : Int} (f : Nat) {lo hi : Int} (g : Int → Int × Int) (hM : 0 < M) (h1 : -16384 ≤ lo) (h2 : hi ≤ 16384) (hg : ∀ n, powO f (some n) = if lo ≤ n ∧ n ≤ hi then some (g n) else none) :
 powO f (smallF M z (-16384) 16384) = (smallF M z lo hi).map g := by
 rw [small_filter hM h1 h2]
 rcases smallF M z (-16384) 16384 with _ | n
 · rfl
 · rw [hg, Option.bind_some]; split <;> rfl
theorem turn_eq {f : Nat} {z : Int} (K : Int → Int → Option (Int × Int)) (hf : (f = 16 ∧ K = sineK) ∨ (f = 17 ∧ K = cosineK) ∨ (f = 18 ∧ K = tangentK)) (hd : f = 18 → ((!(quarF z).isSome || !((quarF z).getD 0 % 4 == 2)) = true)) : turnO f z = turnF K z := by
 have h0 : (0 : Int) < 2 ^ 1072 := Int.pow_pos (by decide)
 have hT : tangentK = fun k r => tanF k r (2 ^ 1072) := rfl
 unfold turnO turnF
 unfold quarF at *
 rw [nearF_M, show (2 : Int) ^ 1073 = 2 * 2 ^ 1072 by rw [show (1073 : Nat) = 1072 + 1 from rfl, Int.pow_succ, Int.mul_comm]]
 rw [hT] at hf
 clear hT
 generalize (2 : Int) ^ 1072 = M at *
 by_cases hr : z % M = 0
 · rw [if_pos hr] at hd ⊢
   obtain ⟨a, ha⟩ : ∃ a, a = z / M := ⟨_, rfl⟩
   have hz := of_whole hr
   rw [← ha] at hz hd ⊢
   clear ha hr
   subst hz
   rw [Option.bind_some]
   rcases Int.emod_two_eq a with h2 | h2
   · obtain ⟨b, rfl⟩ : ∃ b, a = 2 * b := ⟨a / 2, by omega⟩
     rw [nearM_even h0, two_mul_M, Int.sub_self]
     have hb : b % 4 = 0 ∨ b % 4 = 1 ∨ b % 4 = 2 ∨ b % 4 = 3 := by omega
     rcases hf with ⟨rfl, rfl⟩ | ⟨rfl, rfl⟩ | ⟨rfl, rfl⟩
     · rcases hb with h | h | h | h
       all_goals (rw [h]; unfold turnT sineK sel; rw [if_neg (by decide), if_neg (by omega), if_neg (by decide)])
       · rw [if_neg (by omega), if_neg (by omega)]; rfl
       · rw [if_pos (by omega)]; rfl
       · rw [if_neg (by omega), if_neg (by omega)]; rfl
       · rw [if_neg (by omega), if_pos (by omega)]; rfl
     · rcases hb with h | h | h | h
       all_goals (rw [h]; unfold turnT cosineK sel; rw [if_neg (by decide), if_neg (by omega), if_pos rfl])
       · rw [if_pos (by omega)]; rfl
       · rw [if_neg (by omega), if_neg (by omega)]; rfl
       · rw [if_neg (by omega), if_pos (by omega)]; rfl
       · rw [if_neg (by omega), if_neg (by omega)]; rfl
     · have hd1 := hd rfl
       rw [Option.isSome_some, Option.getD_some] at hd1
       simp only [Bool.not_true, Bool.false_or, Bool.not_eq_true', beq_eq_false_iff_ne, ne_eq] at hd1
       unfold turnT
       rw [if_pos rfl]
       have h5 : b % 4 = 0 ∨ b % 4 = 2 := by omega
       rw [if_neg (by omega), if_neg (by omega)]
       rcases h5 with h | h <;> rw [h] <;> rfl
   · obtain ⟨b, rfl⟩ : ∃ b, a = 2 * b + 1 := ⟨a / 2, by omega⟩
     rw [nearM_odd h0, two_mul_M]
     obtain ⟨k, hk⟩ : ∃ k, k = if b % 2 = 0 then b else b + 1 := ⟨_, rfl⟩
     rw [← hk, ← Int.sub_mul]
     have hl : (b % 2 = 0 ∧ k % 2 = 0 ∧ (2 * b + 1 - 2 * k) = 1) ∨ (b % 2 = 1 ∧ k % 2 = 0 ∧ (2 * b + 1 - 2 * k) = -1) := by
      split at hk <;> omega
     have hne : ¬ (2 * b + 1 - 2 * k) * M = 0 := by
      intro h4
      rcases Int.mul_eq_zero.1 h4 with h5 | h5 <;> omega
     rcases hf with ⟨rfl, rfl⟩ | ⟨rfl, rfl⟩ | ⟨rfl, rfl⟩
     · unfold turnT sineK
       rw [if_neg (by decide), if_pos (by omega), if_neg hne]
     · unfold turnT cosineK
       rw [if_neg (by decide), if_pos (by omega), if_neg hne]
     · unfold turnT
       rw [if_pos rfl]
       show _ = tanF (k % 4) ((2 * b + 1 - 2 * k) * M) M
       unfold tanF
       have hk4 : (k % 4).tmod 2 = 0 := by rw [Int.tmod_eq_emod_of_nonneg (by omega)]; omega
       rw [if_neg hne, hk4]
       rcases hl with ⟨q1, q2, q3⟩ | ⟨q1, q2, q3⟩
       · rw [q3, Int.one_mul, if_pos (show (2 * b + 1) % 8 % 4 = 1 by omega), if_pos (show (M.natAbs : Int) = M by omega), decide_eq_true h0]; rfl
       · rw [q3, Int.neg_mul, Int.one_mul, if_neg (show ¬ (2 * b + 1) % 8 % 4 = 1 by omega), if_pos (show (2 * b + 1) % 8 % 4 = 3 by omega), if_pos (show ((-M).natAbs : Int) = M by omega), decide_eq_false (show ¬ 0 < -M by omega)]; rfl
 · rw [if_neg hr]
   obtain ⟨k, hk⟩ : ∃ k, k = nearM M z := ⟨_, rfl⟩
   rw [← hk]
   have hne : ¬ z - k * (2 * M) = 0 := part_left hr
   show none = _
   rcases hf with ⟨rfl, rfl⟩ | ⟨rfl, rfl⟩ | ⟨rfl, rfl⟩
   · unfold sineK; rw [if_neg hne]
   · unfold cosineK; rw [if_neg hne]
   · show none = tanF (k % 4) (z - k * (2 * M)) M
     unfold tanF
     rw [if_neg hne, if_neg]
     intro h
     apply hr
     have h6 : z = (2 * k + 1) * M ∨ z = (2 * k - 1) * M := by
      rw [two_mul_M] at h
      rw [Int.add_mul, Int.sub_mul, Int.one_mul]
      omega
     rcases h6 with h6 | h6 <;> rw [h6] <;> exact Int.mul_emod_left _ _
theorem val_zero {f : Nat} (h1 : 1 ≤ f) (h2 : f ≤ 30) (hd : insideF f 0 = true) : zeroO f = caseG f 0 := by
 have hM : (0 : Int) < 2 ^ 1074 := Int.pow_pos (by decide)
 have a0 : ∀ y, atF 0 y 0 = some y := fun y => atF_yes (by rw [Int.zero_mul])
 have a1 : ∀ y, atF 1 y 0 = none := fun y => atF_no (by omega)
 have an : ∀ y, atF (-1) y 0 = none := fun y => atF_no (by omega)
 have hs : ∀ lo hi : Int, lo ≤ 0 → 0 ≤ hi → smallF (2 ^ 1074) 0 lo hi = some 0 := fun lo hi q1 q2 => by
  rw [small_z, if_pos ⟨Int.mul_nonpos_of_nonpos_of_nonneg q1 (Int.le_of_lt hM), Int.mul_nonneg q2 (Int.le_of_lt hM)⟩]
 have hn : nearF 0 1072 = 0 := by
  rw [nearF_M]
  have := nearM_even (M := 2 ^ 1072) (b := 0) (Int.pow_pos (by decide))
  rw [Int.mul_zero, Int.zero_mul] at this; exact this
 have hturn : ∀ K : Int → Int → Option (Int × Int), turnF K 0 = K 0 0 := fun K => by
  unfold turnF; rw [hn, Int.zero_mul]; rfl
 have hl1 : lg2F 1 0 = some (0, 0) := by
  unfold lg2F log2F
  rw [Int.zero_add, cman_mul, cexp_mul]
  rw [if_pos (show cman 1 = 1 from cman_one), show cexp 1 (-1074 + (1074 : Nat)) = 0 by unfold cexp; simp [tz_odd]]
 have hl2 : lg10F 1 16 0 = some (0, 0) := by
  unfold lg10F
  rw [Int.zero_add]
  exact log_some (i := 0) (by decide) (fun j hj => absurd hj (Nat.not_lt_zero _)) (by rw [tenI_zero])
 have hf : f = 1 ∨ f = 2 ∨ f = 3 ∨ f = 4 ∨ f = 5 ∨ f = 6 ∨ (f = 7 ∨ f = 8 ∨ f = 9 ∨ f = 29) ∨ f = 10 ∨ f = 11 ∨ f = 12 ∨ (f = 13 ∨ f = 15 ∨ f = 19 ∨ f = 21 ∨ f = 25 ∨ f = 27 ∨ f = 28 ∨ f = 30) ∨ (f = 14 ∨ f = 26) ∨ f = 16 ∨ f = 17 ∨ f = 18 ∨ f = 20 ∨ (f = 22 ∨ f = 24) ∨ f = 23 := by omega
 rcases hf with rfl | rfl | rfl | rfl | rfl | rfl | hf | rfl | rfl | rfl | hf | hf | rfl | rfl | rfl | rfl | hf | rfl
 · rw [show caseG 1 = atF 0 (1, 0) from rfl, a0]; rfl
 · rw [show caseG 2 = pow2F 0 (-16384) 16384 from rfl]
   unfold pow2F; rw [hs _ _ (by decide) (by decide)]; rfl
 · rw [show caseG 3 = pow10F 0 0 23 from rfl]
   unfold pow10F; rw [hs _ _ (by decide) (by decide)]; rfl
 · rw [show caseG 4 = atF 0 (0, 0) from rfl, a0]; rfl
 · rw [show caseG 5 = pow2F 1 (-54) 54 from rfl]
   unfold pow2F; rw [hs _ _ (by decide) (by decide)]; rfl
 · rw [show caseG 6 = pow10F 1 0 16 from rfl]
   unfold pow10F; rw [hs _ _ (by decide) (by decide)]; rfl
 · exfalso
   unfold insideF at hd
   rcases hf with rfl | rfl | rfl | rfl
   · rw [if_pos (by decide)] at hd; exact absurd (of_decide_eq_true hd) (by decide)
   · rw [if_pos (by decide)] at hd; exact absurd (of_decide_eq_true hd) (by decide)
   · rw [if_pos (by decide)] at hd; exact absurd (of_decide_eq_true hd) (by decide)
   · rw [if_neg (by decide), if_neg (by decide), if_neg (by decide), if_neg (by decide), if_pos rfl] at hd
     have := of_decide_eq_true hd
     omega
 · rw [show caseG 10 = atF 0 (0, 0) from rfl, a0]; rfl
 · rw [show caseG 11 = lg2F 1 from rfl, hl1]; rfl
 · rw [show caseG 12 = lg10F 1 16 from rfl, hl2]; rfl
 · rcases hf with rfl | rfl | rfl | rfl | rfl | rfl | rfl | rfl
   · rw [show caseG 13 = atF 0 (0, 0) from rfl, a0]; rfl
   · rw [show caseG 15 = atF 0 (0, 0) from rfl, a0]; rfl
   · rw [show caseG 19 = atF 0 (0, 0) from rfl, a0]; rfl
   · rw [show caseG 21 = atF 0 (0, 0) from rfl, a0]; rfl
   · rw [show caseG 25 = atF 0 (0, 0) from rfl, a0]; rfl
   · rw [show caseG 27 = atF 0 (0, 0) from rfl, a0]; rfl
   · rw [show caseG 28 = atF 0 (0, 0) from rfl, a0]; rfl
   · rw [show caseG 30 = atF 0 (0, 0) from rfl, a0]; rfl
 · rcases hf with rfl | rfl
   · rw [show caseG 14 = atF 0 (1, 0) from rfl, a0]; rfl
   · rw [show caseG 26 = atF 0 (1, 0) from rfl, a0]; rfl
 · rw [show caseG 16 = turnF sineK from rfl, hturn]; rfl
 · rw [show caseG 17 = turnF cosineK from rfl, hturn]; rfl
 · rw [show caseG 18 = turnF tangentK from rfl, hturn]; rfl
 · rw [show caseG 20 = atF 1 (0, 0) from rfl, a1]; rfl
 · rcases hf with rfl | rfl
   · rw [show caseG 22 = or3 (atF 0 (0, 0)) (atF 1 (1, 0 + -1)) (atF (-1) (-1, 0 + -1)) from rfl]; unfold or3; rw [a0]; rfl
   · rw [show caseG 24 = or3 (atF 0 (0, 0)) (atF 1 (1, 0 + -2)) (atF (-1) (-1, 0 + -2)) from rfl]; unfold or3; rw [a0]; rfl
 · rw [show caseG 23 = or3 (atF 1 (0, 0)) (atF 0 (1, 0 + -1)) (atF (-1) (1, 0)) from rfl]; unfold or3; rw [a1, a0]; rfl
theorem val_case {f : Nat} {z : Int} (h1 : 1 ≤ f) (h2 : f ≤ 30) (hd : insideF f z = true) : valO f z = caseG f z := by
 unfold valO
 by_cases hz : z = 0
 · subst hz
   rw [if_pos rfl]; exact val_zero h1 h2 hd
 rw [if_neg hz]
 have hM : (0 : Int) < 2 ^ 1074 := Int.pow_pos (by decide)
 have a0 : ∀ y, atF 0 y z = none := fun y => atF_no (by rw [Int.zero_mul]; exact hz)
 have hf : f = 1 ∨ f = 2 ∨ f = 3 ∨ f = 4 ∨ f = 5 ∨ f = 6 ∨ f = 7 ∨ f = 8 ∨ f = 9 ∨ f = 10 ∨ f = 11 ∨ f = 12 ∨ f = 16 ∨ f = 17 ∨ f = 18 ∨ (13 ≤ f ∧ ¬ (16 ≤ f ∧ f ≤ 18)) := by omega
 rcases hf with rfl | rfl | rfl | rfl | rfl | rfl | rfl | rfl | rfl | rfl | rfl | rfl | rfl | rfl | rfl | hf
 · rw [if_pos (by decide)]
   rw [show caseG 1 = atF 0 (1, 0) from rfl, a0]
   rcases smallF (2 ^ 1074) z (-16384) 16384 with _ | n
   · rfl
   · unfold powO; rw [Option.bind_some, if_neg (by decide), if_neg (fun q => absurd q.1 (by decide)), if_neg (fun q => absurd q.1 (by decide)), if_neg (fun q => absurd q.1 (by decide))]
 · rw [if_pos (by decide)]
   rw [show caseG 2 = pow2F 0 (-16384) 16384 from rfl]
   unfold pow2F
   rcases smallF (2 ^ 1074) z (-16384) 16384 with _ | n <;> rfl
 · rw [if_pos (by decide)]
   rw [show caseG 3 = pow10F 0 0 23 from rfl]
   exact pow_map 3 (fun n => (tenI n.toNat - 0, 0)) hM (by decide) (by decide) (fun n => by
    unfold powO
    rw [Option.bind_some, if_neg (by decide), if_neg (fun q => absurd q.1 (by decide))]
    by_cases q : 0 ≤ n ∧ n ≤ 23
    · rw [if_pos ⟨rfl, q⟩, if_pos q]
    · rw [if_neg (fun h => q h.2), if_neg (fun h => absurd h.1 (by decide)), if_neg q])
 · rw [if_pos (by decide)]
   rw [show caseG 4 = atF 0 (0, 0) from rfl, a0]
   rcases smallF (2 ^ 1074) z (-16384) 16384 with _ | n
   · rfl
   · unfold powO; rw [Option.bind_some, if_neg (by decide), if_neg (fun q => absurd q.1 (by decide)), if_neg (fun q => absurd q.1 (by decide)), if_neg (fun q => absurd q.1 (by decide))]
 · rw [if_pos (by decide)]
   rw [show caseG 5 = pow2F 1 (-54) 54 from rfl]
   exact pow_map 5 (fun n => powV n 1) hM (by decide) (by decide) (fun n => by
    unfold powO
    rw [Option.bind_some, if_neg (by decide)]
    by_cases q : -54 ≤ n ∧ n ≤ 54
    · rw [if_pos ⟨rfl, q⟩, if_pos q]
    · rw [if_neg (fun h => q h.2), if_neg (fun h => absurd h.1 (by decide)), if_neg (fun h => absurd h.1 (by decide)), if_neg q])
 · rw [if_pos (by decide)]
   rw [show caseG 6 = pow10F 1 0 16 from rfl]
   exact pow_map 6 (fun n => (tenI n.toNat - 1, 0)) hM (by decide) (by decide) (fun n => by
    unfold powO
    rw [Option.bind_some, if_neg (by decide), if_neg (fun q => absurd q.1 (by decide)), if_neg (fun q => absurd q.1 (by decide))]
    by_cases q : 0 ≤ n ∧ n ≤ 16
    · rw [if_pos ⟨rfl, q⟩, if_pos q]
    · rw [if_neg (fun h => q h.2), if_neg q])
 · rw [if_neg (by decide), if_pos (by decide)]
   rw [show caseG 7 = atF 1 (0, 0) from rfl]
   unfold atF logO
   rw [if_neg (by decide), if_neg (by decide), if_neg (by decide), show logT 7 z = z from rfl, Int.one_mul]
 · rw [if_neg (by decide), if_pos (by decide)]
   rw [show caseG 8 = lg2F 0 from rfl]
   unfold lg2F logO
   rw [if_pos (by decide), show logT 8 z = z from rfl, Int.zero_mul, Int.add_zero]
 · rw [if_neg (by decide), if_pos (by decide)]
   rw [show caseG 9 = lg10F 0 22 from rfl]
   unfold lg10F logO
   rw [if_neg (by decide), if_pos (by decide), show logT 9 z = z from rfl, Int.zero_mul, Int.add_zero]
 · rw [if_neg (by decide), if_pos (by decide)]
   rw [show caseG 10 = atF 0 (0, 0) from rfl, a0]
   unfold logO
   rw [if_neg (by decide), if_neg (by decide), if_neg (by decide), show logT 10 z = z + 1 * 2 ^ 1074 from rfl, if_neg (by omega)]
 · rw [if_neg (by decide), if_pos (by decide), show caseG 11 = lg2F 1 from rfl]
   unfold lg2F logO
   rw [if_pos (by decide), show logT 11 z = z + 1 * 2 ^ 1074 from rfl]
 · rw [if_neg (by decide), if_pos (by decide), show caseG 12 = lg10F 1 16 from rfl]
   unfold lg10F logO
   rw [if_neg (by decide), if_neg (by decide), if_pos (by decide), show logT 12 z = z + 1 * 2 ^ 1074 from rfl]
 · rw [if_neg (by decide), if_neg (by decide), if_pos (by decide)]
   rw [show caseG 16 = turnF sineK from rfl]
   exact turn_eq sineK (.inl ⟨rfl, rfl⟩) (fun h => absurd h (by decide))
 · rw [if_neg (by decide), if_neg (by decide), if_pos (by decide)]
   rw [show caseG 17 = turnF cosineK from rfl]
   exact turn_eq cosineK (.inr (.inl ⟨rfl, rfl⟩)) (fun h => absurd h (by decide))
 · rw [if_neg (by decide), if_neg (by decide), if_pos (by decide)]
   rw [show caseG 18 = turnF tangentK from rfl]
   refine turn_eq tangentK (.inr (.inr ⟨rfl, rfl⟩)) (fun _ => ?_)
   rw [tan_quar]
   unfold insideF at hd
   rw [if_neg (by decide), if_neg (by decide), if_pos rfl] at hd
   exact hd
 · rw [if_neg (by omega), if_neg (by omega), if_neg hf.2]
   have hp : ∀ y, atF 1 y z = if z = 1 * 2 ^ 1074 then some y else none := fun y => rfl
   have hn : ∀ y, atF (-1) y z = if z = -1 * 2 ^ 1074 then some y else none := fun y => rfl
   have hg : f = 20 ∨ f = 22 ∨ f = 23 ∨ f = 24 ∨ f = 29 ∨ (f = 13 ∨ f = 15 ∨ f = 19 ∨ f = 21 ∨ f = 25 ∨ f = 27 ∨ f = 28 ∨ f = 30) ∨ (f = 14 ∨ f = 26) := by omega
   have e1 : (1 : Int) * 2 ^ 1074 = 2 ^ 1074 := Int.one_mul _
   have e2 : (-1 : Int) * 2 ^ 1074 = -2 ^ 1074 := by rw [Int.neg_mul, Int.one_mul]
   rw [e1] at hp ⊢
   rw [e2] at hn ⊢
   generalize (2 : Int) ^ 1074 = M at *
   have tri : (z = M ∧ ¬ z < 0 ∧ ¬ z = -M) ∨ (z = -M ∧ z < 0 ∧ ¬ z = M) ∨ (¬ z = M ∧ ¬ z = -M) := by omega
   rcases hg with rfl | rfl | rfl | rfl | rfl | hg | hg
   · rw [show caseG 20 = atF 1 (0, 0) from rfl, hp]
     rcases tri with ⟨q1, q2, q3⟩ | ⟨q1, q2, q3⟩ | ⟨q1, q3⟩
     · rw [if_pos (.inl q1), if_pos q1, decide_eq_false q2]; rfl
     · rw [if_pos (.inr q1), if_neg q3, decide_eq_true q2]; rfl
     · rw [if_neg (fun h => h.elim q1 q3), if_neg q1]
   · rw [show caseG 22 = or3 (atF 0 (0, 0)) (atF 1 (1, 0 + -1)) (atF (-1) (-1, 0 + -1)) from rfl]
     unfold or3; rw [a0, hp, hn]
     rcases tri with ⟨q1, q2, q3⟩ | ⟨q1, q2, q3⟩ | ⟨q1, q3⟩
     · rw [if_pos (.inl q1), if_pos q1, decide_eq_false q2]; rfl
     · rw [if_pos (.inr q1), if_neg q3, if_pos q1, decide_eq_true q2]; rfl
     · rw [if_neg (fun h => h.elim q1 q3), if_neg q1, if_neg q3]; rfl
   · rw [show caseG 23 = or3 (atF 1 (0, 0)) (atF 0 (1, 0 + -1)) (atF (-1) (1, 0)) from rfl]
     unfold or3; rw [a0, hp, hn]
     rcases tri with ⟨q1, q2, q3⟩ | ⟨q1, q2, q3⟩ | ⟨q1, q3⟩
     · rw [if_pos (.inl q1), if_pos q1, decide_eq_false q2]; rfl
     · rw [if_pos (.inr q1), if_neg q3, if_pos q1, decide_eq_true q2]; rfl
     · rw [if_neg (fun h => h.elim q1 q3), if_neg q1, if_neg q3]; rfl
   · rw [show caseG 24 = or3 (atF 0 (0, 0)) (atF 1 (1, 0 + -2)) (atF (-1) (-1, 0 + -2)) from rfl]
     unfold or3; rw [a0, hp, hn]
     rcases tri with ⟨q1, q2, q3⟩ | ⟨q1, q2, q3⟩ | ⟨q1, q3⟩
     · rw [if_pos (.inl q1), if_pos q1, decide_eq_false q2]; rfl
     · rw [if_pos (.inr q1), if_neg q3, if_pos q1, decide_eq_true q2]; rfl
     · rw [if_neg (fun h => h.elim q1 q3), if_neg q1, if_neg q3]; rfl
   · rw [show caseG 29 = atF 1 (0, 0) from rfl, hp]
     rcases tri with ⟨q1, q2, q3⟩ | ⟨q1, q2, q3⟩ | ⟨q1, q3⟩
     · rw [if_pos (.inl q1), if_pos q1, decide_eq_false q2]; rfl
     · rw [if_pos (.inr q1), if_neg q3, decide_eq_true q2]; rfl
     · rw [if_neg (fun h => h.elim q1 q3), if_neg q1]
   · have hA : angO f (decide (z < 0)) = none := by
      unfold angO
      rw [if_neg (by omega), if_neg (by omega), if_neg (by omega), if_neg (by omega)]
     rw [hA]
     have hc : caseG f z = none := by
      rcases hg with rfl | rfl | rfl | rfl | rfl | rfl | rfl | rfl
      · rw [show caseG 13 = atF 0 (0, 0) from rfl, a0]
      · rw [show caseG 15 = atF 0 (0, 0) from rfl, a0]
      · rw [show caseG 19 = atF 0 (0, 0) from rfl, a0]
      · rw [show caseG 21 = atF 0 (0, 0) from rfl, a0]
      · rw [show caseG 25 = atF 0 (0, 0) from rfl, a0]
      · rw [show caseG 27 = atF 0 (0, 0) from rfl, a0]
      · rw [show caseG 28 = atF 0 (0, 0) from rfl, a0]
      · rw [show caseG 30 = atF 0 (0, 0) from rfl, a0]
     rw [hc]; split <;> rfl
   · have hA : angO f (decide (z < 0)) = none := by
      unfold angO
      rw [if_neg (by omega), if_neg (by omega), if_neg (by omega), if_neg (by omega)]
     rw [hA]
     have hc : caseG f z = none := by
      rcases hg with rfl | rfl
      · rw [show caseG 14 = atF 0 (1, 0) from rfl, a0]
      · rw [show caseG 26 = atF 0 (1, 0) from rfl, a0]
     rw [hc]; split <;> rfl
theorem dval_zero {f : Nat}  {v : Value} {z : Int} {w : World} (h : CDy w v z (-1074)) (hz : z.natAbs < 2 ^ 2098) (h0 : z = 0) :
 Calls Tryz.prog 20 #[.int .u8 f, v] w fun en w' => ∃ v', en = .returned (.tuple #[v', .bool (zeroO f : Option (Int × Int)).isSome]) ∧ DO w' w.heap.size v' (zeroO f) ∧ Below w.heap.size w w' := by
 obtain ⟨b0, A, n0, c, x0, rfl⟩ := h.ex
 have QZ := yk (fun (W : World) (hb : Below w.heap.size w W) => zero_nd ((h.below hb).nd (ok_z hz)))
 have hdz : decide (z = 0) = true := decide_eq_true h0
 clear h hz h0
 go_enter Tryz.func20, Tryz.ntmps20
 obtain ⟨BEL, X0, XR⟩ := al2 w 2 #[.bool b0, .slice A n0 c, .int .i64 x0] 27 #[.bool false, .slice none 0 0, .int .i64 0] 27
 obtain ⟨q0, q0', q1, q1', q2, q2'⟩ := bc3 X0.out
 go_wp2_with fail
 clear q0 q0' q1 q1' q2 q2'
 go_at_call 44
 refine (QZ.out _ BEL.out.1).mono ?_
 rintro en1 w1 ⟨rfl, hb⟩
 replace BEL := yk (BEL.out.next hb)
 replace X0 := yk (yb X0.out hb)
 replace XR := yk (yb XR.out hb)
 clear hb
 go_wp2_with fail
 have BLI := BEL
 go_at_call 45
 refine (dzero_any f _).mono ?_
 rintro en2 w2 ⟨v2, rfl, hr, hb⟩
 replace BEL := yk (BEL.out.next hb)
 replace X0 := yk (yb X0.out hb)
 replace XR := yk (yb XR.out hb)
 have P1 := yk hr
 obtain ⟨b2, A2, n2, c2, x2, rfl⟩ := hr.ex
 clear hr hb
 go_wp2_with (((with_reducible refine gate_store (p := 4) rfl ?_); go_must (refine sdy 4 (.tmp 11) rfl rfl rfl rfl rfl XR.out rfl ?_; intro wb HX HG)); replace P1 := yk (P1.out.grown_box XR.out (by decide) HG.out); replace BEL := yk (BEL.out.grown HG.out (by omega)); replace X0 := yk (blk_grown X0.out HG.out (by omega)); replace XR := HX; clear HG)
 refine bodyPost_ret (results_list (rs := [.cell 4 27, .tmp 5]) rfl (by simp) (Vals.box any_dyad info_dyad (g := w.heap.size + 1) rfl XR.out rfl (.tmp .nil))) rfl ?_
 exact ⟨_, rfl, P1.out.lower BLI.out.1.size, BEL.out.1⟩
theorem dval_pow {f : Nat} (hf : 1 ≤ f ∧ f ≤ 6) {v : Value} {z : Int} {w : World} (h : CDy w v z (-1074)) (hz : z.natAbs < 2 ^ 2098) (h0 : ¬ z = 0) :
 Calls Tryz.prog 20 #[.int .u8 f, v] w fun en w' => ∃ v', en = .returned (.tuple #[v', .bool (powO f (smallF (2 ^ 1074) z (-16384) 16384) : Option (Int × Int)).isSome]) ∧ DO w' w.heap.size v' (powO f (smallF (2 ^ 1074) z (-16384) 16384)) ∧ Below w.heap.size w w' := by
 obtain ⟨b0, A, n0, c, x0, rfl⟩ := h.ex
 have QZ := yk (fun (W : World) (hb : Below w.heap.size w W) => zero_nd ((h.below hb).nd (ok_z hz)))
 have hdz : decide (z = 0) = false := decide_eq_false h0
 have e0 : decide ((1 : Int) ≤ f) = true := decide_eq_true (by omega)
 have e1 : decide ((f : Int) ≤ 6) = true := decide_eq_true (by omega)
 have Q1 := yk (fun (W : World) (hb : Below w.heap.size w W) => dpowers_any (f := f) (by omega) ((h.below hb).nd (ok_z hz)) (ok_z hz))
 generalize powO f (smallF (2 ^ 1074) z (-16384) 16384) = O at *
 clear h hz h0 hf
 go_enter Tryz.func20, Tryz.ntmps20
 obtain ⟨BEL, X0, XR⟩ := al2 w 2 #[.bool b0, .slice A n0 c, .int .i64 x0] 27 #[.bool false, .slice none 0 0, .int .i64 0] 27
 obtain ⟨q0, q0', q1, q1', q2, q2'⟩ := bc3 X0.out
 go_wp2_with fail
 clear q0 q0' q1 q1' q2 q2'
 go_at_call 44
 refine (QZ.out _ BEL.out.1).mono ?_
 rintro en1 w1 ⟨rfl, hb⟩
 replace BEL := yk (BEL.out.next hb)
 replace X0 := yk (yb X0.out hb)
 replace XR := yk (yb XR.out hb)
 clear hb
 obtain ⟨q3, q3', q4, q4', q5, q5'⟩ := bc3 X0.out
 go_wp2_with fail
 have BLI := BEL
 clear q3 q3' q4 q4' q5 q5'
 go_at_call 46
 refine (Q1.out _ BEL.out.1).mono ?_
 rintro en2 w2 ⟨v2, rfl, hr, hb⟩
 replace BEL := yk (BEL.out.next hb)
 replace X0 := yk (yb X0.out hb)
 replace XR := yk (yb XR.out hb)
 have P1 := yk hr
 obtain ⟨b2, A2, n2, c2, x2, rfl⟩ := hr.ex
 clear hr hb
 go_wp2_with (((with_reducible refine gate_store (p := 4) rfl ?_); go_must (refine sdy 4 (.tmp 23) rfl rfl rfl rfl rfl XR.out rfl ?_; intro wb HX HG)); replace P1 := yk (P1.out.grown_box XR.out (by decide) HG.out); replace BEL := yk (BEL.out.grown HG.out (by omega)); replace X0 := yk (blk_grown X0.out HG.out (by omega)); replace XR := HX; clear HG)
 refine bodyPost_ret (results_list (rs := [.cell 4 27, .tmp 5]) rfl (by simp) (Vals.box any_dyad info_dyad (g := w.heap.size + 1) rfl XR.out rfl (.tmp .nil))) rfl ?_
 exact ⟨_, rfl, P1.out.lower BLI.out.1.size, BEL.out.1⟩
theorem dval_log {f : Nat} (hf : 7 ≤ f ∧ f ≤ 12) {v : Value} {z : Int} {w : World} (h : CDy w v z (-1074)) (hz : z.natAbs < 2 ^ 2098) (h0 : ¬ z = 0) (hp : 0 < logT f z) :
 Calls Tryz.prog 20 #[.int .u8 f, v] w fun en w' => ∃ v', en = .returned (.tuple #[v', .bool (logO f (logT f z) : Option (Int × Int)).isSome]) ∧ DO w' w.heap.size v' (logO f (logT f z)) ∧ Below w.heap.size w w' := by
 obtain ⟨b0, A, n0, c, x0, rfl⟩ := h.ex
 have QZ := yk (fun (W : World) (hb : Below w.heap.size w W) => zero_nd ((h.below hb).nd (ok_z hz)))
 have hdz : decide (z = 0) = false := decide_eq_false h0
 have e0 : decide ((1 : Int) ≤ f) = true := decide_eq_true (by omega)
 have e1 : decide ((f : Int) ≤ 6) = false := decide_eq_false (by omega)
 have e2 : decide ((7 : Int) ≤ f) = true := decide_eq_true (by omega)
 have e3 : decide ((f : Int) ≤ 12) = true := decide_eq_true (by omega)
 have Q1 := yk (fun (W : World) (hb : Below w.heap.size w W) => dlogs_any hf (h.below hb) hz hp)
 generalize logO f (logT f z) = O at *
 clear h hz h0 hf hp
 go_enter Tryz.func20, Tryz.ntmps20
 obtain ⟨BEL, X0, XR⟩ := al2 w 2 #[.bool b0, .slice A n0 c, .int .i64 x0] 27 #[.bool false, .slice none 0 0, .int .i64 0] 27
 obtain ⟨q0, q0', q1, q1', q2, q2'⟩ := bc3 X0.out
 go_wp2_with fail
 clear q0 q0' q1 q1' q2 q2'
 go_at_call 44
 refine (QZ.out _ BEL.out.1).mono ?_
 rintro en1 w1 ⟨rfl, hb⟩
 replace BEL := yk (BEL.out.next hb)
 replace X0 := yk (yb X0.out hb)
 replace XR := yk (yb XR.out hb)
 clear hb
 obtain ⟨q3, q3', q4, q4', q5, q5'⟩ := bc3 X0.out
 go_wp2_with fail
 have BLI := BEL
 clear q3 q3' q4 q4' q5 q5'
 go_at_call 47
 refine (Q1.out _ BEL.out.1).mono ?_
 rintro en2 w2 ⟨v2, rfl, hr, hb⟩
 replace BEL := yk (BEL.out.next hb)
 replace X0 := yk (yb X0.out hb)
 replace XR := yk (yb XR.out hb)
 have P1 := yk hr
 obtain ⟨b2, A2, n2, c2, x2, rfl⟩ := hr.ex
 clear hr hb
 go_wp2_with (((with_reducible refine gate_store (p := 4) rfl ?_); go_must (refine sdy 4 (.tmp 35) rfl rfl rfl rfl rfl XR.out rfl ?_; intro wb HX HG)); replace P1 := yk (P1.out.grown_box XR.out (by decide) HG.out); replace BEL := yk (BEL.out.grown HG.out (by omega)); replace X0 := yk (blk_grown X0.out HG.out (by omega)); replace XR := HX; clear HG)
 refine bodyPost_ret (results_list (rs := [.cell 4 27, .tmp 5]) rfl (by simp) (Vals.box any_dyad info_dyad (g := w.heap.size + 1) rfl XR.out rfl (.tmp .nil))) rfl ?_
 exact ⟨_, rfl, P1.out.lower BLI.out.1.size, BEL.out.1⟩
theorem dval_turn {f : Nat} (hf : 16 ≤ f ∧ f ≤ 18) {v : Value} {z : Int} {w : World} (h : CDy w v z (-1074)) (hz : z.natAbs < 2 ^ 2098) (h0 : ¬ z = 0) :
 Calls Tryz.prog 20 #[.int .u8 f, v] w fun en w' => ∃ v', en = .returned (.tuple #[v', .bool (turnO f z : Option (Int × Int)).isSome]) ∧ DO w' w.heap.size v' (turnO f z) ∧ Below w.heap.size w w' := by
 obtain ⟨b0, A, n0, c, x0, rfl⟩ := h.ex
 have QZ := yk (fun (W : World) (hb : Below w.heap.size w W) => zero_nd ((h.below hb).nd (ok_z hz)))
 have hdz : decide (z = 0) = false := decide_eq_false h0
 have e0 : decide ((1 : Int) ≤ f) = true := decide_eq_true (by omega)
 have e1 : decide ((f : Int) ≤ 6) = false := decide_eq_false (by omega)
 have e2 : decide ((7 : Int) ≤ f) = true := decide_eq_true (by omega)
 have e3 : decide ((f : Int) ≤ 12) = false := decide_eq_false (by omega)
 have e4 : decide ((16 : Int) ≤ f) = true := decide_eq_true (by omega)
 have e5 : decide ((f : Int) ≤ 18) = true := decide_eq_true (by omega)
 have Q1 := yk (fun (W : World) (hb : Below w.heap.size w W) => dturns_any (f := f) (by omega) (h.below hb) hz)
 generalize turnO f z = O at *
 clear h hz h0 hf
 go_enter Tryz.func20, Tryz.ntmps20
 obtain ⟨BEL, X0, XR⟩ := al2 w 2 #[.bool b0, .slice A n0 c, .int .i64 x0] 27 #[.bool false, .slice none 0 0, .int .i64 0] 27
 obtain ⟨q0, q0', q1, q1', q2, q2'⟩ := bc3 X0.out
 go_wp2_with fail
 clear q0 q0' q1 q1' q2 q2'
 go_at_call 44
 refine (QZ.out _ BEL.out.1).mono ?_
 rintro en1 w1 ⟨rfl, hb⟩
 replace BEL := yk (BEL.out.next hb)
 replace X0 := yk (yb X0.out hb)
 replace XR := yk (yb XR.out hb)
 clear hb
 obtain ⟨q3, q3', q4, q4', q5, q5'⟩ := bc3 X0.out
 go_wp2_with fail
 have BLI := BEL
 clear q3 q3' q4 q4' q5 q5'
 go_at_call 48
 refine (Q1.out _ BEL.out.1).mono ?_
 rintro en2 w2 ⟨v2, rfl, hr, hb⟩
 replace BEL := yk (BEL.out.next hb)
 replace X0 := yk (yb X0.out hb)
 replace XR := yk (yb XR.out hb)
 have P1 := yk hr
 obtain ⟨b2, A2, n2, c2, x2, rfl⟩ := hr.ex
 clear hr hb
 go_wp2_with (((with_reducible refine gate_store (p := 4) rfl ?_); go_must (refine sdy 4 (.tmp 47) rfl rfl rfl rfl rfl XR.out rfl ?_; intro wb HX HG)); replace P1 := yk (P1.out.grown_box XR.out (by decide) HG.out); replace BEL := yk (BEL.out.grown HG.out (by omega)); replace X0 := yk (blk_grown X0.out HG.out (by omega)); replace XR := HX; clear HG)
 refine bodyPost_ret (results_list (rs := [.cell 4 27, .tmp 5]) rfl (by simp) (Vals.box any_dyad info_dyad (g := w.heap.size + 1) rfl XR.out rfl (.tmp .nil))) rfl ?_
 exact ⟨_, rfl, P1.out.lower BLI.out.1.size, BEL.out.1⟩
theorem dval_anga {f : Nat} (hf : 13 ≤ f ∧ f ≤ 15) {v : Value} {z : Int} {w : World} (h : CDy w v z (-1074)) (hz : z.natAbs < 2 ^ 2098) (h0 : ¬ z = 0) :
 Calls Tryz.prog 20 #[.int .u8 f, v] w fun en w' => ∃ v', en = .returned (.tuple #[v', .bool (if z = 1 * 2 ^ 1074 ∨ z = -1 * 2 ^ 1074 then angO f (decide (z < 0)) else none : Option (Int × Int)).isSome]) ∧ DO w' w.heap.size v' (if z = 1 * 2 ^ 1074 ∨ z = -1 * 2 ^ 1074 then angO f (decide (z < 0)) else none) ∧ Below w.heap.size w w' := by
 obtain ⟨b0, A, n0, c, x0, rfl⟩ := h.ex
 have QZ := yk (fun (W : World) (hb : Below w.heap.size w W) => zero_nd ((h.below hb).nd (ok_z hz)))
 have hdz : decide (z = 0) = false := decide_eq_false h0
 have e0 : decide ((1 : Int) ≤ f) = true := decide_eq_true (by omega)
 have e1 : decide ((f : Int) ≤ 6) = false := decide_eq_false (by omega)
 have e2 : decide ((7 : Int) ≤ f) = true := decide_eq_true (by omega)
 have e3 : decide ((f : Int) ≤ 12) = false := decide_eq_false (by omega)
 have e4 : decide ((16 : Int) ≤ f) = false := decide_eq_false (by omega)
 have OZ := ok_z hz
 have QP := yk (fun (W : World) (hb : Below w.heap.size w W) => dord_any 1 ((h.below hb).nd OZ) OZ (by decide))
 have QN := yk (fun (W : World) (hb : Below w.heap.size w W) => dord_any (-1) ((h.below hb).nd OZ) OZ (by decide))
 have Q0 := yk (fun (W : World) (hb : Below w.heap.size w W) => dord_any 0 ((h.below hb).nd OZ) OZ (by decide))
 obtain ⟨t1, ht1⟩ : ∃ q, q = decide (z = 1 * 2 ^ 1074) := ⟨_, rfl⟩
 obtain ⟨t2, ht2⟩ : ∃ q, q = decide (z = -1 * 2 ^ 1074) := ⟨_, rfl⟩
 have HS1 := yk (show (sgnI (z - 1 * 2 ^ 1074) == 0) = t1 by rw [sgn_eq0, ht1]; exact decide_eq_decide.2 (by omega))
 have HS2 := yk (show (sgnI (z - -1 * 2 ^ 1074) == 0) = t2 by rw [sgn_eq0, ht2]; exact decide_eq_decide.2 (by omega))
 obtain ⟨ng, hng⟩ : ∃ q, q = decide (z < 0) := ⟨_, rfl⟩
 have HS0 := yk (show decide (sgnI (z - 0 * 2 ^ 1074) < 0) = ng by rw [sgn_dlt, hng]; exact decide_eq_decide.2 (by omega))
 have HO := yk (show (if z = 1 * 2 ^ 1074 ∨ z = -1 * 2 ^ 1074 then angO f (decide (z < 0)) else none) = if (t1 || t2) = true then angO f ng else none by
  rw [ht1, ht2, ← hng]
  by_cases q : z = 1 * 2 ^ 1074 ∨ z = -1 * 2 ^ 1074
  · rw [if_pos q, if_pos (by rw [← Bool.decide_or]; exact decide_eq_true q)]
  · rw [if_neg q, if_neg (by rw [← Bool.decide_or, decide_eq_false q]; decide)])
 have QA := yk (fun (W : World) => dangles_any f ng W)
 generalize sgnI (z - 1 * 2 ^ 1074) = s1 at *
 generalize sgnI (z - -1 * 2 ^ 1074) = s2 at *
 generalize sgnI (z - 0 * 2 ^ 1074) = s0 at *
 rw [HO.out]
 obtain ⟨O, hO⟩ : ∃ O, O = if (t1 || t2) = true then angO f ng else none := ⟨_, rfl⟩
 rw [← hO]
 replace HO := yk hO
 clear hf h hz h0 OZ ht1 ht2 hng hO
 go_enter Tryz.func20, Tryz.ntmps20
 obtain ⟨BEL, X0, XR⟩ := al2 w 2 #[.bool b0, .slice A n0 c, .int .i64 x0] 27 #[.bool false, .slice none 0 0, .int .i64 0] 27
 obtain ⟨q0, q0', q1, q1', q2, q2'⟩ := bc3 X0.out
 go_wp2_with fail
 clear q0 q0' q1 q1' q2 q2'
 go_at_call 44
 refine (QZ.out _ BEL.out.1).mono ?_
 rintro en1 w1 ⟨rfl, hb⟩
 replace BEL := yk (BEL.out.next hb)
 replace X0 := yk (yb X0.out hb)
 replace XR := yk (yb XR.out hb)
 clear hb
 obtain ⟨q3, q3', q4, q4', q5, q5'⟩ := bc3 X0.out
 go_wp2_with fail
 clear q3 q3' q4 q4' q5 q5'
 go_at_call 25
 refine (QP.out _ BEL.out.1).mono ?_
 rintro en2 w2 ⟨rfl, hb⟩
 replace BEL := yk (BEL.out.next hb)
 replace X0 := yk (yb X0.out hb)
 replace XR := yk (yb XR.out hb)
 clear hb
 have hs1 := HS1.out
 cases t1
 case true =>
  skip
  have hs0 := HS0.out
  have HOO : Aside0 (O = angO f ng) := ⟨by rw [HO.out]; simp⟩
  clear HO
  generalize angO f ng = O2 at *
  cases ng
  case false =>
   clear hs0
   obtain ⟨q6, q6', q7, q7', q8, q8'⟩ := bc3 X0.out
   go_wp2_with fail
   clear q6 q6' q7 q7' q8 q8'
   go_at_call 25
   refine (Q0.out _ BEL.out.1).mono ?_
   rintro en3 w3 ⟨rfl, hb⟩
   replace BEL := yk (BEL.out.next hb)
   replace X0 := yk (yb X0.out hb)
   replace XR := yk (yb XR.out hb)
   clear hb
   have hs0 := HS0.out
   go_wp2_with fail
   have BLI := BEL
   go_at_call 49
   refine (QA.out _).mono ?_
   rintro en4 w4 ⟨v4, rfl, hr, hb⟩
   replace BEL := yk (BEL.out.next hb)
   replace X0 := yk (yb X0.out hb)
   replace XR := yk (yb XR.out hb)
   have P1 := yk hr
   obtain ⟨b4, A4, n4, c4, x4, rfl⟩ := hr.ex
   clear hr hb
   go_wp2_with (((with_reducible refine gate_store (p := 4) rfl ?_); go_must (refine sdy 4 (.tmp 63) rfl rfl rfl rfl rfl XR.out rfl ?_; intro wb HX HG)); replace P1 := yk (P1.out.grown_box XR.out (by decide) HG.out); replace BEL := yk (BEL.out.grown HG.out (by omega)); replace X0 := yk (blk_grown X0.out HG.out (by omega)); replace XR := HX; clear HG)
   rw [HOO.out]
   refine bodyPost_ret (results_list (rs := [.cell 4 27, .tmp 5]) rfl (by simp) (Vals.box any_dyad info_dyad (g := w.heap.size + 1) rfl XR.out rfl (.tmp .nil))) rfl ?_
   exact ⟨_, rfl, P1.out.lower BLI.out.1.size, BEL.out.1⟩
  case true =>
   clear hs0
   obtain ⟨q6, q6', q7, q7', q8, q8'⟩ := bc3 X0.out
   go_wp2_with fail
   clear q6 q6' q7 q7' q8 q8'
   go_at_call 25
   refine (Q0.out _ BEL.out.1).mono ?_
   rintro en3 w3 ⟨rfl, hb⟩
   replace BEL := yk (BEL.out.next hb)
   replace X0 := yk (yb X0.out hb)
   replace XR := yk (yb XR.out hb)
   clear hb
   have hs0 := HS0.out
   go_wp2_with fail
   have BLI := BEL
   go_at_call 49
   refine (QA.out _).mono ?_
   rintro en4 w4 ⟨v4, rfl, hr, hb⟩
   replace BEL := yk (BEL.out.next hb)
   replace X0 := yk (yb X0.out hb)
   replace XR := yk (yb XR.out hb)
   have P1 := yk hr
   obtain ⟨b4, A4, n4, c4, x4, rfl⟩ := hr.ex
   clear hr hb
   go_wp2_with (((with_reducible refine gate_store (p := 4) rfl ?_); go_must (refine sdy 4 (.tmp 63) rfl rfl rfl rfl rfl XR.out rfl ?_; intro wb HX HG)); replace P1 := yk (P1.out.grown_box XR.out (by decide) HG.out); replace BEL := yk (BEL.out.grown HG.out (by omega)); replace X0 := yk (blk_grown X0.out HG.out (by omega)); replace XR := HX; clear HG)
   rw [HOO.out]
   refine bodyPost_ret (results_list (rs := [.cell 4 27, .tmp 5]) rfl (by simp) (Vals.box any_dyad info_dyad (g := w.heap.size + 1) rfl XR.out rfl (.tmp .nil))) rfl ?_
   exact ⟨_, rfl, P1.out.lower BLI.out.1.size, BEL.out.1⟩
 case false =>
  skip
  obtain ⟨q6, q6', q7, q7', q8, q8'⟩ := bc3 X0.out
  go_wp2_with fail
  clear q6 q6' q7 q7' q8 q8'
  go_at_call 25
  refine (QN.out _ BEL.out.1).mono ?_
  rintro en3 w3 ⟨rfl, hb⟩
  replace BEL := yk (BEL.out.next hb)
  replace X0 := yk (yb X0.out hb)
  replace XR := yk (yb XR.out hb)
  clear hb
  have hs2 := HS2.out
  cases t2
  case true =>
   skip
   have hs0 := HS0.out
   have HOO : Aside0 (O = angO f ng) := ⟨by rw [HO.out]; simp⟩
   clear HO
   generalize angO f ng = O2 at *
   cases ng
   case false =>
    clear hs0
    obtain ⟨q9, q9', q10, q10', q11, q11'⟩ := bc3 X0.out
    go_wp2_with fail
    clear q9 q9' q10 q10' q11 q11'
    go_at_call 25
    refine (Q0.out _ BEL.out.1).mono ?_
    rintro en4 w4 ⟨rfl, hb⟩
    replace BEL := yk (BEL.out.next hb)
    replace X0 := yk (yb X0.out hb)
    replace XR := yk (yb XR.out hb)
    clear hb
    have hs0 := HS0.out
    go_wp2_with fail
    have BLI := BEL
    go_at_call 49
    refine (QA.out _).mono ?_
    rintro en5 w5 ⟨v5, rfl, hr, hb⟩
    replace BEL := yk (BEL.out.next hb)
    replace X0 := yk (yb X0.out hb)
    replace XR := yk (yb XR.out hb)
    have P1 := yk hr
    obtain ⟨b5, A5, n5, c5, x5, rfl⟩ := hr.ex
    clear hr hb
    go_wp2_with (((with_reducible refine gate_store (p := 4) rfl ?_); go_must (refine sdy 4 (.tmp 63) rfl rfl rfl rfl rfl XR.out rfl ?_; intro wb HX HG)); replace P1 := yk (P1.out.grown_box XR.out (by decide) HG.out); replace BEL := yk (BEL.out.grown HG.out (by omega)); replace X0 := yk (blk_grown X0.out HG.out (by omega)); replace XR := HX; clear HG)
    rw [HOO.out]
    refine bodyPost_ret (results_list (rs := [.cell 4 27, .tmp 5]) rfl (by simp) (Vals.box any_dyad info_dyad (g := w.heap.size + 1) rfl XR.out rfl (.tmp .nil))) rfl ?_
    exact ⟨_, rfl, P1.out.lower BLI.out.1.size, BEL.out.1⟩
   case true =>
    clear hs0
    obtain ⟨q9, q9', q10, q10', q11, q11'⟩ := bc3 X0.out
    go_wp2_with fail
    clear q9 q9' q10 q10' q11 q11'
    go_at_call 25
    refine (Q0.out _ BEL.out.1).mono ?_
    rintro en4 w4 ⟨rfl, hb⟩
    replace BEL := yk (BEL.out.next hb)
    replace X0 := yk (yb X0.out hb)
    replace XR := yk (yb XR.out hb)
    clear hb
    have hs0 := HS0.out
    go_wp2_with fail
    have BLI := BEL
    go_at_call 49
    refine (QA.out _).mono ?_
    rintro en5 w5 ⟨v5, rfl, hr, hb⟩
    replace BEL := yk (BEL.out.next hb)
    replace X0 := yk (yb X0.out hb)
    replace XR := yk (yb XR.out hb)
    have P1 := yk hr
    obtain ⟨b5, A5, n5, c5, x5, rfl⟩ := hr.ex
    clear hr hb
    go_wp2_with (((with_reducible refine gate_store (p := 4) rfl ?_); go_must (refine sdy 4 (.tmp 63) rfl rfl rfl rfl rfl XR.out rfl ?_; intro wb HX HG)); replace P1 := yk (P1.out.grown_box XR.out (by decide) HG.out); replace BEL := yk (BEL.out.grown HG.out (by omega)); replace X0 := yk (blk_grown X0.out HG.out (by omega)); replace XR := HX; clear HG)
    rw [HOO.out]
    refine bodyPost_ret (results_list (rs := [.cell 4 27, .tmp 5]) rfl (by simp) (Vals.box any_dyad info_dyad (g := w.heap.size + 1) rfl XR.out rfl (.tmp .nil))) rfl ?_
    exact ⟨_, rfl, P1.out.lower BLI.out.1.size, BEL.out.1⟩
  case false =>
   have HOO : Aside0 (O = none) := ⟨by rw [HO.out]; simp⟩
   go_wp2_with (((with_reducible refine gate_store (p := 4) rfl ?_); go_must (refine sdy 4 (.tmp 65) rfl rfl rfl rfl rfl XR.out rfl ?_; intro wb HX HG)); replace BEL := yk (BEL.out.grown HG.out (by omega)); replace X0 := yk (blk_grown X0.out HG.out (by omega)); replace XR := HX; clear HG)
   rw [HOO.out]
   refine bodyPost_ret (results_list (rs := [.cell 4 27, .tmp 5]) rfl (by simp) (Vals.box any_dyad info_dyad (g := w.heap.size + 1) rfl XR.out rfl (.tmp .nil))) rfl ?_
   exact ⟨_, rfl, RDy.zero _ _ _, BEL.out.1⟩
theorem dval_angb {f : Nat} (hf : 19 ≤ f) {v : Value} {z : Int} {w : World} (h : CDy w v z (-1074)) (hz : z.natAbs < 2 ^ 2098) (h0 : ¬ z = 0) :
 Calls Tryz.prog 20 #[.int .u8 f, v] w fun en w' => ∃ v', en = .returned (.tuple #[v', .bool (if z = 1 * 2 ^ 1074 ∨ z = -1 * 2 ^ 1074 then angO f (decide (z < 0)) else none : Option (Int × Int)).isSome]) ∧ DO w' w.heap.size v' (if z = 1 * 2 ^ 1074 ∨ z = -1 * 2 ^ 1074 then angO f (decide (z < 0)) else none) ∧ Below w.heap.size w w' := by
 obtain ⟨b0, A, n0, c, x0, rfl⟩ := h.ex
 have QZ := yk (fun (W : World) (hb : Below w.heap.size w W) => zero_nd ((h.below hb).nd (ok_z hz)))
 have hdz : decide (z = 0) = false := decide_eq_false h0
 have e0 : decide ((1 : Int) ≤ f) = true := decide_eq_true (by omega)
 have e1 : decide ((f : Int) ≤ 6) = false := decide_eq_false (by omega)
 have e2 : decide ((7 : Int) ≤ f) = true := decide_eq_true (by omega)
 have e3 : decide ((f : Int) ≤ 12) = false := decide_eq_false (by omega)
 have e4 : decide ((16 : Int) ≤ f) = true := decide_eq_true (by omega)
 have e5 : decide ((f : Int) ≤ 18) = false := decide_eq_false (by omega)
 have OZ := ok_z hz
 have QP := yk (fun (W : World) (hb : Below w.heap.size w W) => dord_any 1 ((h.below hb).nd OZ) OZ (by decide))
 have QN := yk (fun (W : World) (hb : Below w.heap.size w W) => dord_any (-1) ((h.below hb).nd OZ) OZ (by decide))
 have Q0 := yk (fun (W : World) (hb : Below w.heap.size w W) => dord_any 0 ((h.below hb).nd OZ) OZ (by decide))
 obtain ⟨t1, ht1⟩ : ∃ q, q = decide (z = 1 * 2 ^ 1074) := ⟨_, rfl⟩
 obtain ⟨t2, ht2⟩ : ∃ q, q = decide (z = -1 * 2 ^ 1074) := ⟨_, rfl⟩
 have HS1 := yk (show (sgnI (z - 1 * 2 ^ 1074) == 0) = t1 by rw [sgn_eq0, ht1]; exact decide_eq_decide.2 (by omega))
 have HS2 := yk (show (sgnI (z - -1 * 2 ^ 1074) == 0) = t2 by rw [sgn_eq0, ht2]; exact decide_eq_decide.2 (by omega))
 obtain ⟨ng, hng⟩ : ∃ q, q = decide (z < 0) := ⟨_, rfl⟩
 have HS0 := yk (show decide (sgnI (z - 0 * 2 ^ 1074) < 0) = ng by rw [sgn_dlt, hng]; exact decide_eq_decide.2 (by omega))
 have HO := yk (show (if z = 1 * 2 ^ 1074 ∨ z = -1 * 2 ^ 1074 then angO f (decide (z < 0)) else none) = if (t1 || t2) = true then angO f ng else none by
  rw [ht1, ht2, ← hng]
  by_cases q : z = 1 * 2 ^ 1074 ∨ z = -1 * 2 ^ 1074
  · rw [if_pos q, if_pos (by rw [← Bool.decide_or]; exact decide_eq_true q)]
  · rw [if_neg q, if_neg (by rw [← Bool.decide_or, decide_eq_false q]; decide)])
 have QA := yk (fun (W : World) => dangles_any f ng W)
 generalize sgnI (z - 1 * 2 ^ 1074) = s1 at *
 generalize sgnI (z - -1 * 2 ^ 1074) = s2 at *
 generalize sgnI (z - 0 * 2 ^ 1074) = s0 at *
 rw [HO.out]
 obtain ⟨O, hO⟩ : ∃ O, O = if (t1 || t2) = true then angO f ng else none := ⟨_, rfl⟩
 rw [← hO]
 replace HO := yk hO
 clear hf h hz h0 OZ ht1 ht2 hng hO
 go_enter Tryz.func20, Tryz.ntmps20
 obtain ⟨BEL, X0, XR⟩ := al2 w 2 #[.bool b0, .slice A n0 c, .int .i64 x0] 27 #[.bool false, .slice none 0 0, .int .i64 0] 27
 obtain ⟨q0, q0', q1, q1', q2, q2'⟩ := bc3 X0.out
 go_wp2_with fail
 clear q0 q0' q1 q1' q2 q2'
 go_at_call 44
 refine (QZ.out _ BEL.out.1).mono ?_
 rintro en1 w1 ⟨rfl, hb⟩
 replace BEL := yk (BEL.out.next hb)
 replace X0 := yk (yb X0.out hb)
 replace XR := yk (yb XR.out hb)
 clear hb
 obtain ⟨q3, q3', q4, q4', q5, q5'⟩ := bc3 X0.out
 go_wp2_with fail
 clear q3 q3' q4 q4' q5 q5'
 go_at_call 25
 refine (QP.out _ BEL.out.1).mono ?_
 rintro en2 w2 ⟨rfl, hb⟩
 replace BEL := yk (BEL.out.next hb)
 replace X0 := yk (yb X0.out hb)
 replace XR := yk (yb XR.out hb)
 clear hb
 have hs1 := HS1.out
 cases t1
 case true =>
  skip
  have hs0 := HS0.out
  have HOO : Aside0 (O = angO f ng) := ⟨by rw [HO.out]; simp⟩
  clear HO
  generalize angO f ng = O2 at *
  cases ng
  case false =>
   clear hs0
   obtain ⟨q6, q6', q7, q7', q8, q8'⟩ := bc3 X0.out
   go_wp2_with fail
   clear q6 q6' q7 q7' q8 q8'
   go_at_call 25
   refine (Q0.out _ BEL.out.1).mono ?_
   rintro en3 w3 ⟨rfl, hb⟩
   replace BEL := yk (BEL.out.next hb)
   replace X0 := yk (yb X0.out hb)
   replace XR := yk (yb XR.out hb)
   clear hb
   have hs0 := HS0.out
   go_wp2_with fail
   have BLI := BEL
   go_at_call 49
   refine (QA.out _).mono ?_
   rintro en4 w4 ⟨v4, rfl, hr, hb⟩
   replace BEL := yk (BEL.out.next hb)
   replace X0 := yk (yb X0.out hb)
   replace XR := yk (yb XR.out hb)
   have P1 := yk hr
   obtain ⟨b4, A4, n4, c4, x4, rfl⟩ := hr.ex
   clear hr hb
   go_wp2_with (((with_reducible refine gate_store (p := 4) rfl ?_); go_must (refine sdy 4 (.tmp 63) rfl rfl rfl rfl rfl XR.out rfl ?_; intro wb HX HG)); replace P1 := yk (P1.out.grown_box XR.out (by decide) HG.out); replace BEL := yk (BEL.out.grown HG.out (by omega)); replace X0 := yk (blk_grown X0.out HG.out (by omega)); replace XR := HX; clear HG)
   rw [HOO.out]
   refine bodyPost_ret (results_list (rs := [.cell 4 27, .tmp 5]) rfl (by simp) (Vals.box any_dyad info_dyad (g := w.heap.size + 1) rfl XR.out rfl (.tmp .nil))) rfl ?_
   exact ⟨_, rfl, P1.out.lower BLI.out.1.size, BEL.out.1⟩
  case true =>
   clear hs0
   obtain ⟨q6, q6', q7, q7', q8, q8'⟩ := bc3 X0.out
   go_wp2_with fail
   clear q6 q6' q7 q7' q8 q8'
   go_at_call 25
   refine (Q0.out _ BEL.out.1).mono ?_
   rintro en3 w3 ⟨rfl, hb⟩
   replace BEL := yk (BEL.out.next hb)
   replace X0 := yk (yb X0.out hb)
   replace XR := yk (yb XR.out hb)
   clear hb
   have hs0 := HS0.out
   go_wp2_with fail
   have BLI := BEL
   go_at_call 49
   refine (QA.out _).mono ?_
   rintro en4 w4 ⟨v4, rfl, hr, hb⟩
   replace BEL := yk (BEL.out.next hb)
   replace X0 := yk (yb X0.out hb)
   replace XR := yk (yb XR.out hb)
   have P1 := yk hr
   obtain ⟨b4, A4, n4, c4, x4, rfl⟩ := hr.ex
   clear hr hb
   go_wp2_with (((with_reducible refine gate_store (p := 4) rfl ?_); go_must (refine sdy 4 (.tmp 63) rfl rfl rfl rfl rfl XR.out rfl ?_; intro wb HX HG)); replace P1 := yk (P1.out.grown_box XR.out (by decide) HG.out); replace BEL := yk (BEL.out.grown HG.out (by omega)); replace X0 := yk (blk_grown X0.out HG.out (by omega)); replace XR := HX; clear HG)
   rw [HOO.out]
   refine bodyPost_ret (results_list (rs := [.cell 4 27, .tmp 5]) rfl (by simp) (Vals.box any_dyad info_dyad (g := w.heap.size + 1) rfl XR.out rfl (.tmp .nil))) rfl ?_
   exact ⟨_, rfl, P1.out.lower BLI.out.1.size, BEL.out.1⟩
 case false =>
  skip
  obtain ⟨q6, q6', q7, q7', q8, q8'⟩ := bc3 X0.out
  go_wp2_with fail
  clear q6 q6' q7 q7' q8 q8'
  go_at_call 25
  refine (QN.out _ BEL.out.1).mono ?_
  rintro en3 w3 ⟨rfl, hb⟩
  replace BEL := yk (BEL.out.next hb)
  replace X0 := yk (yb X0.out hb)
  replace XR := yk (yb XR.out hb)
  clear hb
  have hs2 := HS2.out
  cases t2
  case true =>
   skip
   have hs0 := HS0.out
   have HOO : Aside0 (O = angO f ng) := ⟨by rw [HO.out]; simp⟩
   clear HO
   generalize angO f ng = O2 at *
   cases ng
   case false =>
    clear hs0
    obtain ⟨q9, q9', q10, q10', q11, q11'⟩ := bc3 X0.out
    go_wp2_with fail
    clear q9 q9' q10 q10' q11 q11'
    go_at_call 25
    refine (Q0.out _ BEL.out.1).mono ?_
    rintro en4 w4 ⟨rfl, hb⟩
    replace BEL := yk (BEL.out.next hb)
    replace X0 := yk (yb X0.out hb)
    replace XR := yk (yb XR.out hb)
    clear hb
    have hs0 := HS0.out
    go_wp2_with fail
    have BLI := BEL
    go_at_call 49
    refine (QA.out _).mono ?_
    rintro en5 w5 ⟨v5, rfl, hr, hb⟩
    replace BEL := yk (BEL.out.next hb)
    replace X0 := yk (yb X0.out hb)
    replace XR := yk (yb XR.out hb)
    have P1 := yk hr
    obtain ⟨b5, A5, n5, c5, x5, rfl⟩ := hr.ex
    clear hr hb
    go_wp2_with (((with_reducible refine gate_store (p := 4) rfl ?_); go_must (refine sdy 4 (.tmp 63) rfl rfl rfl rfl rfl XR.out rfl ?_; intro wb HX HG)); replace P1 := yk (P1.out.grown_box XR.out (by decide) HG.out); replace BEL := yk (BEL.out.grown HG.out (by omega)); replace X0 := yk (blk_grown X0.out HG.out (by omega)); replace XR := HX; clear HG)
    rw [HOO.out]
    refine bodyPost_ret (results_list (rs := [.cell 4 27, .tmp 5]) rfl (by simp) (Vals.box any_dyad info_dyad (g := w.heap.size + 1) rfl XR.out rfl (.tmp .nil))) rfl ?_
    exact ⟨_, rfl, P1.out.lower BLI.out.1.size, BEL.out.1⟩
   case true =>
    clear hs0
    obtain ⟨q9, q9', q10, q10', q11, q11'⟩ := bc3 X0.out
    go_wp2_with fail
    clear q9 q9' q10 q10' q11 q11'
    go_at_call 25
    refine (Q0.out _ BEL.out.1).mono ?_
    rintro en4 w4 ⟨rfl, hb⟩
    replace BEL := yk (BEL.out.next hb)
    replace X0 := yk (yb X0.out hb)
    replace XR := yk (yb XR.out hb)
    clear hb
    have hs0 := HS0.out
    go_wp2_with fail
    have BLI := BEL
    go_at_call 49
    refine (QA.out _).mono ?_
    rintro en5 w5 ⟨v5, rfl, hr, hb⟩
    replace BEL := yk (BEL.out.next hb)
    replace X0 := yk (yb X0.out hb)
    replace XR := yk (yb XR.out hb)
    have P1 := yk hr
    obtain ⟨b5, A5, n5, c5, x5, rfl⟩ := hr.ex
    clear hr hb
    go_wp2_with (((with_reducible refine gate_store (p := 4) rfl ?_); go_must (refine sdy 4 (.tmp 63) rfl rfl rfl rfl rfl XR.out rfl ?_; intro wb HX HG)); replace P1 := yk (P1.out.grown_box XR.out (by decide) HG.out); replace BEL := yk (BEL.out.grown HG.out (by omega)); replace X0 := yk (blk_grown X0.out HG.out (by omega)); replace XR := HX; clear HG)
    rw [HOO.out]
    refine bodyPost_ret (results_list (rs := [.cell 4 27, .tmp 5]) rfl (by simp) (Vals.box any_dyad info_dyad (g := w.heap.size + 1) rfl XR.out rfl (.tmp .nil))) rfl ?_
    exact ⟨_, rfl, P1.out.lower BLI.out.1.size, BEL.out.1⟩
  case false =>
   have HOO : Aside0 (O = none) := ⟨by rw [HO.out]; simp⟩
   go_wp2_with (((with_reducible refine gate_store (p := 4) rfl ?_); go_must (refine sdy 4 (.tmp 65) rfl rfl rfl rfl rfl XR.out rfl ?_; intro wb HX HG)); replace BEL := yk (BEL.out.grown HG.out (by omega)); replace X0 := yk (blk_grown X0.out HG.out (by omega)); replace XR := HX; clear HG)
   rw [HOO.out]
   refine bodyPost_ret (results_list (rs := [.cell 4 27, .tmp 5]) rfl (by simp) (Vals.box any_dyad info_dyad (g := w.heap.size + 1) rfl XR.out rfl (.tmp .nil))) rfl ?_
   exact ⟨_, rfl, RDy.zero _ _ _, BEL.out.1⟩
theorem dvalue_any {f : Nat} (h1 : 1 ≤ f) (h2 : f ≤ 30) {v : Value} {z : Int} {w : World} (h : CDy w v z (-1074)) (hz : z.natAbs < 2 ^ 2098) (hd : insideF f z = true) :
 Calls Tryz.prog 20 #[.int .u8 f, v] w fun en w' => ∃ v', en = .returned (.tuple #[v', .bool (caseG f z).isSome]) ∧ DO w' w.heap.size v' (caseG f z) ∧ Below w.heap.size w w' := by
 rw [← val_case h1 h2 hd]
 unfold valO
 by_cases h0 : z = 0
 · rw [if_pos h0]; exact dval_zero h hz h0
 rw [if_neg h0]
 by_cases a : f ≤ 6
 · rw [if_pos a]; exact dval_pow ⟨h1, a⟩ h hz h0
 rw [if_neg a]
 by_cases b : f ≤ 12
 · rw [if_pos b]
   refine dval_log ⟨by omega, b⟩ h hz h0 ?_
   unfold insideF at hd
   unfold logT
   by_cases c : 10 ≤ f
   · rw [if_neg (by omega), if_pos (by omega)] at hd
     rw [if_pos c]
     have := of_decide_eq_true hd
     rw [Int.neg_mul] at this; omega
   · rw [if_pos (by omega)] at hd
     rw [if_neg c]
     exact of_decide_eq_true hd
 rw [if_neg b]
 by_cases c : 16 ≤ f ∧ f ≤ 18
 · rw [if_pos c]; exact dval_turn c h hz h0
 rw [if_neg c]
 by_cases d : f ≤ 15
 · exact dval_anga ⟨by omega, d⟩ h hz h0
 · exact dval_angb (by omega) h hz h0

theorem dexact_any (f x : Nat) (hf : f < 256) (hx : x < 18446744073709551616) (w : World) :
 Calls Tryz.prog 6 #[.int .u8 f, .int .u64 (x : Int)] w fun en w' => ∃ v', en = .returned (.tuple #[v', .bool (exO f x).isSome, .int .i64 (exE f x)]) ∧ RDy w' w.heap.size v' ((exO f x).getD (0, 0)).1 ((exO f x).getD (0, 0)).2 ∧ Below w.heap.size w w' := by
 have QFr := yk (fun (W : World) => dfrom_any x hx W)
 have QD := yk (fun (W : World) => ddomain_any f x hf hx W)
 have QIs := yk (fun (W : World) => dis_one f hf W)
 have HE := yk (show exE f x = if isF f = true then (if domF f x = true then 0 else 5) else 2 from rfl)
 have HO := yk (show exO f x = if isF f = true ∧ domF f x = true then caseG f (fromV x) else none from rfl)
 have HFin := yk (show domF f x = true → finB x = true from fun h => by
  unfold domF at h
  simp only [Bool.and_eq_true] at h
  exact h.1.2)
 have QV := yk (fun (hi : isF f = true) (hd : domF f x = true) (W : World) (u : Value) (hu : CDy W u (fromV x) (-1074)) => dvalue_any (isF_range hi).1 (isF_range hi).2 hu (fromV_small x) (by
  unfold domF at hd
  simp only [Bool.and_eq_true] at hd
  exact hd.2))
 obtain ⟨eo, heo⟩ : ∃ o, o = exO f x := ⟨_, rfl⟩
 obtain ⟨ee, hee⟩ : ∃ o, o = exE f x := ⟨_, rfl⟩
 rw [← heo] at HO ⊢
 rw [← hee] at HE ⊢
 clear hf hx heo hee
 generalize fromV x = z at *
 generalize isF f = isf at *
 generalize domF f x = dom at *
 generalize finB x = fin at *
 go_enter Tryz.func6, Tryz.ntmps6
 obtain ⟨BEL, XR⟩ := al1 w 1 #[.bool false, .slice none 0 0, .int .i64 0] 27
 go_wp2_with fail
 go_at_call 10
 refine (QIs.out _).mono ?_
 rintro en1 w1 ⟨rfl, hb⟩
 replace BEL := yk (BEL.out.next hb)
 replace XR := yk (yb XR.out hb)
 clear hb
 cases isf
 case false =>
  have HEE : Aside0 (ee = 2) := ⟨by rw [HE.out]; rfl⟩
  have HOO : Aside0 (eo = none) := ⟨by rw [HO.out, if_neg (fun h => by cases h.1)]⟩
  go_wp2_with (((with_reducible refine gate_store (p := 4) rfl ?_); go_must (refine sdy 4 (.tmp 14) rfl rfl rfl rfl rfl XR.out rfl ?_; intro wb HX HG)); replace BEL := yk (BEL.out.grown HG.out (by omega)); replace XR := HX; clear HG)
  refine bodyPost_ret (results_list (rs := [.cell 4 27, .tmp 5, .tmp 6]) rfl (by simp) (Vals.box any_dyad info_dyad (g := w.heap.size) rfl XR.out rfl (.tmp (.tmp .nil)))) rfl ?_
  rw [HEE.out, HOO.out]
  exact ⟨_, rfl, RDy.zero _ _ _, BEL.out.1⟩
 case true =>
  go_wp2_with fail
  go_at_call 14
  refine (QD.out _).mono ?_
  rintro en2 w2 ⟨rfl, hb⟩
  replace BEL := yk (BEL.out.next hb)
  replace XR := yk (yb XR.out hb)
  clear hb
  cases dom
  case false =>
   have HEE : Aside0 (ee = 5) := ⟨by rw [HE.out]; rfl⟩
   have HOO : Aside0 (eo = none) := ⟨by rw [HO.out, if_neg (fun h => by cases h.2)]⟩
   go_wp2_with (((with_reducible refine gate_store (p := 4) rfl ?_); go_must (refine sdy 4 (.tmp 19) rfl rfl rfl rfl rfl XR.out rfl ?_; intro wb HX HG)); replace BEL := yk (BEL.out.grown HG.out (by omega)); replace XR := HX; clear HG)
   refine bodyPost_ret (results_list (rs := [.cell 4 27, .tmp 5, .tmp 6]) rfl (by simp) (Vals.box any_dyad info_dyad (g := w.heap.size) rfl XR.out rfl (.tmp (.tmp .nil)))) rfl ?_
   rw [HEE.out, HOO.out]
   exact ⟨_, rfl, RDy.zero _ _ _, BEL.out.1⟩
  case true =>
   have HEE : Aside0 (ee = 0) := ⟨by rw [HE.out]; rfl⟩
   have HOO : Aside0 (eo = caseG f z) := ⟨by rw [HO.out, if_pos (by simp)]⟩
   go_wp2_with fail
   go_at_call 19
   refine (QFr.out _).mono ?_
   rintro en3 w3 ⟨v3, rfl, hr, hb⟩
   replace BEL := yk (BEL.out.next hb)
   replace XR := yk (yb XR.out hb)
   have P1 := yk hr
   obtain ⟨b3, A3, n3, c3, x3, rfl⟩ := hr.ex
   clear hr hb
   have BELo := BEL
   go_wp2_with (replace BEL := yk ((BEL.out.alloc (.cells #[.bool false, .slice none 0 0, .int .i64 0] 27)).less (j := 1) (by omega)); have HN := yk (blk_new w3 (.cells #[.bool false, .slice none 0 0, .int .i64 0] 27)); have L_XR := lt_blk XR.out; replace XR := yk (blk_alloc XR.out (.cells #[.bool false, .slice none 0 0, .int .i64 0] 27)); replace P1 := yk (P1.out.below (below_alloc yr (.cells #[.bool false, .slice none 0 0, .int .i64 0] 27))); ((with_reducible refine gate_store (p := 7) rfl ?_); go_must (refine sdy 7 (.tmp 23) rfl rfl rfl rfl rfl HN.out rfl ?_; intro wb HX HG)); replace P1 := yk (P1.out.grown_box HN.out (by decide) HG.out); have LB_XD := BELo.out.2; replace BEL := yk (BEL.out.grown HG.out (Nat.le_trans (Nat.le_add_right _ _) LB_XD)); replace XR := yk (blk_grown XR.out HG.out (Nat.ne_of_lt L_XR)); have NE_XR_XD := yk (Nat.ne_of_lt L_XR); clear L_XR; have LL_XD := yk LB_XD; clear LB_XD; have XD := HX; clear HG HN HX; obtain ⟨q0, q0', q1, q1', q2, q2'⟩ := bc3 XD.out)
   have BLI := BEL
   clear q0 q0' q1 q1' q2 q2'
   go_at_call 20
   refine (QV.out (by simp) (by simp) _ _ P1.out.c).mono ?_
   rintro en4 w4 ⟨v4, rfl, hr, hb⟩
   replace BEL := yk (BEL.out.next hb)
   replace XR := yk (yb XR.out hb)
   replace XD := yk (yb XD.out hb)
   replace P1 := yk (P1.out.below hb)
   have P2 := yk hr
   obtain ⟨b4, A4, n4, c4, x4, rfl⟩ := hr.ex
   clear hr hb
   have BELo := BEL
   go_wp2_with (first | (replace BEL := yk ((BEL.out.alloc (.cells #[.bool false, .slice none 0 0, .int .i64 0] 27)).less (j := 1) (by omega)); have HN := yk (blk_new w4 (.cells #[.bool false, .slice none 0 0, .int .i64 0] 27)); have L_XR := lt_blk XR.out; replace XR := yk (blk_alloc XR.out (.cells #[.bool false, .slice none 0 0, .int .i64 0] 27)); have L_XD := lt_blk XD.out; replace XD := yk (blk_alloc XD.out (.cells #[.bool false, .slice none 0 0, .int .i64 0] 27)); replace P1 := yk (P1.out.below (below_alloc yr (.cells #[.bool false, .slice none 0 0, .int .i64 0] 27))); replace P2 := yk (P2.out.below (below_alloc yr (.cells #[.bool false, .slice none 0 0, .int .i64 0] 27))); ((with_reducible refine gate_store (p := 9) rfl ?_); go_must (refine sdy 9 (.tmp 29) rfl rfl rfl rfl rfl HN.out rfl ?_; intro wb HX HG)); replace P1 := yk (P1.out.grown_box HN.out (by decide) HG.out); replace P2 := yk (P2.out.grown_box HN.out (by decide) HG.out); have LB_XV := BELo.out.2; replace BEL := yk (BEL.out.grown HG.out (Nat.le_trans (Nat.le_add_right _ _) LB_XV)); replace XR := yk (blk_grown XR.out HG.out (Nat.ne_of_lt L_XR)); replace XD := yk (blk_grown XD.out HG.out (Nat.ne_of_lt L_XD)); have NE_XR_XV := yk (Nat.ne_of_lt L_XR); have NE_XD_XV := yk (Nat.ne_of_lt L_XD); clear L_XR; clear L_XD; have LL_XV := yk LB_XV; clear LB_XV; have XV := HX; clear HG HN HX; obtain ⟨q3, q3', q4, q4', q5, q5'⟩ := bc3 XV.out) | (clear q3 q3' q4 q4' q5 q5'; ((with_reducible refine gate_store (p := 4) rfl ?_); go_must (refine sdy 4 (.tmp 31) rfl rfl rfl rfl rfl XR.out rfl ?_; intro wb HX HG)); replace P1 := yk (P1.out.grown_box XR.out (by decide) HG.out); replace P2 := yk (P2.out.grown_box XR.out (by decide) HG.out); replace BEL := yk (BEL.out.grown HG.out (by omega)); replace XD := yk (blk_grown XD.out HG.out (Ne.symm NE_XR_XD.out)); replace XV := yk (blk_grown XV.out HG.out (Ne.symm NE_XR_XV.out)); replace XR := HX; clear HG))
   refine bodyPost_ret (results_list (rs := [.cell 4 27, .tmp 5, .tmp 6]) rfl (by simp) (Vals.box any_dyad info_dyad (g := w.heap.size) rfl XR.out rfl (.tmp (.tmp .nil)))) rfl ?_
   rw [HEE.out, HOO.out]
   exact ⟨_, rfl, P2.out.lower BLI.out.1.size, BEL.out.1⟩

theorem cases_law (f x : Nat) (hf : f < 256) (hx : x < 18446744073709551616) (w : World) (hT : TabAt 0 Lib.deBruijn64tab w) :
 Calls Tryz.prog 3 #[.int .u8 f, .int .u64 (x : Int)] w fun en w' => en = .returned (.bool true) ∧ Below w.heap.size w w' := by
 have HT := yk hT
 have BEL := yk (BelN.zero w)
 have Q1 := yk (fun (W : World) (ht : TabAt 0 Lib.deBruijn64tab W) => exact_any f x hf hx W ht)
 have Q2 := yk (fun (W : World) => dexact_any f x hf hx W)
 have Q3 := yk (fun (W : World) => is_one f hf W)
 have Q4 := yk (fun (W : World) => dis_one f hf W)
 have Q5 := yk (fun (W : World) => is2_one f hf W)
 have Q6 := yk (fun (W : World) => dis2_one f hf W)
 have Q7 := yk (fun (W : World) (ht : TabAt 0 Lib.deBruijn64tab W) => domain_any f x hf hx W ht)
 have Q8 := yk (fun (W : World) => ddomain_any f x hf hx W)
 have OK1 := yk (ex_ok (f := f) (x := x)).1
 clear hT hf hx
 generalize ((exO f x).getD (0, 0)).1 = va at *
 generalize ((exO f x).getD (0, 0)).2 = ea at *
 generalize (exO f x).isSome = sa at *
 generalize exE f x = ra at *
 generalize isF f = i1 at *
 generalize is2F f = i2 at *
 generalize domF f x = i3 at *
 go_enter Tryz.func3, Tryz.ntmps3
 go_wp2_with fail
 go_at_call 5
 refine (Q1.out _ (tab_below HT.out BEL.out.1)).mono ?_
 rintro en1 w1 ⟨v1, rfl, hr, hb⟩
 replace BEL := yk (BEL.out.next hb)
 have P1 := yk hr
 obtain ⟨b1, A1, n1, c1, x1, rfl⟩ := hr.ex
 clear hr hb
 have BELo := BEL
 go_wp2_with (replace BEL := yk ((BEL.out.alloc (.cells #[.bool false, .slice none 0 0, .int .i64 0] 27)).less (j := 0) (by omega)); have HN := yk (blk_new w1 (.cells #[.bool false, .slice none 0 0, .int .i64 0] 27)); replace P1 := yk (P1.out.below (below_alloc yr (.cells #[.bool false, .slice none 0 0, .int .i64 0] 27))); ((with_reducible refine gate_store (p := 5) rfl ?_); go_must (refine sdy 5 (.tmp 15) rfl rfl rfl rfl rfl HN.out rfl ?_; intro wb HX HG)); replace P1 := yk (P1.out.grown_box HN.out (by decide) HG.out); have LB_X1 := BELo.out.2; replace BEL := yk (BEL.out.grown HG.out (Nat.le_trans (Nat.le_add_right _ _) LB_X1)); have LL_X1 := yk LB_X1; clear LB_X1; have X1 := HX; clear HG HN HX)
 go_at_call 6
 refine (Q2.out _).mono ?_
 rintro en2 w2 ⟨v2, rfl, hr, hb⟩
 replace BEL := yk (BEL.out.next hb)
 replace X1 := yk (yb X1.out hb)
 replace P1 := yk (P1.out.below hb)
 have C2 := yk hr
 obtain ⟨b2, A2, n2, c2, x2, rfl⟩ := hr.ex
 clear hr hb
 have BELo := BEL
 go_wp2_with (replace BEL := yk ((BEL.out.alloc (.cells #[.bool false, .slice none 0 0, .int .i64 0] 27)).less (j := 0) (by omega)); have HN := yk (blk_new w2 (.cells #[.bool false, .slice none 0 0, .int .i64 0] 27)); have L_X1 := lt_blk X1.out; replace X1 := yk (blk_alloc X1.out (.cells #[.bool false, .slice none 0 0, .int .i64 0] 27)); replace P1 := yk (P1.out.below (below_alloc yr (.cells #[.bool false, .slice none 0 0, .int .i64 0] 27))); replace C2 := yk (C2.out.below (below_alloc yr (.cells #[.bool false, .slice none 0 0, .int .i64 0] 27))); ((with_reducible refine gate_store (p := 8) rfl ?_); go_must (refine sdy 8 (.tmp 22) rfl rfl rfl rfl rfl HN.out rfl ?_; intro wb HX HG)); replace P1 := yk (P1.out.grown_box HN.out (by decide) HG.out); replace C2 := yk (C2.out.grown_box HN.out (by decide) HG.out); have LB_X2 := BELo.out.2; replace BEL := yk (BEL.out.grown HG.out (Nat.le_trans (Nat.le_add_right _ _) LB_X2)); replace X1 := yk (blk_grown X1.out HG.out (Nat.ne_of_lt L_X1)); have NE_X1_X2 := yk (Nat.ne_of_lt L_X1); clear L_X1; have LL_X2 := yk LB_X2; clear LB_X2; have X2 := HX; clear HG HN HX)
 go_at_call 7
 refine (lives_any _ (tab_below HT.out BEL.out.1)).mono ?_
 rintro en3 w3 ⟨rfl, hb⟩
 replace BEL := yk (BEL.out.next hb)
 replace X1 := yk (yb X1.out hb)
 replace X2 := yk (yb X2.out hb)
 replace P1 := yk (P1.out.below hb)
 replace C2 := yk (C2.out.below hb)
 clear hb
 obtain ⟨q0, q0', q1, q1', q2, q2'⟩ := bc3 X1.out
 obtain ⟨q3, q3', q4, q4', q5, q5'⟩ := bc3 X2.out
 go_wp2_with fail
 clear q0 q0' q1 q1' q2 q2' q3 q3' q4 q4' q5 q5'
 go_at_call 8
 refine (same_self P1.out.c C2.out.c OK1.out).mono ?_
 rintro en4 w4 ⟨rfl, hb⟩
 replace BEL := yk (BEL.out.next hb)
 replace X1 := yk (yb X1.out hb)
 replace X2 := yk (yb X2.out hb)
 replace P1 := yk (P1.out.below hb)
 replace C2 := yk (C2.out.below hb)
 clear hb
 go_wp2_with fail
 go_at_call 9
 refine (Q3.out _).mono ?_
 rintro en5 w5 ⟨rfl, hb⟩
 replace BEL := yk (BEL.out.next hb)
 replace X1 := yk (yb X1.out hb)
 replace X2 := yk (yb X2.out hb)
 replace P1 := yk (P1.out.below hb)
 replace C2 := yk (C2.out.below hb)
 clear hb
 go_wp2_with fail
 go_at_call 10
 refine (Q4.out _).mono ?_
 rintro en6 w6 ⟨rfl, hb⟩
 replace BEL := yk (BEL.out.next hb)
 replace X1 := yk (yb X1.out hb)
 replace X2 := yk (yb X2.out hb)
 replace P1 := yk (P1.out.below hb)
 replace C2 := yk (C2.out.below hb)
 clear hb
 go_wp2_with fail
 go_at_call 11
 refine (Q5.out _).mono ?_
 rintro en7 w7 ⟨rfl, hb⟩
 replace BEL := yk (BEL.out.next hb)
 replace X1 := yk (yb X1.out hb)
 replace X2 := yk (yb X2.out hb)
 replace P1 := yk (P1.out.below hb)
 replace C2 := yk (C2.out.below hb)
 clear hb
 go_wp2_with fail
 go_at_call 12
 refine (Q6.out _).mono ?_
 rintro en8 w8 ⟨rfl, hb⟩
 replace BEL := yk (BEL.out.next hb)
 replace X1 := yk (yb X1.out hb)
 replace X2 := yk (yb X2.out hb)
 replace P1 := yk (P1.out.below hb)
 replace C2 := yk (C2.out.below hb)
 clear hb
 go_wp2_with fail
 go_at_call 13
 refine (Q7.out _ (tab_below HT.out BEL.out.1)).mono ?_
 rintro en9 w9 ⟨rfl, hb⟩
 replace BEL := yk (BEL.out.next hb)
 replace X1 := yk (yb X1.out hb)
 replace X2 := yk (yb X2.out hb)
 replace P1 := yk (P1.out.below hb)
 replace C2 := yk (C2.out.below hb)
 clear hb
 go_wp2_with fail
 go_at_call 14
 refine (Q8.out _).mono ?_
 rintro en10 w10 ⟨rfl, hb⟩
 replace BEL := yk (BEL.out.next hb)
 replace X1 := yk (yb X1.out hb)
 replace X2 := yk (yb X2.out hb)
 replace P1 := yk (P1.out.below hb)
 replace C2 := yk (C2.out.below hb)
 clear hb
 go_wp2_with fail
 go_ret
 exact ⟨ret_bool (by first | rfl | simp), BEL.out.1⟩
end Go.Proofs.YtgpjplelgffocaaGreatDoor
