/- The document's dyadic numbers (ulpref04): Plus. -/
import Derived.Test.YtplkmbdoecepeaaOneOne
import Derived.Test.YtplkmbdoecepeaaRegVals
import Derived.Test.YtplkmbdoecepeaaRef3b
import Derived.Test.YtplkmbdoecepeaaRef3d
import Derived.Test.YtplkmbdoecepeaaRef3g
import Derived.Deep.DeepCutAuto
namespace Go.Proofs.Ytplkmbdoecepeaa
open Go.RowKit Go.Proofs.YtplkmbdoecepeaaW.PrintWords Limb
set_option linter.unusedVariables false
set_option linter.unusedSimpArgs false

set_option maxHeartbeats 8000000 in
theorem plus_dy (u v : Value) (y z e : Int) (w : World) (h : CDy w u y e) (h' : CDy w v z e) (hl : (limbs (cman y)).length ≤ 268435456) (hl' : (limbs (cman z)).length ≤ 268435456) (le1 : -8589934592 ≤ cexp y e) (le2 : cexp y e ≤ 8589934592) (le1' : -8589934592 ≤ cexp z e) (le2' : cexp z e ≤ 8589934592) :
    Calls Try.prog 38 #[u, v] w fun en w' => ∃ v', en = .returned v' ∧ RDy w' w.heap.size v' (y + z) e ∧ Below w.heap.size w w' := by
  have Q1 := Aside0.mk (fun (m : World) (hm : Below w.heap.size w m) => one_dy u y e m (h.below hm) (by omega) (by omega) (by omega))
  have Q2 := Aside0.mk (fun (m : World) (hm : Below w.heap.size w m) => one_dy v z e m (h'.below hm) (by omega) (by omega) (by omega))
  obtain ⟨A, n, c, rfl, hC, hn, hc⟩ := h
  obtain ⟨A', n', c', rfl, hC', hn', hc'⟩ := h'
  obtain ⟨x0, hx0⟩ : ∃ x, x = cexp y e := ⟨_, rfl⟩
  obtain ⟨x1, hx1⟩ : ∃ x, x = cexp z e := ⟨_, rfl⟩
  obtain ⟨b0, hb0⟩ : ∃ x, x = cneg y := ⟨_, rfl⟩
  obtain ⟨b1, hb1⟩ : ∃ x, x = cneg z := ⟨_, rfl⟩
  rw [← hx0, ← hb0] at Q1
  rw [← hx1, ← hb1] at Q2
  rw [← hx0, ← hb0, ← hx1, ← hb1]
  obtain ⟨W0, hW0⟩ : ∃ W0, W0 = ((w.alloc (.cells #[.bool b0, .slice A n c, .int .i64 x0] 30)).alloc (.cells #[.bool b1, .slice A' n' c', .int .i64 x1] 30)).alloc (.cells #[.bool false, .slice none 0 0, .int .i64 0] 30) := ⟨_, rfl⟩
  have hh0 : Aside0 (W0.heap[w.heap.size]? = some (.cells #[.bool b0, .slice A n c, .int .i64 x0] 30 (0, 0))) := ⟨by rw [hW0]; exact blk_alloc (blk_alloc (blk_new _ _) _) _⟩
  have hh1 : Aside0 (W0.heap[w.heap.size + 1]? = some (.cells #[.bool b1, .slice A' n' c', .int .i64 x1] 30 (0, 0))) := ⟨by rw [hW0]; have := blk_new (w.alloc (.cells #[.bool b0, .slice A n c, .int .i64 x0] 30)) (.cells #[.bool b1, .slice A' n' c', .int .i64 x1] 30); rw [size_alloc'] at this; exact blk_alloc this _⟩
  have hh2 : Aside0 (W0.heap[w.heap.size + 1 + 1]? = some (.cells #[.bool false, .slice none 0 0, .int .i64 0] 30 (0, 0))) := ⟨by rw [hW0]; have := blk_new ((w.alloc (.cells #[.bool b0, .slice A n c, .int .i64 x0] 30)).alloc (.cells #[.bool b1, .slice A' n' c', .int .i64 x1] 30)) (.cells #[.bool false, .slice none 0 0, .int .i64 0] 30); rw [size_alloc', size_alloc'] at this; exact this⟩
  have HW : Aside0 (Below w.heap.size w W0) := ⟨by rw [hW0]; exact below_alloc (below_alloc (below_alloc (Below.refl _ _) _) _) _⟩
  have HE := Aside0.mk (And.intro hx0 (And.intro hx1 (And.intro hb0 hb1)))
  clear hC hC' hx0 hx1 hb0 hb1
  go_enter Try.func38, Try.ntmps38
  go_upto_region 1 with fail
  rw [← hW0]
  clear hW0
  go_cut [5, 6] (fun v5 v6 wx => Aside0 (∃ v7 v8 v9 v10 L, (∀ i, i < 8 → L.getD i false = true) ∧ OO W0 (.agg #[.bool b0, .slice A n c, .int .i64 x0]) (.agg #[.bool b1, .slice A' n' c', .int .i64 x1]) y e z e L wx v5 v6 v7 v8 v9 v10))
  case first =>
    rename_i QQ KC aC J K1 aJ aM
    clear aC
    refine wp_region_inv (by kernel_rfl) (by kernel_rfl) (fun L a W => ∃ v5 v6 v7 v8 v9 v10, a = { tmps := #[.agg #[.bool b0, .slice A n c, .int .i64 x0], .agg #[.bool b1, .slice A' n' c', .int .i64 x1], .pointer (some ⟨w.heap.size, 0, none⟩), .pointer (some ⟨w.heap.size + 1, 0, none⟩), .pointer (some ⟨w.heap.size + 1 + 1, 0, none⟩), v5, v6, undef, undef, undef, v7, v8, v9, v10, undef, undef, undef, undef, undef, undef, undef, undef, undef, undef, undef, undef, undef, undef, undef, undef, undef, undef, undef, undef, undef, undef, undef, undef, undef, undef, undef, undef, undef, undef, undef, undef, undef, undef, undef, undef, undef, undef, undef, undef, undef, undef, undef, undef, undef, undef, undef, undef, undef, undef, undef, undef, undef, undef, undef, undef, undef, undef, undef, undef, undef], defers := [] } ∧ OO W0 (.agg #[.bool b0, .slice A n c, .int .i64 x0]) (.agg #[.bool b1, .slice A' n' c', .int .i64 x1]) y e z e L W v5 v6 v7 v8 v9 v10) ?h0 ?hstep ?hend
    case h0 =>
      refine ⟨undef, undef, undef, undef, undef, undef, rfl, ⟨below_drew (Below.refl _ _), ?_, ?_, ?_, ?_, ?_, ?_, ?_, ?_, ?_, rfl⟩⟩ <;> intro h <;> cases h
    case hstep =>
      intro i o ho L a W hs hl haft hI K hK
      obtain ⟨v5, v6, v7, v8, v9, v10, rfl, hO⟩ := hI
      rcases i with _ | _ | _ | _ | _ | _ | _ | _ | i
      all_goals first
        | (cases ho; done)
        | (obtain rfl := (Option.some.inj ho).symm
           clear ho
           rw [if_pos (by rfl)]
           simp only [List.getElem_toArray, List.getElem_cons_zero, List.getElem_cons_succ, Nat.reduceAdd] at haft hl hK ⊢)
      case zero =>
        obtain ⟨c0, _⟩ := box_cell (blk_below hh0.out hO.below) 0 rfl
        obtain ⟨c1, _⟩ := box_cell (blk_below hh0.out hO.below) 1 rfl
        obtain ⟨c2, _⟩ := box_cell (blk_below hh0.out hO.below) 2 rfl
        go_simp
        exact hK.out _ _ ⟨_, _, _, _, _, _, rfl, hO.load0⟩
      case succ.succ.zero =>
        obtain ⟨c0, _⟩ := box_cell (blk_below hh1.out hO.below) 0 rfl
        obtain ⟨c1, _⟩ := box_cell (blk_below hh1.out hO.below) 1 rfl
        obtain ⟨c2, _⟩ := box_cell (blk_below hh1.out hO.below) 2 rfl
        go_simp
        exact hK.out _ _ ⟨_, _, _, _, _, _, rfl, hO.load2⟩
      case succ.zero =>
        simp [Region.binds] at haft
        obtain rfl := hO.l0 (by simpa [Array.getD_eq_getD_getElem?] using haft)
        have hB := below_then HW.out HW.out.size hO.below
        go_simp
        go_at_call 41
        refine (Q1.out _ hB).mono ?_
        rintro en w1 ⟨v1, rfl, hr, hb⟩
        exact hK.out _ _ ⟨_, _, _, _, _, _, rfl, hO.call1 (not_listed hl) hr hb⟩
      case succ.succ.succ.zero =>
        simp [Region.binds] at haft
        obtain rfl := hO.l2 (by simpa [Array.getD_eq_getD_getElem?] using haft.1)
        have hB := below_then HW.out HW.out.size hO.below
        go_simp
        go_at_call 41
        refine (Q2.out _ hB).mono ?_
        rintro en w1 ⟨v1, rfl, hr, hb⟩
        exact hK.out _ _ ⟨_, _, _, _, _, _, rfl, hO.call3 (not_listed hl) hr hb⟩
      case succ.succ.succ.succ.zero =>
        go_simp
        exact hK.out _ _ ⟨_, _, _, _, _, _, rfl, hO.alloc4 (not_listed hl) rfl⟩
      case succ.succ.succ.succ.succ.zero =>
        go_simp
        exact hK.out _ _ ⟨_, _, _, _, _, _, rfl, hO.alloc5 (not_listed hl) rfl⟩
      case succ.succ.succ.succ.succ.succ.zero =>
        simp [Region.binds] at haft
        have h4 : L.getD 4 false = true := by simpa [Array.getD_eq_getD_getElem?] using haft.1
        have h1 : L.getD 1 false = true := by simpa [Array.getD_eq_getD_getElem?] using haft.2.1
        obtain ⟨g, cs, rfl, hgw, hh, hcs⟩ := store_at (hO.l4 h4)
        obtain ⟨A1, m1, c1, rfl, _⟩ := id (hO.l1 h1)
        refine wp_store_box 30 5 (.tmp 11) rfl rfl (g := g) (e := 30) (.agg #[.bool (cneg y), .slice A1 m1 c1, .int .i64 (cexp y e)]) [.bool (cneg y), .slice A1 m1 c1, .int .i64 (cexp y e)] rfl rfl rfl info_dyad ?_ hh hcs ?_
        · intro q hq; simp at hq; rcases hq with rfl | rfl | rfl <;> rfl
        · intro w1 hw1 hg1
          exact hK.out _ _ ⟨_, _, _, _, _, _, rfl, OO.store6 h1 h4 hO rfl h4 hh hgw hw1 rfl rfl hg1⟩
      case succ.succ.succ.succ.succ.succ.succ.zero =>
        simp [Region.binds] at haft
        have h4 : L.getD 5 false = true := by simpa [Array.getD_eq_getD_getElem?] using haft.1
        have h1 : L.getD 3 false = true := by simpa [Array.getD_eq_getD_getElem?] using haft.2.1
        obtain ⟨g, cs, rfl, hgw, hh, hcs⟩ := store_at (hO.l5 h4)
        obtain ⟨A1, m1, c1, rfl, _⟩ := id (hO.l3 h1)
        refine wp_store_box 30 6 (.tmp 13) rfl rfl (g := g) (e := 30) (.agg #[.bool (cneg z), .slice A1 m1 c1, .int .i64 (cexp z e)]) [.bool (cneg z), .slice A1 m1 c1, .int .i64 (cexp z e)] rfl rfl rfl info_dyad ?_ hh hcs ?_
        · intro q hq; simp at hq; rcases hq with rfl | rfl | rfl <;> rfl
        · intro w1 hw1 hg1
          exact hK.out _ _ ⟨_, _, _, _, _, _, rfl, OO.store7 h1 h4 hO rfl h4 hh hgw hw1 rfl rfl hg1⟩
    case hend =>
      intro L a W hall hI
      obtain ⟨v5, v6, v7, v8, v9, v10, rfl, hO⟩ := hI
      refine aM _ _ (Met.intro (aJ _ _ ?_))
      repeat apply Exists.intro
      exact ⟨⟨v7, v8, v9, v10, L, hall, hO⟩, rfl⟩
  case rest =>
    obtain ⟨v7, v8, v9, v10, L, hall, hO⟩ := hcut.out
    obtain ⟨g5, g6, A1, n1, c1, A2, n2, c2, rfl, rfl, h5, h6, r1, r2, hB, hg5, hg6⟩ := hO.done hall
    obtain ⟨d0, _⟩ := box_cell (v := .bool (cneg y)) h5 0 rfl
    obtain ⟨d1, _⟩ := box_cell (v := .slice A1 n1 c1) h5 1 rfl
    obtain ⟨d2, _⟩ := box_cell (v := .int .i64 (cexp y e)) h5 2 rfl
    obtain ⟨f0, _⟩ := box_cell (v := .bool (cneg z)) h6 0 rfl
    obtain ⟨f1, _⟩ := box_cell (v := .slice A2 n2 c2) h6 1 rfl
    obtain ⟨f2, _⟩ := box_cell (v := .int .i64 (cexp z e)) h6 2 rfl
    have HB := Aside0.mk hB
    have H5 := Aside0.mk h5
    have H6 := Aside0.mk h6
    have R1 := Aside0.mk r1
    have R2 := Aside0.mk r2
    have N1 := Aside0.mk (Kd.R_reads' r1).1
    have N2 := Aside0.mk (Kd.R_reads' r2).1
    have HRES := Aside0.mk (blk_below hh2.out hB)
    have hsz : w.heap.size + 3 ≤ W0.heap.size := by have := blk_lt hh2.out; omega
    have BW := Aside0.mk (below_then HW.out HW.out.size hB)
    clear hcut hO hB h5 h6 r1 r2 hall
    by_cases hy : y = 0
    · have hn1 : n1 = 0 := by rw [N1.out, hy, cman_zero, limbs_zero]; rfl
      subst hn1
      go_wp2_with ((with_reducible refine gate_store (p := 4) rfl ?_); go_must (refine store_box 30 4 (.tmp 18) rfl rfl rfl (g := (w.heap.size + 1 + 1)) (e := 30) (.agg #[.bool (cneg z), .slice A2 n2 c2, .int .i64 (cexp z e)]) ([.bool (cneg z), .slice A2 n2 c2, .int .i64 (cexp z e)]) rfl rfl rfl info_dyad ?b1 HRES.out rfl ?_; (case b1 => intro q hq; simp at hq; rcases hq with rfl | rfl | rfl <;> rfl); intro wb hbx hgx; have HX := Aside0.mk hbx; have HG := Aside0.mk hgx; clear hbx hgx))
      refine bodyPost_ret (results_dyad rfl _ _ (w.heap.size + 1 + 1) _ rfl HX.out rfl) rfl ?_
      refine ⟨_, rfl, ?_, BW.out.grown HG.out BW.out.size (fun k hk => by cases hk; omega)⟩
      rw [hy, Int.zero_add]
      exact RDy.lower (RDy.typed ⟨A2, n2, c2, rfl, R2.out⟩ HRES.out HG.out) HW.out.size
    · have hn1 : n1 ≠ 0 := by rw [N1.out]; exact fun h => hy (cman_eq_zero.1 (limbs_eq_nil.1 (List.length_eq_zero_iff.1 h)))
      have hn1' : ((n1 : Int) == 0) = false := by simp; omega
      by_cases hz : z = 0
      · have hn2 : n2 = 0 := by rw [N2.out, hz, cman_zero, limbs_zero]; rfl
        subst hn2
        go_wp2_with ((with_reducible refine gate_store (p := 4) rfl ?_); go_must (refine store_box 30 4 (.tmp 23) rfl rfl rfl (g := (w.heap.size + 1 + 1)) (e := 30) (.agg #[.bool (cneg y), .slice A1 n1 c1, .int .i64 (cexp y e)]) ([.bool (cneg y), .slice A1 n1 c1, .int .i64 (cexp y e)]) rfl rfl rfl info_dyad ?b1 HRES.out rfl ?_; (case b1 => intro q hq; simp at hq; rcases hq with rfl | rfl | rfl <;> rfl); intro wb hbx hgx; have HX := Aside0.mk hbx; have HG := Aside0.mk hgx; clear hbx hgx))
        refine bodyPost_ret (results_dyad rfl _ _ (w.heap.size + 1 + 1) _ rfl HX.out rfl) rfl ?_
        refine ⟨_, rfl, ?_, BW.out.grown HG.out BW.out.size (fun k hk => by cases hk; omega)⟩
        rw [hz, Int.add_zero]
        exact RDy.lower (RDy.typed ⟨A1, n1, c1, rfl, R1.out⟩ HRES.out HG.out) HW.out.size
      · have hn2 : n2 ≠ 0 := by rw [N2.out]; exact fun h => hz (cman_eq_zero.1 (limbs_eq_nil.1 (List.length_eq_zero_iff.1 h)))
        have hn2' : ((n2 : Int) == 0) = false := by simp; omega
        obtain ⟨xy, hxy⟩ : ∃ x, x = cexp y e := ⟨_, rfl⟩
        obtain ⟨xz, hxz⟩ : ∃ x, x = cexp z e := ⟨_, rfl⟩
        have HXY := Aside0.mk hxy
        have HXZ := Aside0.mk hxz
        rw [← hxy] at le1 le2 d2 H5
        rw [← hxz] at le1' le2' f2 H6
        clear hxy hxz
        go_upto_region 6 with fail
        obtain ⟨W1, rfl⟩ : ∃ W1, W1 = wc := ⟨_, rfl⟩
        go_cut [7] (fun v7 wx => ∃ E : Int, v7 = .int .i64 E ∧ E ≤ xy ∧ E ≤ xz ∧ (E = xy ∨ E = xz) ∧ wx = W1)
        case first =>
          rcases Int.le_total xy xz with hle | hle
          all_goals go_wp2_with fail
          all_goals
            go_meet
            case rel => first | exact ⟨xy, rfl, by omega, by omega, .inl rfl, rfl⟩ | exact ⟨xz, rfl, by omega, by omega, .inr rfl, rfl⟩
        case rest =>
        obtain ⟨E, rfl, hE1, hE2, hE3, hWX⟩ := hcut
        subst hWX
        obtain ⟨ky, hky⟩ : ∃ k : Nat, xy - E = (k : Int) := ⟨(xy - E).toNat, by omega⟩
        obtain ⟨kz, hkz⟩ : ∃ k : Nat, xz - E = (k : Int) := ⟨(xz - E).toNat, by omega⟩
        have hky2 : ky ≤ 17179869184 := by omega
        have hkz2 : kz ≤ 17179869184 := by omega
        have hk0 : ky = 0 ∨ kz = 0 := by omega
        have q1 := Kd.R_reads' R1.out
        have q2 := Kd.R_reads' R2.out
        have QA := Aside0.mk (fun (m : World) (hm : Below wc.heap.size wc m) => shl_any (limbs (cman y)) A1 n1 c1 ky q1.1.symm m (Kd.C_below (by rw [q1.1]; exact q1.2.2) hm) q1.2.1 (wf_limbs _) (by omega) (by omega))
        have QB := Aside0.mk (fun (m : World) (hm : Below wc.heap.size wc m) => shl_any (limbs (cman z)) A2 n2 c2 kz q2.1.symm m (Kd.C_below (by rw [q2.1]; exact q2.2.2) hm) q2.2.1 (wf_limbs _) (by omega) (by omega))
        rw [nv_limbs] at QA QB
        obtain ⟨my, hmy⟩ : ∃ m, m = cman y * 2 ^ ky := ⟨_, rfl⟩
        obtain ⟨mz, hmz⟩ : ∃ m, m = cman z * 2 ^ kz := ⟨_, rfl⟩
        rw [← hmy] at QA
        rw [← hmz] at QB
        have HMY := Aside0.mk hmy
        have HMZ := Aside0.mk hmz
        have ly : (limbs my).length ≤ 536870920 := by
          refine Nat.le_trans (limbs_len_le (k := (limbs (cman y)).length + (ky / 64 + 1)) ?_) (by omega)
          have h1 := nv_lt (wf_limbs (cman y))
          rw [nv_limbs] at h1
          rw [hmy, Nat.mul_add, Nat.pow_add]
          exact Nat.mul_lt_mul'' h1 (Nat.pow_lt_pow_right (by decide) (by omega))
        have lz : (limbs mz).length ≤ 536870920 := by
          refine Nat.le_trans (limbs_len_le (k := (limbs (cman z)).length + (kz / 64 + 1)) ?_) (by omega)
          have h1 := nv_lt (wf_limbs (cman z))
          rw [nv_limbs] at h1
          rw [hmz, Nat.mul_add, Nat.pow_add]
          exact Nat.mul_lt_mul'' h1 (Nat.pow_lt_pow_right (by decide) (by omega))
        clear q1 q2 hmy hmz
        go_upto_region 9 with (first
          | (go_at_call 50; with_reducible refine (QA.out _ (Below.refl _ _)).mono ?_; rintro en w2 ⟨q, rfl, hr, hb⟩; obtain ⟨A3, c3, rfl, hc3, hC3⟩ := Kd.R_reads hr; have R3 := Aside0.mk hr; have B2 := Aside0.mk hb; obtain ⟨f0_2, _⟩ := box_cell (v := .bool (cneg z)) (blk_below H6.out hb) 0 rfl; obtain ⟨f1_2, _⟩ := box_cell (v := .slice A2 n2 c2) (blk_below H6.out hb) 1 rfl; obtain ⟨f2_2, _⟩ := box_cell (v := .int .i64 xz) (blk_below H6.out hb) 2 rfl; clear hr hb hC3)
          | (go_at_call 50; with_reducible refine (QB.out _ B2.out).mono ?_; rintro en w3 ⟨q, rfl, hr, hb⟩; obtain ⟨A4, c4, rfl, hc4, hC4⟩ := Kd.R_reads hr; have R4 := Aside0.mk hr; have B3 := Aside0.mk (below_then B2.out B2.out.size hb); have R3' := Aside0.mk (Kd.R_below R3.out hb); obtain ⟨d0_3, _⟩ := box_cell (v := .bool (cneg y)) (blk_below (blk_below H5.out B2.out) hb) 0 rfl; obtain ⟨f0_3, _⟩ := box_cell (v := .bool (cneg z)) (blk_below (blk_below H6.out B2.out) hb) 0 rfl; clear hr hb hC4))
        have HRES3 := Aside0.mk (blk_below HRES.out B3.out)
        have BW3 := Aside0.mk (below_then BW.out BW.out.size B3.out)
        have BS3 : W0.heap.size ≤ w3.heap.size := Nat.le_trans HB.out.size B3.out.size
        have R3' := Aside0.mk (Kd.R_lower R3'.out HB.out.size)
        have R4 := Aside0.mk (Kd.R_lower R4.out (Nat.le_trans HB.out.size B2.out.size))
        obtain ⟨j0, hj0, hfy, hfz⟩ := plus_form (e := e) (E := E) (ky := ky) (kz := kz) hy hz (by rw [← HXY.out]; exact hky) (by rw [← HXZ.out]; exact hkz) hk0
        rw [← HMY.out] at hfy
        rw [← HMZ.out] at hfz
        have HJ := Aside0.mk (And.intro hj0 (And.intro hfy hfz))
        clear hj0 hfy hfz hky hkz
        by_cases hs : cneg y = cneg z
        · have hs' : (cneg y == cneg z) = true := by simp [hs]
          have HS := Aside0.mk hs
          have hlen : (limbs (my + mz)).length ≤ 1073741824 := by
            refine Nat.le_trans (limbs_len_le (k := max (limbs my).length (limbs mz).length + 1) ?_) (by omega)
            have h1 := nv_lt (wf_limbs my)
            have h2 := nv_lt (wf_limbs mz)
            rw [nv_limbs] at h1 h2
            have h3 : 2 ^ (64 * (limbs my).length) ≤ 2 ^ (64 * max (limbs my).length (limbs mz).length) := Nat.pow_le_pow_right (by decide) (by omega)
            have h4 : 2 ^ (64 * (limbs mz).length) ≤ 2 ^ (64 * max (limbs my).length (limbs mz).length) := Nat.pow_le_pow_right (by decide) (by omega)
            rw [pw]
            omega
          clear hs
          have FIN : ∀ {W : World} {cs : Array Value}, RDy W W0.heap.size (.agg cs) (sgn (cneg y) (my + mz)) E → RDy W W0.heap.size (.agg cs) (y + z) e := by
            intro W cs h
            obtain ⟨q1, q2, q3⟩ := HJ.out
            rw [q1] at h
            have := RDy.scale j0 h
            rw [sgn_add, Int.add_mul, ← q2] at this
            have q4 : sgn (cneg y) mz * 2 ^ j0 = z := by rw [HS.out]; exact q3.symm
            rw [q4] at this
            exact this
          go_upto_region 10 with fail
          have hng : w.heap.size + 1 + 1 ≠ g5 := by omega
          refine wp_region_slots [49, 50, 51, 52, 53, 54, 55] (by kernel_rfl) (by kernel_rfl)
            (F := fun j q W => match j with | 0 => q = .pointer (some ⟨g5, 0, none⟩) | 1 => q = .bool (cneg y) | 2 => q = .slice A3 (limbs my).length c3 | 3 => q = .slice A4 (limbs mz).length c4 | 5 => q = .int .i64 E | 4 => kU.R 48 W W0.heap.size (fun _ => True) q (limbs (my + mz)) | 6 => RDy W W0.heap.size q (sgn (cneg y) (my + mz)) E | 7 => ∃ cs, W.heap[w.heap.size + 1 + 1]? = some (.cells cs 30 (0, 0)) ∧ cs.size = 3 ∧ RDy W W0.heap.size (.agg cs) (sgn (cneg y) (my + mz)) E | _ => True)
            (J := fun W => W.heap[g5]? = some (.cells #[.bool (cneg y), .slice A1 n1 c1, .int .i64 xy] 30 (0, 0)) ∧ (∃ cs, W.heap[w.heap.size + 1 + 1]? = some (.cells cs 30 (0, 0)) ∧ cs.size = 3) ∧ kU.R 48 W W0.heap.size (fun _ => True) (.slice A3 (limbs my).length c3) (limbs my) ∧ kU.R 48 W W0.heap.size (fun _ => True) (.slice A4 (limbs mz).length c4) (limbs mz) ∧ Below w.heap.size w W ∧ W0.heap.size ≤ W.heap.size)
            ?hJ ?hstep ?hend
          case hJ => exact ⟨blk_drew (blk_below H5.out B3.out), ⟨_, blk_drew HRES3.out, rfl⟩, Kd.R_drew R3'.out, Kd.R_drew R4.out, below_drew BW3.out, BS3⟩
          case hstep =>
            intro k o ho v W L hJW hF hnk haft K hK
            obtain ⟨hg, ⟨cs0, hres, hcs0⟩, r3, r4, hB, hSZ⟩ := id hJW
            rcases k with _ | _ | _ | _ | _ | _ | _ | _ | k
            all_goals first
              | (cases ho; done)
              | (obtain rfl := (Option.some.inj ho).symm
                 clear ho
                 rw [if_pos (by rfl)]
                 simp only [setAll, List.setIfInBounds_toArray, List.set_cons_zero, List.set_cons_succ, List.getElem_toArray, List.getElem_cons_zero, List.getElem_cons_succ, Nat.reduceAdd] at haft hF hK ⊢)
            case zero =>
              have key := hK.out (.pointer (some ⟨g5, 0, none⟩)) W hJW (fun _ _ h => h) rfl
              go_simp
              simpa [upd] using key
            case succ.zero =>
              have f0 : v 0 = .pointer (some ⟨g5, 0, none⟩) := hF 0 (haft { on := 0, ground := .data } (by simp) rfl)
              have cc := (box_cell (v := .bool (cneg y)) hg 0 rfl).1
              have key := hK.out (.bool (cneg y)) W hJW (fun _ _ h => h) rfl
              go_simp
              simpa [upd, f0] using key
            case succ.succ.zero =>
              have key := hK.out (.slice A3 (limbs my).length c3) W hJW (fun _ _ h => h) rfl
              go_simp
              simpa [upd] using key
            case succ.succ.succ.zero =>
              have key := hK.out (.slice A4 (limbs mz).length c4) W hJW (fun _ _ h => h) rfl
              go_simp
              simpa [upd] using key
            case succ.succ.succ.succ.zero =>
              have f2 : v 2 = .slice A3 (limbs my).length c3 := hF 2 (haft { on := 2, ground := .data } (by simp) rfl)
              have f3 : v 3 = .slice A4 (limbs mz).length c4 := hF 3 (haft { on := 3, ground := .data } (by simp) rfl)
              obtain ⟨e1, e2, e3⟩ := Kd.R_reads' r3
              obtain ⟨e1', e2', e3'⟩ := Kd.R_reads' r4
              have hm := add_any (limbs my) (limbs mz) A3 A4 (limbs my).length (limbs mz).length c3 c4 rfl rfl W e3 e3' e2 e2' (wf_limbs _) (wf_limbs _) (by omega) (by omega)
              simp only [nv_limbs] at hm
              clear e1 e2 e3 e1' e2' e3'
              go_simp
              go_at_call 51
              refine hm.mono ?_
              rintro en w4 ⟨v1, rfl, hr, hb⟩
              have key := hK.out v1 w4 ⟨blk_below hg hb, ⟨_, blk_below hres hb, hcs0⟩, Kd.R_below r3 hb, Kd.R_below r4 hb, below_then hB hB.size hb, Nat.le_trans hSZ hb.size⟩ ?m10a (Kd.R_lower hr hSZ)
              · simpa [upd, f2, f3] using key
              intro j hj hf
              rcases j with _ | _ | _ | _ | _ | _ | _ | _ | j <;> first | exact hf | exact Kd.R_below hf hb | exact RDy.below hf hb | exact (let ⟨cs, p1, p2, p3⟩ := hf; ⟨cs, blk_below p1 hb, p2, p3.below hb⟩)
            case succ.succ.succ.succ.succ.zero =>
              have key := hK.out (.int .i64 E) W hJW (fun _ _ h => h) rfl
              go_simp
              simpa [upd] using key
            case succ.succ.succ.succ.succ.succ.zero =>
              have f1 : v 1 = .bool (cneg y) := hF 1 (haft { on := 1, ground := .data } (by simp) rfl)
              have f4 : kU.R 48 W W0.heap.size (fun _ => True) (v 4) (limbs (my + mz)) := hF 4 (haft { on := 4, ground := .data } (by simp) rfl)
              have f5 : v 5 = .int .i64 E := hF 5 (haft { on := 5, ground := .data } (by simp) rfl)
              obtain ⟨A5, c5, f4', hc5, hC5⟩ := Kd.R_reads f4
              have hm := form_any (cneg y) (limbs (my + mz)) A5 _ c5 E rfl W hC5 hc5 (wf_limbs _) (by exact hlen) (by omega) (by omega)
              rw [nv_limbs] at hm
              clear f4
              go_simp
              go_at_call 42
              refine hm.mono ?_
              rintro en w4 ⟨v1, rfl, hr, hb⟩
              have key := hK.out v1 w4 ⟨blk_below hg hb, ⟨_, blk_below hres hb, hcs0⟩, Kd.R_below r3 hb, Kd.R_below r4 hb, below_then hB hB.size hb, Nat.le_trans hSZ hb.size⟩ ?m10b (hr.lower hSZ)
              · simpa [upd, f1, f4', f5] using key
              intro j hj hf
              rcases j with _ | _ | _ | _ | _ | _ | _ | _ | j <;> first | exact hf | exact Kd.R_below hf hb | exact RDy.below hf hb | exact (let ⟨cs, p1, p2, p3⟩ := hf; ⟨cs, blk_below p1 hb, p2, p3.below hb⟩)
            case succ.succ.succ.succ.succ.succ.succ.zero =>
              have f6 : RDy W W0.heap.size (v 6) (sgn (cneg y) (my + mz)) E := hF 6 (haft { on := 6, ground := .data } (by simp) rfl)
              obtain ⟨A5, m5, c5, f6', hr5⟩ := id f6
              refine wp_store_box 30 4 (.tmp 55) rfl rfl (g := w.heap.size + 1 + 1) (e := 30) (v 6) [.bool (cneg (sgn (cneg y) (my + mz))), .slice A5 m5 c5, .int .i64 (cexp (sgn (cneg y) (my + mz)) E)] rfl rfl (by rw [f6']; rfl) info_dyad ?_ hres hcs0 ?_
              · intro q hq; simp at hq; rcases hq with rfl | rfl | rfl <;> rfl
              · intro w4 hw4 hg4
                have hnew := f6.typed hres hg4
                rw [f6'] at hnew
                have key := hK.out undef w4 ⟨(hg4.block g5 (blk_lt hg) (fun he => by cases he; omega)).trans hg, ⟨_, hw4, rfl⟩, row_typed r3 hres hg4, row_typed r4 hres hg4, hB.grown hg4 hB.size (fun k hk => by cases hk; omega), Nat.le_trans hSZ hg4.size⟩ ?m10c ⟨_, hw4, rfl, hnew⟩
                · simpa [upd] using key
                intro j hj hf
                rcases j with _ | _ | _ | _ | _ | _ | _ | _ | j <;> first | exact absurd hj hnk | exact hf | exact row_typed hf hres hg4 | exact RDy.typed hf hres hg4
          case hend =>
            intro v W hJW hF
            obtain ⟨_, _, _, _, hB, hSZ⟩ := hJW
            obtain ⟨cs, p1, p2, p3⟩ := hF 7 (by decide)
            simp only [setAll, List.setIfInBounds_toArray, List.set_cons_zero, List.set_cons_succ]
            go_wp2
            refine bodyPost_ret (results_dyad rfl _ _ (w.heap.size + 1 + 1) _ rfl p1 p2) rfl ?_
            refine ⟨_, rfl, RDy.lower ?_ HW.out.size, hB⟩
            exact FIN p3
        · have hs' : (cneg y == cneg z) = false := by simp [hs]
          have HS := Aside0.mk hs
          clear hs
          have ra := Kd.R_reads' R3'.out
          have rb := Kd.R_reads' R4.out
          have QC := Aside0.mk (fun (m : World) (hm : Below w3.heap.size w3 m) => cmp_any (limbs my) (limbs mz) A3 A4 c3 c4 m (Kd.C_below ra.2.2 hm) (Kd.C_below rb.2.2 hm) ra.2.1 rb.2.1 (wf_limbs _) (wf_limbs _) (by omega) (by omega))
          simp only [nv_limbs] at QC
          clear ra rb
          by_cases hmm : my < mz
          · have HC := Aside0.mk (show cmpN my mz = -1 by unfold cmpN; rw [if_pos hmm])
            rw [HC.out] at QC
            have HM := Aside0.mk hmm
            have hlen : (limbs (mz - my)).length ≤ 1073741824 := by
              refine Nat.le_trans (limbs_len_le (k := (limbs mz).length) ?_) (by omega)
              have h2 := nv_lt (wf_limbs mz)
              rw [nv_limbs] at h2
              omega
            clear hmm
            have FIN : ∀ {W : World} {cs : Array Value}, RDy W W0.heap.size (.agg cs) (sgn (cneg z) (mz - my)) E → RDy W W0.heap.size (.agg cs) (y + z) e := by
              intro W cs h
              obtain ⟨q1, q2, q3⟩ := HJ.out
              rw [q1] at h
              have := RDy.scale j0 h
              rw [sgn_sub (Ne.symm HS.out) (Nat.le_of_lt HM.out), Int.add_mul, ← q2, ← q3, Int.add_comm] at this
              exact this
            go_upto_region 13 with (go_at_call 52; refine (QC.out _ (Below.refl _ _)).mono ?_; rintro en w' ⟨rfl, nn, rfl⟩)
            have B4 : Aside0 (Below wc.heap.size wc (w3.drewN nn)) := ⟨pw_below_drewN B3.out nn⟩
            have HRES4 := Aside0.mk (blk_drewN HRES3.out nn)
            have BW4 := Aside0.mk (pw_below_drewN BW3.out nn)
            have BS4 : W0.heap.size ≤ (w3.drewN nn).heap.size := BS3
            have R4' := Aside0.mk (Kd.R_drewN R4.out nn)
            have R3'' := Aside0.mk (Kd.R_drewN R3'.out nn)
            have hng : w.heap.size + 1 + 1 ≠ g6 := by omega
            refine wp_region_slots [68, 69, 70, 71, 72, 73, 74] (by kernel_rfl) (by kernel_rfl)
              (F := fun j q W => match j with | 0 => q = .pointer (some ⟨g6, 0, none⟩) | 1 => q = .bool (cneg z) | 2 => q = .slice A4 (limbs mz).length c4 | 3 => q = .slice A3 (limbs my).length c3 | 5 => q = .int .i64 E | 4 => kU.R 48 W W0.heap.size (fun _ => True) q (limbs (mz - my)) | 6 => RDy W W0.heap.size q (sgn (cneg z) (mz - my)) E | 7 => ∃ cs, W.heap[w.heap.size + 1 + 1]? = some (.cells cs 30 (0, 0)) ∧ cs.size = 3 ∧ RDy W W0.heap.size (.agg cs) (sgn (cneg z) (mz - my)) E | _ => True)
              (J := fun W => W.heap[g6]? = some (.cells #[.bool (cneg z), .slice A2 n2 c2, .int .i64 xz] 30 (0, 0)) ∧ (∃ cs, W.heap[w.heap.size + 1 + 1]? = some (.cells cs 30 (0, 0)) ∧ cs.size = 3) ∧ kU.R 48 W W0.heap.size (fun _ => True) (.slice A4 (limbs mz).length c4) (limbs mz) ∧ kU.R 48 W W0.heap.size (fun _ => True) (.slice A3 (limbs my).length c3) (limbs my) ∧ Below w.heap.size w W ∧ W0.heap.size ≤ W.heap.size)
              ?hJ ?hstep ?hend
            case hJ => exact ⟨blk_drew (blk_below H6.out B4.out), ⟨_, blk_drew HRES4.out, rfl⟩, Kd.R_drew R4'.out, Kd.R_drew R3''.out, below_drew BW4.out, BS4⟩
            case hstep =>
              intro k o ho v W L hJW hF hnk haft K hK
              obtain ⟨hg, ⟨cs0, hres, hcs0⟩, r3, r4, hB, hSZ⟩ := id hJW
              rcases k with _ | _ | _ | _ | _ | _ | _ | _ | k
              all_goals first
                | (cases ho; done)
                | (obtain rfl := (Option.some.inj ho).symm
                   clear ho
                   rw [if_pos (by rfl)]
                   simp only [setAll, List.setIfInBounds_toArray, List.set_cons_zero, List.set_cons_succ, List.getElem_toArray, List.getElem_cons_zero, List.getElem_cons_succ, Nat.reduceAdd] at haft hF hK ⊢)
              case zero =>
                have key := hK.out (.pointer (some ⟨g6, 0, none⟩)) W hJW (fun _ _ h => h) rfl
                go_simp
                simpa [upd] using key
              case succ.zero =>
                have f0 : v 0 = .pointer (some ⟨g6, 0, none⟩) := hF 0 (haft { on := 0, ground := .data } (by simp) rfl)
                have cc := (box_cell (v := .bool (cneg z)) hg 0 rfl).1
                have key := hK.out (.bool (cneg z)) W hJW (fun _ _ h => h) rfl
                go_simp
                simpa [upd, f0] using key
              case succ.succ.zero =>
                have key := hK.out (.slice A4 (limbs mz).length c4) W hJW (fun _ _ h => h) rfl
                go_simp
                simpa [upd] using key
              case succ.succ.succ.zero =>
                have key := hK.out (.slice A3 (limbs my).length c3) W hJW (fun _ _ h => h) rfl
                go_simp
                simpa [upd] using key
              case succ.succ.succ.succ.zero =>
                have f2 : v 2 = .slice A4 (limbs mz).length c4 := hF 2 (haft { on := 2, ground := .data } (by simp) rfl)
                have f3 : v 3 = .slice A3 (limbs my).length c3 := hF 3 (haft { on := 3, ground := .data } (by simp) rfl)
                obtain ⟨e1, e2, e3⟩ := Kd.R_reads' r3
                obtain ⟨e1', e2', e3'⟩ := Kd.R_reads' r4
                have hm := sub_any (limbs mz) (limbs my) A4 A3 (limbs mz).length (limbs my).length c4 c3 rfl rfl W e3 e3' e2 e2' (wf_limbs _) (wf_limbs _) (by omega) (by omega) (by simp only [nv_limbs]; exact Nat.le_of_lt HM.out)
                simp only [nv_limbs] at hm
                clear e1 e2 e3 e1' e2' e3'
                go_simp
                go_at_call 53
                refine hm.mono ?_
                rintro en w4 ⟨v1, rfl, hr, hb⟩
                have key := hK.out v1 w4 ⟨blk_below hg hb, ⟨_, blk_below hres hb, hcs0⟩, Kd.R_below r3 hb, Kd.R_below r4 hb, below_then hB hB.size hb, Nat.le_trans hSZ hb.size⟩ ?m13a (Kd.R_lower hr hSZ)
                · simpa [upd, f2, f3] using key
                intro j hj hf
                rcases j with _ | _ | _ | _ | _ | _ | _ | _ | j <;> first | exact hf | exact Kd.R_below hf hb | exact RDy.below hf hb | exact (let ⟨cs, p1, p2, p3⟩ := hf; ⟨cs, blk_below p1 hb, p2, p3.below hb⟩)
              case succ.succ.succ.succ.succ.zero =>
                have key := hK.out (.int .i64 E) W hJW (fun _ _ h => h) rfl
                go_simp
                simpa [upd] using key
              case succ.succ.succ.succ.succ.succ.zero =>
                have f1 : v 1 = .bool (cneg z) := hF 1 (haft { on := 1, ground := .data } (by simp) rfl)
                have f4 : kU.R 48 W W0.heap.size (fun _ => True) (v 4) (limbs (mz - my)) := hF 4 (haft { on := 4, ground := .data } (by simp) rfl)
                have f5 : v 5 = .int .i64 E := hF 5 (haft { on := 5, ground := .data } (by simp) rfl)
                obtain ⟨A5, c5, f4', hc5, hC5⟩ := Kd.R_reads f4
                have hm := form_any (cneg z) (limbs (mz - my)) A5 _ c5 E rfl W hC5 hc5 (wf_limbs _) (by exact hlen) (by omega) (by omega)
                rw [nv_limbs] at hm
                clear f4
                go_simp
                go_at_call 42
                refine hm.mono ?_
                rintro en w4 ⟨v1, rfl, hr, hb⟩
                have key := hK.out v1 w4 ⟨blk_below hg hb, ⟨_, blk_below hres hb, hcs0⟩, Kd.R_below r3 hb, Kd.R_below r4 hb, below_then hB hB.size hb, Nat.le_trans hSZ hb.size⟩ ?m13b (hr.lower hSZ)
                · simpa [upd, f1, f4', f5] using key
                intro j hj hf
                rcases j with _ | _ | _ | _ | _ | _ | _ | _ | j <;> first | exact hf | exact Kd.R_below hf hb | exact RDy.below hf hb | exact (let ⟨cs, p1, p2, p3⟩ := hf; ⟨cs, blk_below p1 hb, p2, p3.below hb⟩)
              case succ.succ.succ.succ.succ.succ.succ.zero =>
                have f6 : RDy W W0.heap.size (v 6) (sgn (cneg z) (mz - my)) E := hF 6 (haft { on := 6, ground := .data } (by simp) rfl)
                obtain ⟨A5, m5, c5, f6', hr5⟩ := id f6
                refine wp_store_box 30 4 (.tmp 74) rfl rfl (g := w.heap.size + 1 + 1) (e := 30) (v 6) [.bool (cneg (sgn (cneg z) (mz - my))), .slice A5 m5 c5, .int .i64 (cexp (sgn (cneg z) (mz - my)) E)] rfl rfl (by rw [f6']; rfl) info_dyad ?_ hres hcs0 ?_
                · intro q hq; simp at hq; rcases hq with rfl | rfl | rfl <;> rfl
                · intro w4 hw4 hg4
                  have hnew := f6.typed hres hg4
                  rw [f6'] at hnew
                  have key := hK.out undef w4 ⟨(hg4.block g6 (blk_lt hg) (fun he => by cases he; omega)).trans hg, ⟨_, hw4, rfl⟩, row_typed r3 hres hg4, row_typed r4 hres hg4, hB.grown hg4 hB.size (fun k hk => by cases hk; omega), Nat.le_trans hSZ hg4.size⟩ ?m13c ⟨_, hw4, rfl, hnew⟩
                  · simpa [upd] using key
                  intro j hj hf
                  rcases j with _ | _ | _ | _ | _ | _ | _ | _ | j <;> first | exact absurd hj hnk | exact hf | exact row_typed hf hres hg4 | exact RDy.typed hf hres hg4
            case hend =>
              intro v W hJW hF
              obtain ⟨_, _, _, _, hB, hSZ⟩ := hJW
              obtain ⟨cs, p1, p2, p3⟩ := hF 7 (by decide)
              simp only [setAll, List.setIfInBounds_toArray, List.set_cons_zero, List.set_cons_succ]
              go_wp2
              refine bodyPost_ret (results_dyad rfl _ _ (w.heap.size + 1 + 1) _ rfl p1 p2) rfl ?_
              refine ⟨_, rfl, RDy.lower ?_ HW.out.size, hB⟩
              exact FIN p3
          · have HC := Aside0.mk (show 0 ≤ cmpN my mz by unfold cmpN; rw [if_neg hmm]; split <;> decide)
            obtain ⟨cv, hcv⟩ : ∃ x, x = cmpN my mz := ⟨_, rfl⟩
            rw [← hcv] at QC HC
            have hcp : 0 ≤ cv := HC.out
            have HM := Aside0.mk (show mz ≤ my by omega)
            have hlen : (limbs (my - mz)).length ≤ 1073741824 := by
              refine Nat.le_trans (limbs_len_le (k := (limbs my).length) ?_) (by omega)
              have h2 := nv_lt (wf_limbs my)
              rw [nv_limbs] at h2
              omega
            clear hmm hcv
            have FIN : ∀ {W : World} {cs : Array Value}, RDy W W0.heap.size (.agg cs) (sgn (cneg y) (my - mz)) E → RDy W W0.heap.size (.agg cs) (y + z) e := by
              intro W cs h
              obtain ⟨q1, q2, q3⟩ := HJ.out
              rw [q1] at h
              have := RDy.scale j0 h
              rw [sgn_sub HS.out HM.out, Int.add_mul, ← q2, ← q3] at this
              exact this
            go_upto_region 12 with (go_at_call 52; refine (QC.out _ (Below.refl _ _)).mono ?_; rintro en w' ⟨rfl, nn, rfl⟩)
            have B4 : Aside0 (Below wc.heap.size wc (w3.drewN nn)) := ⟨pw_below_drewN B3.out nn⟩
            have HRES4 := Aside0.mk (blk_drewN HRES3.out nn)
            have BW4 := Aside0.mk (pw_below_drewN BW3.out nn)
            have BS4 : W0.heap.size ≤ (w3.drewN nn).heap.size := BS3
            have R4' := Aside0.mk (Kd.R_drewN R4.out nn)
            have R3'' := Aside0.mk (Kd.R_drewN R3'.out nn)
            have hng : w.heap.size + 1 + 1 ≠ g5 := by omega
            refine wp_region_slots [61, 62, 63, 64, 65, 66, 67] (by kernel_rfl) (by kernel_rfl)
              (F := fun j q W => match j with | 0 => q = .pointer (some ⟨g5, 0, none⟩) | 1 => q = .bool (cneg y) | 2 => q = .slice A3 (limbs my).length c3 | 3 => q = .slice A4 (limbs mz).length c4 | 5 => q = .int .i64 E | 4 => kU.R 48 W W0.heap.size (fun _ => True) q (limbs (my - mz)) | 6 => RDy W W0.heap.size q (sgn (cneg y) (my - mz)) E | 7 => ∃ cs, W.heap[w.heap.size + 1 + 1]? = some (.cells cs 30 (0, 0)) ∧ cs.size = 3 ∧ RDy W W0.heap.size (.agg cs) (sgn (cneg y) (my - mz)) E | _ => True)
              (J := fun W => W.heap[g5]? = some (.cells #[.bool (cneg y), .slice A1 n1 c1, .int .i64 xy] 30 (0, 0)) ∧ (∃ cs, W.heap[w.heap.size + 1 + 1]? = some (.cells cs 30 (0, 0)) ∧ cs.size = 3) ∧ kU.R 48 W W0.heap.size (fun _ => True) (.slice A3 (limbs my).length c3) (limbs my) ∧ kU.R 48 W W0.heap.size (fun _ => True) (.slice A4 (limbs mz).length c4) (limbs mz) ∧ Below w.heap.size w W ∧ W0.heap.size ≤ W.heap.size)
              ?hJ ?hstep ?hend
            case hJ => exact ⟨blk_drew (blk_below H5.out B4.out), ⟨_, blk_drew HRES4.out, rfl⟩, Kd.R_drew R3''.out, Kd.R_drew R4'.out, below_drew BW4.out, BS4⟩
            case hstep =>
              intro k o ho v W L hJW hF hnk haft K hK
              obtain ⟨hg, ⟨cs0, hres, hcs0⟩, r3, r4, hB, hSZ⟩ := id hJW
              rcases k with _ | _ | _ | _ | _ | _ | _ | _ | k
              all_goals first
                | (cases ho; done)
                | (obtain rfl := (Option.some.inj ho).symm
                   clear ho
                   rw [if_pos (by rfl)]
                   simp only [setAll, List.setIfInBounds_toArray, List.set_cons_zero, List.set_cons_succ, List.getElem_toArray, List.getElem_cons_zero, List.getElem_cons_succ, Nat.reduceAdd] at haft hF hK ⊢)
              case zero =>
                have key := hK.out (.pointer (some ⟨g5, 0, none⟩)) W hJW (fun _ _ h => h) rfl
                go_simp
                simpa [upd] using key
              case succ.zero =>
                have f0 : v 0 = .pointer (some ⟨g5, 0, none⟩) := hF 0 (haft { on := 0, ground := .data } (by simp) rfl)
                have cc := (box_cell (v := .bool (cneg y)) hg 0 rfl).1
                have key := hK.out (.bool (cneg y)) W hJW (fun _ _ h => h) rfl
                go_simp
                simpa [upd, f0] using key
              case succ.succ.zero =>
                have key := hK.out (.slice A3 (limbs my).length c3) W hJW (fun _ _ h => h) rfl
                go_simp
                simpa [upd] using key
              case succ.succ.succ.zero =>
                have key := hK.out (.slice A4 (limbs mz).length c4) W hJW (fun _ _ h => h) rfl
                go_simp
                simpa [upd] using key
              case succ.succ.succ.succ.zero =>
                have f2 : v 2 = .slice A3 (limbs my).length c3 := hF 2 (haft { on := 2, ground := .data } (by simp) rfl)
                have f3 : v 3 = .slice A4 (limbs mz).length c4 := hF 3 (haft { on := 3, ground := .data } (by simp) rfl)
                obtain ⟨e1, e2, e3⟩ := Kd.R_reads' r3
                obtain ⟨e1', e2', e3'⟩ := Kd.R_reads' r4
                have hm := sub_any (limbs my) (limbs mz) A3 A4 (limbs my).length (limbs mz).length c3 c4 rfl rfl W e3 e3' e2 e2' (wf_limbs _) (wf_limbs _) (by omega) (by omega) (by simp only [nv_limbs]; exact HM.out)
                simp only [nv_limbs] at hm
                clear e1 e2 e3 e1' e2' e3'
                go_simp
                go_at_call 53
                refine hm.mono ?_
                rintro en w4 ⟨v1, rfl, hr, hb⟩
                have key := hK.out v1 w4 ⟨blk_below hg hb, ⟨_, blk_below hres hb, hcs0⟩, Kd.R_below r3 hb, Kd.R_below r4 hb, below_then hB hB.size hb, Nat.le_trans hSZ hb.size⟩ ?m12a (Kd.R_lower hr hSZ)
                · simpa [upd, f2, f3] using key
                intro j hj hf
                rcases j with _ | _ | _ | _ | _ | _ | _ | _ | j <;> first | exact hf | exact Kd.R_below hf hb | exact RDy.below hf hb | exact (let ⟨cs, p1, p2, p3⟩ := hf; ⟨cs, blk_below p1 hb, p2, p3.below hb⟩)
              case succ.succ.succ.succ.succ.zero =>
                have key := hK.out (.int .i64 E) W hJW (fun _ _ h => h) rfl
                go_simp
                simpa [upd] using key
              case succ.succ.succ.succ.succ.succ.zero =>
                have f1 : v 1 = .bool (cneg y) := hF 1 (haft { on := 1, ground := .data } (by simp) rfl)
                have f4 : kU.R 48 W W0.heap.size (fun _ => True) (v 4) (limbs (my - mz)) := hF 4 (haft { on := 4, ground := .data } (by simp) rfl)
                have f5 : v 5 = .int .i64 E := hF 5 (haft { on := 5, ground := .data } (by simp) rfl)
                obtain ⟨A5, c5, f4', hc5, hC5⟩ := Kd.R_reads f4
                have hm := form_any (cneg y) (limbs (my - mz)) A5 _ c5 E rfl W hC5 hc5 (wf_limbs _) (by exact hlen) (by omega) (by omega)
                rw [nv_limbs] at hm
                clear f4
                go_simp
                go_at_call 42
                refine hm.mono ?_
                rintro en w4 ⟨v1, rfl, hr, hb⟩
                have key := hK.out v1 w4 ⟨blk_below hg hb, ⟨_, blk_below hres hb, hcs0⟩, Kd.R_below r3 hb, Kd.R_below r4 hb, below_then hB hB.size hb, Nat.le_trans hSZ hb.size⟩ ?m12b (hr.lower hSZ)
                · simpa [upd, f1, f4', f5] using key
                intro j hj hf
                rcases j with _ | _ | _ | _ | _ | _ | _ | _ | j <;> first | exact hf | exact Kd.R_below hf hb | exact RDy.below hf hb | exact (let ⟨cs, p1, p2, p3⟩ := hf; ⟨cs, blk_below p1 hb, p2, p3.below hb⟩)
              case succ.succ.succ.succ.succ.succ.succ.zero =>
                have f6 : RDy W W0.heap.size (v 6) (sgn (cneg y) (my - mz)) E := hF 6 (haft { on := 6, ground := .data } (by simp) rfl)
                obtain ⟨A5, m5, c5, f6', hr5⟩ := id f6
                refine wp_store_box 30 4 (.tmp 67) rfl rfl (g := w.heap.size + 1 + 1) (e := 30) (v 6) [.bool (cneg (sgn (cneg y) (my - mz))), .slice A5 m5 c5, .int .i64 (cexp (sgn (cneg y) (my - mz)) E)] rfl rfl (by rw [f6']; rfl) info_dyad ?_ hres hcs0 ?_
                · intro q hq; simp at hq; rcases hq with rfl | rfl | rfl <;> rfl
                · intro w4 hw4 hg4
                  have hnew := f6.typed hres hg4
                  rw [f6'] at hnew
                  have key := hK.out undef w4 ⟨(hg4.block g5 (blk_lt hg) (fun he => by cases he; omega)).trans hg, ⟨_, hw4, rfl⟩, row_typed r3 hres hg4, row_typed r4 hres hg4, hB.grown hg4 hB.size (fun k hk => by cases hk; omega), Nat.le_trans hSZ hg4.size⟩ ?m12c ⟨_, hw4, rfl, hnew⟩
                  · simpa [upd] using key
                  intro j hj hf
                  rcases j with _ | _ | _ | _ | _ | _ | _ | _ | j <;> first | exact absurd hj hnk | exact hf | exact row_typed hf hres hg4 | exact RDy.typed hf hres hg4
            case hend =>
              intro v W hJW hF
              obtain ⟨_, _, _, _, hB, hSZ⟩ := hJW
              obtain ⟨cs, p1, p2, p3⟩ := hF 7 (by decide)
              simp only [setAll, List.setIfInBounds_toArray, List.set_cons_zero, List.set_cons_succ]
              go_wp2
              refine bodyPost_ret (results_dyad rfl _ _ (w.heap.size + 1 + 1) _ rfl p1 p2) rfl ?_
              refine ⟨_, rfl, RDy.lower ?_ HW.out.size, hB⟩
              exact FIN p3
end Go.Proofs.Ytplkmbdoecepeaa
