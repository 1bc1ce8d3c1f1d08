/- The document's dyadic numbers (ulpref04): Times. -/
import Derived.Test.YtplkmbdoecepeaaOneOne
import Derived.Test.YtplkmbdoecepeaaRef3f
import Derived.Test.YtplkmbdoecepeaaRegVals
import Derived.Deep.DeepCutAuto
import Derived.Deep.RegionHeld3
namespace Go.Proofs.Ytplkmbdoecepeaa
open Go.RowKit Go.Proofs.YtplkmbdoecepeaaW.PrintWords Limb
set_option linter.unusedVariables false
set_option linter.unusedSimpArgs false

set_option maxHeartbeats 4000000 in
theorem times_dy (u v : Value) (y z e e' : Int) (w : World) (h : CDy w u y e) (h' : CDy w v z e') (hl : (limbs (cman y)).length ≤ 268435456) (hl' : (limbs (cman z)).length ≤ 268435456) (le1 : -274877906944 ≤ cexp y e) (le2 : cexp y e ≤ 274877906944) (le1' : -274877906944 ≤ cexp z e') (le2' : cexp z e' ≤ 274877906944) :
    Calls Try.prog 13 #[u, v] w fun en w' => ∃ v', en = .returned v' ∧ RDy w' w.heap.size v' (y * z) (e + e') ∧ Below w.heap.size w w' := by
  have Q1 := Aside0.mk (fun (m : World) (hm : Below w.heap.size w m) => one_dy u y e m (h.below hm) (by omega) (by omega) (by omega))
  have Q2 := Aside0.mk (fun (m : World) (hm : Below w.heap.size w m) => one_dy v z e' m (h'.below hm) (by omega) (by omega) (by omega))
  obtain ⟨A, n, c, rfl, hC, hn, hc⟩ := h
  obtain ⟨A', n', c', rfl, hC', hn', hc'⟩ := h'
  obtain ⟨x0, hx0⟩ : ∃ x, x = cexp y e := ⟨_, rfl⟩
  obtain ⟨x1, hx1⟩ : ∃ x, x = cexp z e' := ⟨_, rfl⟩
  obtain ⟨b0, hb0⟩ : ∃ x, x = cneg y := ⟨_, rfl⟩
  obtain ⟨b1, hb1⟩ : ∃ x, x = cneg z := ⟨_, rfl⟩
  rw [← hx0, ← hb0] at Q1
  rw [← hx1, ← hb1] at Q2
  rw [← hx0, ← hb0, ← hx1, ← hb1]
  obtain ⟨W0, hW0⟩ : ∃ W0, W0 = ((w.alloc (.cells #[.bool b0, .slice A n c, .int .i64 x0] 30)).alloc (.cells #[.bool b1, .slice A' n' c', .int .i64 x1] 30)).alloc (.cells #[.bool false, .slice none 0 0, .int .i64 0] 30) := ⟨_, rfl⟩
  have hh0 : Aside0 (W0.heap[w.heap.size]? = some (.cells #[.bool b0, .slice A n c, .int .i64 x0] 30 (0, 0))) := ⟨by rw [hW0]; exact blk_alloc (blk_alloc (blk_new _ _) _) _⟩
  have hh1 : Aside0 (W0.heap[w.heap.size + 1]? = some (.cells #[.bool b1, .slice A' n' c', .int .i64 x1] 30 (0, 0))) := ⟨by rw [hW0]; have := blk_new (w.alloc (.cells #[.bool b0, .slice A n c, .int .i64 x0] 30)) (.cells #[.bool b1, .slice A' n' c', .int .i64 x1] 30); rw [size_alloc'] at this; exact blk_alloc this _⟩
  have hh2 : Aside0 (W0.heap[w.heap.size + 1 + 1]? = some (.cells #[.bool false, .slice none 0 0, .int .i64 0] 30 (0, 0))) := ⟨by rw [hW0]; have := blk_new ((w.alloc (.cells #[.bool b0, .slice A n c, .int .i64 x0] 30)).alloc (.cells #[.bool b1, .slice A' n' c', .int .i64 x1] 30)) (.cells #[.bool false, .slice none 0 0, .int .i64 0] 30); rw [size_alloc', size_alloc'] at this; exact this⟩
  have HW : Aside0 (Below w.heap.size w W0) := ⟨by rw [hW0]; exact below_alloc (below_alloc (below_alloc (Below.refl _ _) _) _) _⟩
  have HE := Aside0.mk (And.intro hx0 (And.intro hx1 (And.intro hb0 hb1)))
  clear hC hC' hx0 hx1 hb0 hb1
  go_enter Try.func13, Try.ntmps13
  go_upto_region 1 with fail
  rw [← hW0]
  clear hW0
  go_cut [5, 6] (fun v5 v6 wx => Aside0 (∃ v7 v8 v9 v10 L, (∀ i, i < 8 → L.getD i false = true) ∧ OO W0 (.agg #[.bool b0, .slice A n c, .int .i64 x0]) (.agg #[.bool b1, .slice A' n' c', .int .i64 x1]) y e z e' L wx v5 v6 v7 v8 v9 v10))
  case first =>
    rename_i QQ KC aC J K1 aJ aM
    clear aC
    refine wp_region_inv (by kernel_rfl) (by kernel_rfl) (fun L a W => ∃ v5 v6 v7 v8 v9 v10, a = { tmps := #[.agg #[.bool b0, .slice A n c, .int .i64 x0], .agg #[.bool b1, .slice A' n' c', .int .i64 x1], .pointer (some ⟨w.heap.size, 0, none⟩), .pointer (some ⟨w.heap.size + 1, 0, none⟩), .pointer (some ⟨w.heap.size + 1 + 1, 0, none⟩), v5, v6, v7, v8, v9, v10, undef, undef, undef, undef, undef, undef, undef, undef, undef, undef, undef, undef, undef, undef, undef, undef], defers := [] } ∧ OO W0 (.agg #[.bool b0, .slice A n c, .int .i64 x0]) (.agg #[.bool b1, .slice A' n' c', .int .i64 x1]) y e z e' L W v5 v6 v7 v8 v9 v10) ?h0 ?hstep ?hend
    case h0 =>
      refine ⟨undef, undef, undef, undef, undef, undef, rfl, ⟨below_drew (Below.refl _ _), ?_, ?_, ?_, ?_, ?_, ?_, ?_, ?_, ?_, rfl⟩⟩ <;> intro h <;> cases h
    case hstep =>
      intro i o ho L a W hs hl haft hI K hK
      obtain ⟨v5, v6, v7, v8, v9, v10, rfl, hO⟩ := hI
      rcases i with _ | _ | _ | _ | _ | _ | _ | _ | i
      all_goals first
        | (cases ho; done)
        | (obtain rfl := (Option.some.inj ho).symm
           clear ho
           rw [if_pos (by rfl)]
           simp only [List.getElem_toArray, List.getElem_cons_zero, List.getElem_cons_succ, Nat.reduceAdd] at haft hl hK ⊢)
      case zero =>
        obtain ⟨c0, _⟩ := box_cell (blk_below hh0.out hO.below) 0 rfl
        obtain ⟨c1, _⟩ := box_cell (blk_below hh0.out hO.below) 1 rfl
        obtain ⟨c2, _⟩ := box_cell (blk_below hh0.out hO.below) 2 rfl
        go_simp
        exact hK.out _ _ ⟨_, _, _, _, _, _, rfl, hO.load0⟩
      case succ.succ.zero =>
        obtain ⟨c0, _⟩ := box_cell (blk_below hh1.out hO.below) 0 rfl
        obtain ⟨c1, _⟩ := box_cell (blk_below hh1.out hO.below) 1 rfl
        obtain ⟨c2, _⟩ := box_cell (blk_below hh1.out hO.below) 2 rfl
        go_simp
        exact hK.out _ _ ⟨_, _, _, _, _, _, rfl, hO.load2⟩
      case succ.zero =>
        simp [Region.binds] at haft
        obtain rfl := hO.l0 (by simpa [Array.getD_eq_getD_getElem?] using haft)
        have hB := below_then HW.out HW.out.size hO.below
        go_simp
        go_at_call 41
        refine (Q1.out _ hB).mono ?_
        rintro en w1 ⟨v1, rfl, hr, hb⟩
        exact hK.out _ _ ⟨_, _, _, _, _, _, rfl, hO.call1 (not_listed hl) hr hb⟩
      case succ.succ.succ.zero =>
        simp [Region.binds] at haft
        obtain rfl := hO.l2 (by simpa [Array.getD_eq_getD_getElem?] using haft.1)
        have hB := below_then HW.out HW.out.size hO.below
        go_simp
        go_at_call 41
        refine (Q2.out _ hB).mono ?_
        rintro en w1 ⟨v1, rfl, hr, hb⟩
        exact hK.out _ _ ⟨_, _, _, _, _, _, rfl, hO.call3 (not_listed hl) hr hb⟩
      case succ.succ.succ.succ.zero =>
        go_simp
        exact hK.out _ _ ⟨_, _, _, _, _, _, rfl, hO.alloc4 (not_listed hl) rfl⟩
      case succ.succ.succ.succ.succ.zero =>
        go_simp
        exact hK.out _ _ ⟨_, _, _, _, _, _, rfl, hO.alloc5 (not_listed hl) rfl⟩
      case succ.succ.succ.succ.succ.succ.zero =>
        simp [Region.binds] at haft
        have h4 : L.getD 4 false = true := by simpa [Array.getD_eq_getD_getElem?] using haft.1
        have h1 : L.getD 1 false = true := by simpa [Array.getD_eq_getD_getElem?] using haft.2.1
        obtain ⟨g, cs, rfl, hgw, hh, hcs⟩ := store_at (hO.l4 h4)
        obtain ⟨A1, m1, c1, rfl, _⟩ := id (hO.l1 h1)
        refine wp_store_box 30 5 (.tmp 8) rfl rfl (g := g) (e := 30) (.agg #[.bool (cneg y), .slice A1 m1 c1, .int .i64 (cexp y e)]) [.bool (cneg y), .slice A1 m1 c1, .int .i64 (cexp y e)] rfl rfl rfl info_dyad ?_ hh hcs ?_
        · intro q hq; simp at hq; rcases hq with rfl | rfl | rfl <;> rfl
        · intro w1 hw1 hg1
          exact hK.out _ _ ⟨_, _, _, _, _, _, rfl, OO.store6 h1 h4 hO rfl h4 hh hgw hw1 rfl rfl hg1⟩
      case succ.succ.succ.succ.succ.succ.succ.zero =>
        simp [Region.binds] at haft
        have h4 : L.getD 5 false = true := by simpa [Array.getD_eq_getD_getElem?] using haft.1
        have h1 : L.getD 3 false = true := by simpa [Array.getD_eq_getD_getElem?] using haft.2.1
        obtain ⟨g, cs, rfl, hgw, hh, hcs⟩ := store_at (hO.l5 h4)
        obtain ⟨A1, m1, c1, rfl, _⟩ := id (hO.l3 h1)
        refine wp_store_box 30 6 (.tmp 10) rfl rfl (g := g) (e := 30) (.agg #[.bool (cneg z), .slice A1 m1 c1, .int .i64 (cexp z e')]) [.bool (cneg z), .slice A1 m1 c1, .int .i64 (cexp z e')] rfl rfl rfl info_dyad ?_ hh hcs ?_
        · intro q hq; simp at hq; rcases hq with rfl | rfl | rfl <;> rfl
        · intro w1 hw1 hg1
          exact hK.out _ _ ⟨_, _, _, _, _, _, rfl, OO.store7 h1 h4 hO rfl h4 hh hgw hw1 rfl rfl hg1⟩
    case hend =>
      intro L a W hall hI
      obtain ⟨v5, v6, v7, v8, v9, v10, rfl, hO⟩ := hI
      refine aM _ _ (Met.intro (aJ _ _ ?_))
      repeat apply Exists.intro
      exact ⟨⟨v7, v8, v9, v10, L, hall, hO⟩, rfl⟩
  case rest =>
    obtain ⟨v7, v8, v9, v10, L, hall, hO⟩ := hcut.out
    obtain ⟨g5, g6, A1, n1, c1, A2, n2, c2, rfl, rfl, h5, h6, r1, r2, hB, hg5, hg6⟩ := hO.done hall
    obtain ⟨d0, _⟩ := box_cell h5 0 rfl
    obtain ⟨d1, _⟩ := box_cell h5 1 rfl
    obtain ⟨d2, _⟩ := box_cell h5 2 rfl
    obtain ⟨f0, _⟩ := box_cell h6 0 rfl
    obtain ⟨f1, _⟩ := box_cell h6 1 rfl
    obtain ⟨f2, _⟩ := box_cell h6 2 rfl
    have HB := Aside0.mk hB
    have H5 := Aside0.mk h5
    have H6 := Aside0.mk h6
    have R1 := Aside0.mk r1
    have R2 := Aside0.mk r2
    clear hcut hO hB h5 h6 r1 r2 hall
    -- REGION 2
    have HRES := Aside0.mk (blk_below hh2.out HB.out)
    have hsz : w.heap.size + 3 ≤ W0.heap.size := by have := blk_lt hh2.out; omega
    have hwr : IntKind.i64.wrap (cexp y e + cexp z e') = cexp y e + cexp z e' := wrap_i64 (by omega) (by omega)
    go_upto_region 2 with fail
    refine wp_region_vals (by kernel_rfl) (by kernel_rfl) (T := fun v => #[.agg #[.bool b0, .slice A n c, .int .i64 x0], .agg #[.bool b1, .slice A' n' c', .int .i64 x1], .pointer (some ⟨w.heap.size, 0, none⟩), .pointer (some ⟨w.heap.size + 1, 0, none⟩), .pointer (some ⟨w.heap.size + 1 + 1, 0, none⟩), .pointer (some ⟨g5, 0, none⟩), .pointer (some ⟨g6, 0, none⟩), u7, u8, u9, u10, v 0, v 1, v 2, v 3, v 4, v 5, v 6, v 7, v 8, v 9, v 10, v 11, v 12, v 13, v 14, v 15]) (v0 := fun k => [u11, u12, u13, u14, u15, u16, u17, u18, u19, u20, u21, u22, u23, u24, u25, u26].getD k undef)
      (F := fun j q W => match j with | 0 => q = .pointer (some ⟨g5, 0, none⟩) | 1 => q = .bool (cneg y) | 2 => q = .pointer (some ⟨g6, 0, none⟩) | 3 => q = .bool (cneg z) | 4 => q = .bool (!(cneg y == cneg z)) | 5 => q = .pointer (some ⟨g5, 1, none⟩) | 6 => q = .slice A1 n1 c1 | 7 => q = .pointer (some ⟨g6, 1, none⟩) | 8 => q = .slice A2 n2 c2 | 10 => q = .pointer (some ⟨g5, 2, none⟩) | 11 => q = .int .i64 (cexp y e) | 12 => q = .pointer (some ⟨g6, 2, none⟩) | 13 => q = .int .i64 (cexp z e') | 14 => q = .int .i64 (cexp y e + cexp z e') | 9 => kU.R 48 W W0.heap.size (fun _ => True) q (limbs (cman y * cman z)) | 15 => RDy W W0.heap.size q (sgn (!(cneg y == cneg z)) (cman y * cman z)) (cexp y e + cexp z e') | 16 => ∃ cs, W.heap[w.heap.size + 1 + 1]? = some (.cells cs 30 (0, 0)) ∧ cs.size = 3 ∧ RDy W W0.heap.size (.agg cs) (sgn (!(cneg y == cneg z)) (cman y * cman z)) (cexp y e + cexp z e') | _ => True)
      (J := fun W => W.heap[g5]? = some (.cells #[.bool (cneg y), .slice A1 n1 c1, .int .i64 (cexp y e)] 30 (0, 0)) ∧ W.heap[g6]? = some (.cells #[.bool (cneg z), .slice A2 n2 c2, .int .i64 (cexp z e')] 30 (0, 0)) ∧ (∃ cs, W.heap[w.heap.size + 1 + 1]? = some (.cells cs 30 (0, 0)) ∧ cs.size = 3) ∧ kU.R 48 W W0.heap.size (fun _ => True) (.slice A1 n1 c1) (limbs (cman y)) ∧ kU.R 48 W W0.heap.size (fun _ => True) (.slice A2 n2 c2) (limbs (cman z)) ∧ Below w.heap.size w W ∧ W0.heap.size ≤ W.heap.size)
      ?hJ ?hstep ?hend
    case hJ =>
      exact ⟨H5.out, H6.out, ⟨_, HRES.out, rfl⟩, Kd.R_drew R1.out, Kd.R_drew R2.out, below_drew (below_then HW.out HW.out.size HB.out), HB.out.size⟩
    case hstep =>
      intro k o ho v W L hJW hF hnk _ haft K hK
      obtain ⟨h5, h6, ⟨cs0, hres, hcs0⟩, r1, r2, hB, hSZ⟩ := id hJW
      rcases k with _ | _ | _ | _ | _ | _ | _ | _ | _ | _ | _ | _ | _ | _ | _ | _ | _ | k
      all_goals first
        | (cases ho; done)
        | (obtain rfl := (Option.some.inj ho).symm
           clear ho
           rw [if_pos (by rfl)]
           simp only [List.getElem_toArray, List.getElem_cons_zero, List.getElem_cons_succ, Nat.reduceAdd] at haft hF hK ⊢)
      case zero =>
        have key := hK.out (.pointer (some ⟨g5, 0, none⟩)) W hJW (fun _ _ h => h) rfl
        go_simp
        simpa [upd] using key
      case succ.zero =>
        have f0 : v 0 = .pointer (some ⟨g5, 0, none⟩) := hF 0 (haft { on := 0, ground := .data } (by simp) rfl)
        have cc := (box_cell (v := .bool (cneg y)) h5 0 rfl).1
        have key := hK.out (.bool (cneg y)) W hJW (fun _ _ h => h) rfl
        go_simp
        simpa [upd, f0] using key
      case succ.succ.zero =>
        have key := hK.out (.pointer (some ⟨g6, 0, none⟩)) W hJW (fun _ _ h => h) rfl
        go_simp
        simpa [upd] using key
      case succ.succ.succ.zero =>
        have f2 : v 2 = .pointer (some ⟨g6, 0, none⟩) := hF 2 (haft { on := 2, ground := .data } (by simp) rfl)
        have cc := (box_cell (v := .bool (cneg z)) h6 0 rfl).1
        have key := hK.out (.bool (cneg z)) W hJW (fun _ _ h => h) rfl
        go_simp
        simpa [upd, f2] using key
      case succ.succ.succ.succ.zero =>
        have f1 : v 1 = .bool (cneg y) := hF 1 (haft { on := 1, ground := .data } (by simp) rfl)
        have f3 : v 3 = .bool (cneg z) := hF 3 (haft { on := 3, ground := .data } (by simp) rfl)
        have key := hK.out (.bool (!(cneg y == cneg z))) W hJW (fun _ _ h => h) rfl
        go_simp
        simpa [upd, f1, f3] using key
      case succ.succ.succ.succ.succ.zero =>
        have key := hK.out (.pointer (some ⟨g5, 1, none⟩)) W hJW (fun _ _ h => h) rfl
        go_simp
        simpa [upd] using key
      case succ.succ.succ.succ.succ.succ.zero =>
        have f5 : v 5 = .pointer (some ⟨g5, 1, none⟩) := hF 5 (haft { on := 5, ground := .data } (by simp) rfl)
        have cc := (box_cell (v := .slice A1 n1 c1) h5 1 rfl).1
        have key := hK.out (.slice A1 n1 c1) W hJW (fun _ _ h => h) rfl
        go_simp
        simpa [upd, f5] using key
      case succ.succ.succ.succ.succ.succ.succ.zero =>
        have key := hK.out (.pointer (some ⟨g6, 1, none⟩)) W hJW (fun _ _ h => h) rfl
        go_simp
        simpa [upd] using key
      case succ.succ.succ.succ.succ.succ.succ.succ.zero =>
        have f7 : v 7 = .pointer (some ⟨g6, 1, none⟩) := hF 7 (haft { on := 7, ground := .data } (by simp) rfl)
        have cc := (box_cell (v := .slice A2 n2 c2) h6 1 rfl).1
        have key := hK.out (.slice A2 n2 c2) W hJW (fun _ _ h => h) rfl
        go_simp
        simpa [upd, f7] using key
      case succ.succ.succ.succ.succ.succ.succ.succ.succ.zero =>
        have f6 : v 6 = .slice A1 n1 c1 := hF 6 (haft { on := 6, ground := .data } (by simp) rfl)
        have f8 : v 8 = .slice A2 n2 c2 := hF 8 (haft { on := 8, ground := .data } (by simp) rfl)
        obtain ⟨e1, e2, e3⟩ := Kd.R_reads' r1
        obtain ⟨e1', e2', e3'⟩ := Kd.R_reads' r2
        have hm := mul_any (limbs (cman y)) (limbs (cman z)) A1 A2 n1 n2 c1 c2 e1.symm e1'.symm W (by rw [e1]; exact e3) (by rw [e1']; exact e3') e2 e2' (wf_limbs _) (wf_limbs _) (by omega) (by omega)
        rw [nv_limbs, nv_limbs] at hm
        clear e1 e2 e3 e1' e2' e3'
        go_simp
        go_at_call 43
        refine hm.mono ?_
        rintro en w1 ⟨v1, rfl, hr, hb⟩
        have key := hK.out v1 w1 ⟨blk_below h5 hb, blk_below h6 hb, ⟨_, blk_below hres hb, hcs0⟩, Kd.R_below r1 hb, Kd.R_below r2 hb, below_then hB hB.size hb, Nat.le_trans hSZ hb.size⟩ ?mono9 (Kd.R_lower hr hSZ)
        · simpa [upd, f6, f8] using key
        intro j hj hf
        rcases j with _ | _ | _ | _ | _ | _ | _ | _ | _ | _ | _ | _ | _ | _ | _ | _ | _ | j <;> first | exact hf | exact Kd.R_below hf hb | exact RDy.below hf hb | exact (let ⟨cs, p1, p2, p3⟩ := hf; ⟨cs, blk_below p1 hb, p2, p3.below hb⟩)
      case succ.succ.succ.succ.succ.succ.succ.succ.succ.succ.zero =>
        have key := hK.out (.pointer (some ⟨g5, 2, none⟩)) W hJW (fun _ _ h => h) rfl
        go_simp
        simpa [upd] using key
      case succ.succ.succ.succ.succ.succ.succ.succ.succ.succ.succ.zero =>
        have f10 : v 10 = .pointer (some ⟨g5, 2, none⟩) := hF 10 (haft { on := 10, ground := .data } (by simp) rfl)
        have cc := (box_cell (v := .int .i64 (cexp y e)) h5 2 rfl).1
        have key := hK.out (.int .i64 (cexp y e)) W hJW (fun _ _ h => h) rfl
        go_simp
        simpa [upd, f10] using key
      case succ.succ.succ.succ.succ.succ.succ.succ.succ.succ.succ.succ.zero =>
        have key := hK.out (.pointer (some ⟨g6, 2, none⟩)) W hJW (fun _ _ h => h) rfl
        go_simp
        simpa [upd] using key
      case succ.succ.succ.succ.succ.succ.succ.succ.succ.succ.succ.succ.succ.zero =>
        have f12 : v 12 = .pointer (some ⟨g6, 2, none⟩) := hF 12 (haft { on := 12, ground := .data } (by simp) rfl)
        have cc := (box_cell (v := .int .i64 (cexp z e')) h6 2 rfl).1
        have key := hK.out (.int .i64 (cexp z e')) W hJW (fun _ _ h => h) rfl
        go_simp
        simpa [upd, f12] using key
      case succ.succ.succ.succ.succ.succ.succ.succ.succ.succ.succ.succ.succ.succ.zero =>
        have f11 : v 11 = .int .i64 (cexp y e) := hF 11 (haft { on := 11, ground := .data } (by simp) rfl)
        have f13 : v 13 = .int .i64 (cexp z e') := hF 13 (haft { on := 13, ground := .data } (by simp) rfl)
        have key := hK.out (.int .i64 (cexp y e + cexp z e')) W hJW (fun _ _ h => h) rfl
        go_simp
        simpa [upd, f11, f13] using key
      case succ.succ.succ.succ.succ.succ.succ.succ.succ.succ.succ.succ.succ.succ.succ.zero =>
        have f4 : v 4 = .bool (!(cneg y == cneg z)) := hF 4 (haft { on := 4, ground := .data } (by simp) rfl)
        have f9 : kU.R 48 W W0.heap.size (fun _ => True) (v 9) (limbs (cman y * cman z)) := hF 9 (haft { on := 9, ground := .data } (by simp) rfl)
        have f14 : v 14 = .int .i64 (cexp y e + cexp z e') := hF 14 (haft { on := 14, ground := .data } (by simp) rfl)
        obtain ⟨A3, c3, f9', hc3, hC3⟩ := Kd.R_reads f9
        have hlen : (limbs (cman y * cman z)).length ≤ 1073741824 := by
          refine Nat.le_trans (limbs_len_le (k := (limbs (cman y)).length + (limbs (cman z)).length) ?_) (by omega)
          have q1 := nv_lt (wf_limbs (cman y))
          have q2 := nv_lt (wf_limbs (cman z))
          rw [nv_limbs] at q1 q2
          rw [Nat.mul_add, Nat.pow_add]
          exact Nat.mul_lt_mul'' q1 q2
        have hm := form_any (!(cneg y == cneg z)) (limbs (cman y * cman z)) A3 _ c3 (cexp y e + cexp z e') rfl W hC3 hc3 (wf_limbs _) hlen (by omega) (by omega)
        rw [nv_limbs] at hm
        clear f9
        go_simp
        go_at_call 42
        refine hm.mono ?_
        rintro en w1 ⟨v1, rfl, hr, hb⟩
        have key := hK.out v1 w1 ⟨blk_below h5 hb, blk_below h6 hb, ⟨_, blk_below hres hb, hcs0⟩, Kd.R_below r1 hb, Kd.R_below r2 hb, below_then hB hB.size hb, Nat.le_trans hSZ hb.size⟩ ?mono15 (hr.lower hSZ)
        · simpa [upd, f4, f9', f14] using key
        intro j hj hf
        rcases j with _ | _ | _ | _ | _ | _ | _ | _ | _ | _ | _ | _ | _ | _ | _ | _ | _ | j <;> first | exact hf | exact Kd.R_below hf hb | exact RDy.below hf hb | exact (let ⟨cs, p1, p2, p3⟩ := hf; ⟨cs, blk_below p1 hb, p2, p3.below hb⟩)
      case succ.succ.succ.succ.succ.succ.succ.succ.succ.succ.succ.succ.succ.succ.succ.succ.zero =>
        have f15 : RDy W W0.heap.size (v 15) (sgn (!(cneg y == cneg z)) (cman y * cman z)) (cexp y e + cexp z e') := hF 15 (haft { on := 15, ground := .data } (by simp) rfl)
        obtain ⟨A3, m3, c3, f15', hr3⟩ := id f15
        refine wp_store_box 30 4 (.tmp 26) rfl rfl (g := w.heap.size + 1 + 1) (e := 30) (v 15) [.bool (cneg (sgn (!(cneg y == cneg z)) (cman y * cman z))), .slice A3 m3 c3, .int .i64 (cexp (sgn (!(cneg y == cneg z)) (cman y * cman z)) (cexp y e + cexp z e'))] rfl rfl (by rw [f15']; rfl) info_dyad ?_ hres hcs0 ?_
        · intro q hq; simp at hq; rcases hq with rfl | rfl | rfl <;> rfl
        · intro w1 hw1 hg1
          have hnew := f15.typed hres hg1
          rw [f15'] at hnew
          have key := hK.out undef w1 ⟨(hg1.block g5 (blk_lt h5) (fun he => by cases he; omega)).trans h5, (hg1.block g6 (blk_lt h6) (fun he => by cases he; omega)).trans h6, ⟨_, hw1, rfl⟩, row_typed r1 hres hg1, row_typed r2 hres hg1, hB.grown hg1 hB.size (fun k hk => by cases hk; omega), Nat.le_trans hSZ hg1.size⟩ ?mono16 ⟨_, hw1, rfl, hnew⟩
          · simpa [upd] using key
          intro j hj hf
          rcases j with _ | _ | _ | _ | _ | _ | _ | _ | _ | _ | _ | _ | _ | _ | _ | _ | _ | j <;> first | exact absurd hj hnk | exact hf | exact row_typed hf hres hg1 | exact RDy.typed hf hres hg1
    case hend =>
      intro v W hJW hF
      obtain ⟨_, _, _, _, _, hB, hSZ⟩ := hJW
      obtain ⟨cs, p1, p2, p3⟩ := hF 16 (by decide)
      go_wp2
      refine bodyPost_ret (results_dyad rfl _ _ (w.heap.size + 1 + 1) _ rfl p1 p2) rfl ?_
      refine ⟨_, rfl, ?_, hB⟩
      refine RDy.lower ?_ HW.out.size
      exact times_form p3
end Go.Proofs.Ytplkmbdoecepeaa
