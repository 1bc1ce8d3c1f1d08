/- EftSums' 'all': the exact sum of a list's floats. -/
import Derived.Test.YtplkmbdoecepeaaEftSums
import Derived.Test.YtplkmbdoecepeaaPlusLaw
import Derived.Test.YtplkmbdoecepeaaRegValsL
import Derived.Test.YtplkmbdoecepeaaLst
namespace Go.Proofs.Ytplkmbdoecepeaa
open Go.RowKit Go.Proofs.YtplkmbdoecepeaaW.PrintWords Limb Ieee EftPure
set_option linter.unusedVariables false
set_option linter.unusedSimpArgs false

theorem IsL.at {l : List Nat} {L : List Int} (h : IsL l L) : ∀ {k x : Nat}, l[k]? = some x → ∃ X, IsF x X ∧ L[k]? = some X := by
  induction h with
  | nil => intro k x hx; simp at hx
  | @cons y Y l L hy _ ih =>
    intro k x hx
    cases k with
    | zero => simp at hx ⊢; subst hx; exact hy
    | succ k => simp at hx ⊢; exact ih hx
theorem big_of {x : Nat} {Z : Int} (h : IsF x Z) : Z.natAbs < 2 ^ TT := by
  obtain ⟨sg, m, k, hr, _⟩ := id h
  obtain ⟨Z', h1, h2⟩ := isF_of_read hr
  rw [h.fun_ h1]; exact h2
theorem isum_take {L : List Int} {k : Nat} {X : Int} (h : L[k]? = some X) : isum (L.take (k + 1)) = isum (L.take k) + X := by
  obtain ⟨hk, rfl⟩ := List.getElem?_eq_some_iff.1 h
  rw [List.take_succ_eq_append_getElem hk, isum_append]; simp [isum]
theorem isum_take_lt {l : List Nat} {L : List Int} (h : IsL l L) (hn : l.length ≤ 1048576) (k : Nat) : (isum (L.take k)).natAbs < 2 ^ (TT + 21) := by
  have key : ∀ {l : List Nat} {L : List Int}, IsL l L → sumAbs L ≤ l.length * 2 ^ TT := by
    intro l L h
    induction h with
    | nil => simp [sumAbs]
    | @cons x X l L hx _ ih =>
      have := big_of hx
      simp only [sumAbs, List.length_cons, Nat.add_mul]
      omega
  have h1 : ∀ (L : List Int) (k : Nat), sumAbs (L.take k) ≤ sumAbs L := by
    intro L
    induction L with
    | nil => intro k; simp [sumAbs]
    | cons x L ih => intro k; cases k with
      | zero => simp [sumAbs]
      | succ k => simp only [List.take_succ_cons, sumAbs]; have := ih k; omega
  have h2 := isum_abs (L.take k)
  have h3 := h1 L k
  have h4 := key h
  have h5 : l.length * 2 ^ TT ≤ 1048576 * 2 ^ TT := Nat.mul_le_mul_right _ hn
  have h6 : (2 : Nat) ^ (TT + 21) = 2097152 * 2 ^ TT := by rw [Nat.pow_add, Nat.mul_comm]
  have := Nat.two_pow_pos TT
  omega

set_option maxRecDepth 100000 in
set_option maxHeartbeats 4000000 in
theorem all_any (l : List Nat) (L : List Int) (hl : IsL l L) (wl : Wl l) (hn : l.length ≤ 1048576) (A : Option Addr) (c : Nat) (w : World) (hr : kF.C w A l.length l) (hc : l.length ≤ c) :
    Calls Try.prog 37 #[.slice A l.length c] w fun e w' => ∃ v, e = .returned v ∧ RDy w' w.heap.size v (isum L) (-1074) ∧ Below w.heap.size w w' := by
  have HR := Aside0.mk hr
  have HI_ := Aside0.mk hl
  have HW := Aside0.mk wl
  clear hr
  go_enter Try.func37, Try.ntmps37
  go_wp2
  go_loopw [9] (fun i wr => ∃ (k : Nat) (As : Option Addr) (ns cs : Nat), i = .int .i64 k ∧ k ≤ l.length ∧
      Aside0 (wr.heap[w.heap.size]? = some (.cells #[.bool false, .slice none 0 0, .int .i64 0] 30 (0, 0))) ∧
      Aside0 (wr.heap[w.heap.size + 1]? = some (.cells #[.bool (cneg (isum (L.take k))), .slice As ns cs, .int .i64 (cexp (isum (L.take k)) (-1074))] 30 (0, 0))) ∧
      Aside0 (kU.R 48 wr (w.heap.size + 2) (fun _ => True) (.slice As ns cs) (limbs (cman (isum (L.take k))))) ∧ Aside0 (Below w.heap.size w wr ∧ w.heap.size + 2 ≤ wr.heap.size)) (fun i _ => l.length - (intOf i).toNat)
  case atStart =>
    refine ⟨0, none, 0, 0, rfl, Nat.zero_le _, ⟨?_⟩, ⟨?_⟩, ⟨?_⟩, ⟨?_, ?_⟩⟩
    · exact blk_alloc (blk_new _ _) _
    · have := blk_new (w.alloc (.cells #[.bool false, .slice none 0 0, .int .i64 0] 30)) (.cells #[.bool false, .slice none 0 0, .int .i64 0] 30)
      rw [size_alloc'] at this
      exact this
    · rw [show limbs (cman (isum (L.take 0))) = [] by simp [isum, cman_zero, limbs_zero]]
      exact Kd.R_nil _ _ _ _ _
    · exact below_alloc (below_alloc (Below.refl _ _) _) _
    · rw [size_alloc', size_alloc']; exact Nat.le_refl _
  case round =>
    obtain ⟨k, As, ns, cs, rfl, hk, H2, H3, HS, HB⟩ := hrel
    obtain ⟨S, hS⟩ : ∃ S, S = isum (L.take k) := ⟨_, rfl⟩
    have bS := isum_take_lt HI_.out hn k
    rw [← hS] at H3 HS bS
    have hTT := TT_eq
    obtain ⟨lS, xS⟩ := form_small (e := -1074) (k := 40) bS (by omega)
    have xS2 : -8589934592 ≤ cexp S (-1074) ∧ cexp S (-1074) ≤ 8589934592 := by omega
    by_cases hlt : k < l.length
    · obtain ⟨ad, x, rfl, hx0, hcell0⟩ := at_float HR.out rfl k hlt
      obtain ⟨X, iX, hX⟩ := IsL.at HI_.out hx0
      have hcell := pw_cell_below HB.out.1 hcell0
      have wx := HW.out x (List.mem_of_getElem? hx0)
      obtain ⟨lX, xX⟩ := form_small (e := -1074) (k := 40) (big_of iX) (by omega)
      have xX2 : -8589934592 ≤ cexp X (-1074) ∧ cexp X (-1074) ≤ 8589934592 := by omega
      have hS2 := Aside0.mk (show isum (L.take (k + 1)) = S + X by rw [isum_take hX, hS])
      have NX := Aside0.mk (fun (m : World) => number_any x X iX wx m)
      have PX := Aside0.mk (fun (u v : Value) (m : World) (h : CDy m u S (-1074)) (h' : CDy m v X (-1074)) => plus_dy u v S X (-1074) m h h' (by omega) (by omega) (by omega) (by omega) (by omega) (by omega))
      clear hcell0 iX hX wx lX xX xX2 lS xS xS2 hTT bS hS
      go_upto_region 5 with fail
      refine wp_region_slotsL [13, 14, 15, 16] (by kernel_rfl) (by kernel_rfl)
        (F := fun j q W => match j with | 0 => q = .agg #[.bool (cneg S), .slice As ns cs, .int .i64 (cexp S (-1074))] | 1 => q = .float .f64 x | 2 => RDy W (w.heap.size + 2) q X (-1074) | 3 => RDy W (w.heap.size + 2) q (S + X) (-1074) | _ => True)
        (J := fun L0 W => (Below w.heap.size w W ∧ w.heap.size + 2 ≤ W.heap.size) ∧ W.heap[w.heap.size]? = some (.cells #[.bool false, .slice none 0 0, .int .i64 0] 30 (0, 0)) ∧
          (¬ L0 4 → W.heap[w.heap.size + 1]? = some (.cells #[.bool (cneg S), .slice As ns cs, .int .i64 (cexp S (-1074))] 30 (0, 0))) ∧
          (L0 4 → ∃ A2 n2 c2, W.heap[w.heap.size + 1]? = some (.cells #[.bool (cneg (S + X)), .slice A2 n2 c2, .int .i64 (cexp (S + X) (-1074))] 30 (0, 0)) ∧ kU.R 48 W (w.heap.size + 2) (fun _ => True) (.slice A2 n2 c2) (limbs (cman (S + X)))) ∧
          kU.R 48 W (w.heap.size + 2) (fun _ => True) (.slice As ns cs) (limbs (cman S)))
        ?hJ0 ?hstep ?hend
      case hJ0 =>
        have hd := below_drew (Below.refl wr.heap.size wr)
        exact ⟨⟨below_drew HB.out.1, HB.out.2⟩, blk_below H2.out hd, fun _ => blk_below H3.out hd, fun h => h.elim, Kd.R_below HS.out hd⟩
      case hstep =>
        intro k0 o ho v W L0 hJW hF hnk haft hcl K hK
        obtain ⟨hBW, hb2, hold, hnew, hRS⟩ := hJW
        rcases k0 with _ | _ | _ | _ | _ | k0
        all_goals first
          | (cases ho; done)
          | (obtain rfl := (Option.some.inj ho).symm
             clear ho
             rw [if_pos (by rfl)]
             simp only [setAll, List.setIfInBounds_toArray, List.set_cons_zero, List.set_cons_succ, List.getElem_toArray, List.getElem_cons_zero, List.getElem_cons_succ, Nat.reduceAdd] at haft hF hK ⊢)
        case zero =>
          have h4 : ¬ L0 4 := fun h => hnk (hcl 4 _ rfl h { on := 0, ground := .phase } (by simp) rfl)
          have hh := hold h4
          have cc0 := (box_cell (v := .bool (cneg S)) hh 0 rfl).1
          have cc1 := (box_cell (v := .slice As ns cs) hh 1 rfl).1
          have cc2 := (box_cell (v := .int .i64 (cexp S (-1074))) hh 2 rfl).1
          have key := hK.out (.agg #[.bool (cneg S), .slice As ns cs, .int .i64 (cexp S (-1074))]) W ⟨hBW, hb2, fun _ => hh, fun h => (by rcases h with h | h; exact absurd h h4; cases h), hRS⟩ (fun _ _ h => h) rfl
          go_simp
          simpa [upd] using key
        case succ.zero =>
          have key := hK.out (.float .f64 x) W ⟨hBW, hb2, fun h => hold (fun h' => h (.inl h')), fun h => hnew (by rcases h with h | h; exact h; cases h), hRS⟩ (fun _ _ h => h) rfl
          go_simp
          simpa [upd] using key
        case succ.succ.zero =>
          have f1 : v 1 = .float .f64 x := hF 1 (haft { on := 1, ground := .data } (by simp) rfl)
          have h4 : ¬ L0 4 := fun h => hnk (hcl 4 _ rfl h { on := 2, ground := .phase } (by simp) rfl)
          go_simp
          go_at_call 14
          refine (NX.out _).mono ?_
          rintro en w4 ⟨v1, rfl, hr, hb⟩
          have key := hK.out v1 w4 ⟨⟨below_then hBW.1 hBW.1.size hb, Nat.le_trans hBW.2 hb.size⟩, blk_below hb2 hb, fun _ => blk_below (hold h4) hb, fun h => (by rcases h with h | h; exact absurd h h4; cases h), Kd.R_below hRS hb⟩ ?m2 (hr.lower hBW.2)
          · simpa [upd, f1] using key
          intro j hj hf
          rcases j with _ | _ | _ | _ | _ | j <;> first | exact hf | exact RDy.below hf hb
        case succ.succ.succ.zero =>
          have f0 : v 0 = .agg #[.bool (cneg S), .slice As ns cs, .int .i64 (cexp S (-1074))] := hF 0 (haft { on := 0, ground := .data } (by simp) rfl)
          have f2 : RDy W (w.heap.size + 2) (v 2) X (-1074) := hF 2 (haft { on := 2, ground := .data } (by simp) rfl)
          have h4 : ¬ L0 4 := fun h => hnk (hcl 4 _ rfl h { on := 3, ground := .data } (by simp) rfl)
          go_simp
          go_at_call 38
          refine (PX.out (.agg #[.bool (cneg S), .slice As ns cs, .int .i64 (cexp S (-1074))]) (v 2) W (RDy.c ⟨As, ns, cs, rfl, hRS⟩) f2.c).mono ?_
          rintro en w4 ⟨v1, rfl, hr, hb⟩
          have key := hK.out v1 w4 ⟨⟨below_then hBW.1 hBW.1.size hb, Nat.le_trans hBW.2 hb.size⟩, blk_below hb2 hb, fun _ => blk_below (hold h4) hb, fun h => (by rcases h with h | h; exact absurd h h4; cases h), Kd.R_below hRS hb⟩ ?m3 (hr.lower hBW.2)
          · simpa [upd, f0] using key
          intro j hj hf
          rcases j with _ | _ | _ | _ | _ | j <;> first | exact hf | exact RDy.below hf hb
        case succ.succ.succ.succ.zero =>
          have f3 : RDy W (w.heap.size + 2) (v 3) (S + X) (-1074) := hF 3 (haft { on := 3, ground := .data } (by simp) rfl)
          obtain ⟨A3, n3, c3, f3', hr3⟩ := id f3
          refine wp_store_box 30 3 (.tmp 16) rfl rfl (g := w.heap.size + 1) (e := 30) (v 3) [.bool (cneg (S + X)), .slice A3 n3 c3, .int .i64 (cexp (S + X) (-1074))] rfl rfl (by rw [f3']; rfl) info_dyad ?_ (hold hnk) rfl ?_
          · intro q hq; simp at hq; rcases hq with rfl | rfl | rfl <;> rfl
          · intro w1 hw1 hg1
            have hnew2 := f3.grown hg1 (by omega)
            obtain ⟨A4, n4, c4, f4', hr4⟩ := hnew2
            rw [f3'] at f4'
            injection f4' with f4'
            simp at f4'
            obtain ⟨rfl, rfl, rfl⟩ := f4'
            have hRS2 : RDy w1 (w.heap.size + 2) (.agg #[.bool (cneg S), .slice As ns cs, .int .i64 (cexp S (-1074))]) S (-1074) := RDy.grown (w := W) ⟨As, ns, cs, rfl, hRS⟩ hg1 (by omega)
            obtain ⟨A5, n5, c5, f5', hr5⟩ := hRS2
            injection f5' with f5'
            simp at f5'
            obtain ⟨rfl, rfl, rfl⟩ := f5'
            have key := hK.out undef w1 ⟨⟨hBW.1.grown hg1 hBW.1.size (fun k hk => by cases hk; omega), Nat.le_trans hBW.2 hg1.size⟩, (hg1.block _ (blk_lt hb2) (fun he => by have := Option.some.inj he; omega)).trans hb2, fun h => (h (by simp)).elim, fun _ => ⟨_, _, _, hw1, hr4⟩, hr5⟩ ?m4 trivial
            · simpa [upd] using key
            intro j hj hf
            rcases j with _ | _ | _ | _ | _ | j <;> first | exact hf | exact RDy.grown hf hg1 (by omega)
      case hend =>
        intro v W L0 hall hJW hF
        obtain ⟨hBW, hb2, _, hnew, _⟩ := hJW
        obtain ⟨A2, n2, c2, hn3, hR2⟩ := hnew (hall 4 (by decide))
        have HN2 := Aside0.mk hb2
        have HN3 := Aside0.mk hn3
        have HR2 := Aside0.mk hR2
        have HB2 := Aside0.mk hBW
        clear hb2 hn3 hR2 hBW hF hall hnew
        simp only [setAll, List.setIfInBounds_toArray, List.set_cons_zero, List.set_cons_succ, Nat.reduceAdd]
        go_wp2
        go_roundw
        case rel => exact ⟨k + 1, A2, n2, c2, by go_num, by omega, HN2, by rw [hS2.out]; exact HN3, by rw [hS2.out]; exact HR2, HB2⟩
        case measure => simp [intOf]; omega
    · obtain rfl : k = l.length := by omega
      have hSL : S = isum L := by rw [hS, HI_.out.len, List.take_length]
      clear hS bS hTT lS xS xS2
      subst hSL
      have cc0 := (box_cell (v := .bool (cneg (isum L))) H3.out 0 rfl).1
      have cc1 := (box_cell (v := .slice As ns cs) H3.out 1 rfl).1
      have cc2 := (box_cell (v := .int .i64 (cexp (isum L) (-1074))) H3.out 2 rfl).1
      go_wp2_with ((with_reducible refine gate_store (p := 2) rfl ?_); go_must (refine store_box 30 2 (.tmp 18) rfl rfl rfl (g := w.heap.size) (e := 30) (.agg #[.bool (cneg (isum L)), .slice As ns cs, .int .i64 (cexp (isum L) (-1074))]) ([.bool (cneg (isum L)), .slice As ns cs, .int .i64 (cexp (isum L) (-1074))]) rfl rfl rfl info_dyad ?b1 H2.out rfl ?_; (case b1 => intro q hq; simp at hq; rcases hq with rfl | rfl | rfl <;> rfl); intro wb hbx hgx; have HX := Aside0.mk hbx; have HG := Aside0.mk hgx; clear hbx hgx))
      refine bodyPost_ret (results_dyad rfl _ _ w.heap.size _ rfl HX.out rfl) rfl ?_
      refine ⟨_, rfl, RDy.lower (b := w.heap.size + 2) (RDy.grown ⟨As, ns, cs, rfl, HS.out⟩ HG.out (by omega)) (by omega), HB.out.1.grown HG.out HB.out.1.size (fun k hk => by cases hk; omega)⟩
end Go.Proofs.Ytplkmbdoecepeaa
