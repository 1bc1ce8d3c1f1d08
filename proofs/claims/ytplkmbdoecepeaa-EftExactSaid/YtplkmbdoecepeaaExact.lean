/- EftExact: the walk. -/
import Derived.Test.YtplkmbdoecepeaaPlusLaw
import Derived.Test.YtplkmbdoecepeaaExactPlain
import Derived.Test.YtplkmbdoecepeaaAbs
namespace Go.Proofs.Ytplkmbdoecepeaa
open Go.RowKit Go.Proofs.YtplkmbdoecepeaaW.PrintWords Limb Ieee EftPure
set_option linter.unusedVariables false
set_option linter.unusedSimpArgs false

set_option maxRecDepth 100000 in
set_option maxHeartbeats 8000000 in
theorem exact_any (a b : Nat) (h64a : a < 18446744073709551616) (h64b : b < 18446744073709551616) (w : World) :
    Calls Try.prog 5 #[.float .f64 a, .float .f64 b] w fun e w' => e = .returned (.bool true) ∧ Below w.heap.size w w' := by
  cases ha : modB a
  · go_enter Try.func5, Try.ntmps5
    go_wp2_with (first | (go_at_call 9; refine (lives_any _).mono ?_; rintro e W1 ⟨rfl, hb⟩; have HB := Aside0.mk hb; clear hb) | (go_at_call 10; refine (moderate_any _ _).mono ?_; rintro e w' ⟨rfl, n5, rfl⟩))
    go_ret
    exact ⟨rfl, pw_below_drewN HB.out _⟩
  · cases hb : modB b
    · go_enter Try.func5, Try.ntmps5
      go_wp2_with (first | (go_at_call 9; refine (lives_any _).mono ?_; rintro e W1 ⟨rfl, hb⟩; have HB := Aside0.mk hb; clear hb) | (go_at_call 10; refine (moderate_any _ _).mono ?_; rintro e w' ⟨rfl, n5, rfl⟩))
      go_ret
      exact ⟨rfl, pw_below_drewN HB.out _⟩
    · obtain ⟨s0, t0, u0, v0, h0, l0, p0, e0, A, B, S, T, U, H, P, d1, d2, d3, d4, iA, iB, iS, iT, iU, iV, hU, iH, iL, bH, bL, iP, iE, hAB, ⟨ls, lt⟩, ⟨lu, lv⟩, ⟨lh, ll⟩, ⟨lp, le⟩, bA, bB, bS⟩ := exact_mod ha hb
      have D1 := Aside0.mk d1
      have D2 := Aside0.mk d2
      have D3 := Aside0.mk d3
      have D4 := Aside0.mk d4
      have hHI := HI_eq
      have sA : A.natAbs < 2 ^ (HI + 1) := Nat.lt_of_le_of_lt bA (Nat.pow_lt_pow_right (by decide) (by omega))
      have sB : B.natAbs < 2 ^ (HI + 1) := Nat.lt_of_le_of_lt bB (Nat.pow_lt_pow_right (by decide) (by omega))
      have QSUM := Aside0.mk (fun (m : World) => plus_law a b A B iA iB h64a h64b sA sB (by omega) m)
      have I := Aside0.mk (And.intro iA (And.intro iB (And.intro iS (And.intro iT (And.intro iU (And.intro iV (And.intro iH (And.intro iL (And.intro iP iE)))))))))
      have I2 := Aside0.mk (And.intro hU (And.intro bH (And.intro bL (And.intro hAB (And.intro bA (And.intro bB bS))))))
      have I3 := Aside0.mk (And.intro ls (And.intro lt (And.intro lu (And.intro lv (And.intro lh (And.intro ll (And.intro lp le)))))))
      clear d1 d2 d3 d4 iA iB iS iT iU iV iH iL iP iE hU bH bL hAB bA bB bS ls lt lu lv lh ll lp le sA sB hHI
      go_enter Try.func5, Try.ntmps5
      go_upto_region 10 with (first
        | (go_at_call 9; refine (lives_any _).mono ?_; rintro e W1 ⟨rfl, hb⟩; have HB := Aside0.mk hb; clear hb)
        | (go_at_call 10; refine (moderate_any _ _).mono ?_; rintro e w' ⟨rfl, n5, rfl⟩)
        | (go_at_call 11; refine (two_sum _ _ _).mono ?_; rintro e w' ⟨s, t, n1, rfl, hh_, rfl⟩; have q1 := (D1.out _ _ hh_).1.symm; have q2 := (D1.out _ _ hh_).2.symm; clear hh_; subst q1; subst q2)
        | (go_at_call 17; refine (fast_two_sum _ _ _).mono ?_; rintro e w' ⟨s, t, n1, rfl, hh_, rfl⟩; have q1 := (D2.out _ _ hh_).1.symm; have q2 := (D2.out _ _ hh_).2.symm; clear hh_; subst q1; subst q2)
        | (go_at_call 18; refine (split _ _).mono ?_; rintro e w' ⟨s, t, n1, rfl, hh_, rfl⟩; have q1 := (D3.out _ _ hh_).1.symm; have q2 := (D3.out _ _ hh_).2.symm; clear hh_; subst q1; subst q2)
        | (go_at_call 12; refine (two_prod _ _ _).mono ?_; rintro e w' ⟨s, t, n1, rfl, hh_, rfl⟩; have q1 := (D4.out _ _ hh_).1.symm; have q2 := (D4.out _ _ hh_).2.symm; clear hh_; subst q1; subst q2)
        | (go_at_call 23; refine (QSUM.out _).mono ?_; rintro e w2 ⟨vs, rfl, ⟨As, ns, cs, rfl, hrs⟩, hb⟩; have RS := Aside0.mk hrs; have B2 := Aside0.mk (below_then HB.out HB.out.size (below_after hb)); clear hrs hb))
      obtain ⟨W9, hW9⟩ : ∃ W9, W9 = w2.alloc (.cells #[.bool (cneg (A + B)), .slice As ns cs, .int .i64 (cexp (A + B) (-1074))] 30) := ⟨_, rfl⟩
      rw [← hW9]
      have B9 := Aside0.mk (show Below w2.heap.size w2 W9 by rw [hW9]; exact below_alloc (Below.refl _ _) _)
      have H9 := Aside0.mk (show W9.heap[w2.heap.size]? = some (.cells #[.bool (cneg (A + B)), .slice As ns cs, .int .i64 (cexp (A + B) (-1074))] 30 (0, 0)) by rw [hW9]; exact blk_new _ _)
      clear hW9
      have CS := Aside0.mk (fun (m : World) (hm : Below W9.heap.size W9 m) => show CDy m (.agg #[.bool (cneg (A + B)), .slice As ns cs, .int .i64 (cexp (A + B) (-1074))]) (A + B) (-1074) from ((RDy.c ⟨As, ns, cs, rfl, RS.out⟩).below B9.out).below hm)
      have fS : S.natAbs < 2 ^ (HI + 1 + 1 + 1) := by
        have := I2.out.2.2.2.2.2.2
        exact Nat.lt_of_le_of_lt this (Nat.pow_lt_pow_right (by decide) (by omega))
      have fT : (A + B - S).natAbs < 2 ^ (HI + 1 + 1 + 1) := by
        have h1 := I2.out.2.2.2.2.2.2
        have h2 := add_le_pow I2.out.2.2.2.2.1 I2.out.2.2.2.2.2.1
        exact Nat.lt_of_le_of_lt (sub_le_pow h2 h1) (Nat.pow_lt_pow_right (by decide) (by omega))
      have hHI := HI_eq
      have QST := Aside0.mk (fun (m : World) => (by have h := plus_law s0 t0 S (A + B - S) I.out.2.2.1 I.out.2.2.2.1 I3.out.1 I3.out.2.1 fS fT (by omega) m; rw [show S + (A + B - S) = A + B by omega] at h; exact h : Calls Try.prog 23 #[.float .f64 s0, .float .f64 t0] m fun e w' => ∃ v, e = .returned v ∧ RDy w' m.heap.size v (A + B) (-1074) ∧ Below m.heap.size m w'))
      clear hHI fS fT
      have big : ∀ {x : Nat} {Z : Int}, IsF x Z → Z.natAbs < 2 ^ TT := fun h => by
        obtain ⟨sg, m, k, hr, _⟩ := id h
        obtain ⟨Z', h1, h2⟩ := isF_of_read hr
        rw [h.fun_ h1]; exact h2
      have hTT := TT_eq
      have QHL := Aside0.mk (fun (m : World) => (by have h := plus_law h0 l0 H (A - H) I.out.2.2.2.2.2.2.1 I.out.2.2.2.2.2.2.2.1 I3.out.2.2.2.2.1 I3.out.2.2.2.2.2.1 (big I.out.2.2.2.2.2.2.1) (big I.out.2.2.2.2.2.2.2.1) (by omega) m; rw [show H + (A - H) = A by omega] at h; exact h : Calls Try.prog 23 #[.float .f64 h0, .float .f64 l0] m fun e w' => ∃ v, e = .returned v ∧ RDy w' m.heap.size v A (-1074) ∧ Below m.heap.size m w'))
      have NA := Aside0.mk (fun (m : World) => number_any a A I.out.1 h64a m)
      have NH := Aside0.mk (fun (m : World) => number_any h0 H I.out.2.2.2.2.2.2.1 I3.out.2.2.2.2.1 m)
      have NL := Aside0.mk (fun (m : World) => number_any l0 (A - H) I.out.2.2.2.2.2.2.2.1 I3.out.2.2.2.2.2.1 m)
      obtain ⟨lA, xA⟩ := form_small (e := -1074) (k := 40) (big I.out.1) (by omega)
      obtain ⟨lH, xH⟩ := form_small (e := -1074) (k := 40) (big I.out.2.2.2.2.2.2.1) (by omega)
      obtain ⟨lL, xL⟩ := form_small (e := -1074) (k := 40) (big I.out.2.2.2.2.2.2.2.1) (by omega)
      have sAB : (A + B).natAbs < 2 ^ (HI + 1 + 1) := Nat.lt_of_le_of_lt (add_le_pow I2.out.2.2.2.2.1 I2.out.2.2.2.2.2.1) (Nat.pow_lt_pow_right (by decide) (by omega))
      have hHI := HI_eq
      obtain ⟨lS, xS⟩ := form_small (e := -1074) (k := 40) sAB (by omega)
      have xA2 : -1099511627776 ≤ cexp A (-1074) ∧ cexp A (-1074) ≤ 1099511627776 := by omega
      have xS2 : -1099511627776 ≤ cexp (A + B) (-1074) ∧ cexp (A + B) (-1074) ≤ 1099511627776 := by omega
      obtain ⟨z, hz⟩ : ∃ z, z = (FloatKind.f64.format.order a 0 == some .eq) := ⟨_, rfl⟩
      obtain ⟨y, hy⟩ : ∃ y, y = (FloatKind.f64.format.order (b % 9223372036854775808) (a % 9223372036854775808) == some .lt || FloatKind.f64.format.order (b % 9223372036854775808) (a % 9223372036854775808) == some .eq) := ⟨_, rfl⟩
      obtain ⟨c, hc⟩ : ∃ c, c = (z || y) := ⟨_, rfl⟩
      have hcU : c = true → S + U = A + B := by
        intro h
        have o1 : FloatKind.f64.format.order a 0 = _ := order_val I.out.1 isF_zero
        have o2 : FloatKind.f64.format.order (b % 9223372036854775808) (a % 9223372036854775808) = _ := order_val (isF_abs I.out.2.1) (isF_abs I.out.1)
        rw [o1] at hz
        rw [o2] at hy
        have h2 := I2.out.1 (by
          rw [hc, Bool.or_eq_true, hz, hy, Bool.or_eq_true] at h
          simp only [beq_iff_eq, Option.some.injEq, Int.compare_eq_eq, Int.compare_eq_lt] at h
          omega)
        omega
      have QUV := Aside0.mk (fun (h : c = true) (m : World) => (by have h2 := plus_law u0 v0 S U I.out.2.2.2.2.1 I.out.2.2.2.2.2.1 I3.out.2.2.1 I3.out.2.2.2.1 (big I.out.2.2.2.2.1) (big I.out.2.2.2.2.2.1) (by omega) m; rw [hcU h] at h2; exact h2 : Calls Try.prog 23 #[.float .f64 u0, .float .f64 v0] m fun e w' => ∃ v, e = .returned v ∧ RDy w' m.heap.size v (A + B) (-1074) ∧ Below m.heap.size m w'))
      have HZ := Aside0.mk hz.symm
      have HY := Aside0.mk hy.symm
      have HC := Aside0.mk hc
      clear hz hy hc hcU
      have NB := Aside0.mk (fun (m : World) => number_any b B I.out.2.1 h64b m)
      have QPE := Aside0.mk (fun (m : World) => (by
        have h := plus_law p0 e0 T (P - T) I.out.2.2.2.2.2.2.2.2.1 I.out.2.2.2.2.2.2.2.2.2 I3.out.2.2.2.2.2.2.1 I3.out.2.2.2.2.2.2.2 (big I.out.2.2.2.2.2.2.2.2.1) (big I.out.2.2.2.2.2.2.2.2.2) (by omega) m
        rw [show T + (P - T) = P by omega] at h
        refine h.mono ?_
        rintro en w' ⟨v, rfl, hr, hb⟩
        refine ⟨v, rfl, ?_, hb⟩
        rw [show (-1074 : Int) = -2148 + (DD : Nat) by rw [DD_eq]; rfl] at hr
        have := RDy.scale DD hr
        rw [← I2.out.2.2.2.1] at this
        exact this : Calls Try.prog 23 #[.float .f64 p0, .float .f64 e0] m fun e w' => ∃ v, e = .returned v ∧ RDy w' m.heap.size v (A * B) (-2148) ∧ Below m.heap.size m w'))
      have sB : B.natAbs < 2 ^ (HI + 1) := Nat.lt_of_le_of_lt I2.out.2.2.2.2.2.1 (Nat.pow_lt_pow_right (by decide) (by omega))
      have sA : A.natAbs < 2 ^ (HI + 1) := Nat.lt_of_le_of_lt I2.out.2.2.2.2.1 (Nat.pow_lt_pow_right (by decide) (by omega))
      have sP : (A * B).natAbs < 2 ^ (HI + 1 + (HI + 1)) := by
        rw [Int.natAbs_mul, Nat.pow_add]
        exact Nat.mul_lt_mul'' sA sB
      obtain ⟨lB, xB⟩ := form_small (e := -1074) (k := 40) (big I.out.2.1) (by omega)
      obtain ⟨lP, xP⟩ := form_small (e := -2148) (k := 80) sP (by have := HI_eq; omega)
      have hHI2 := HI_eq
      have xP2 : -1099511627776 ≤ cexp (A * B) (-2148) ∧ cexp (A * B) (-2148) ≤ 1099511627776 := by omega
      have QT := Aside0.mk (fun (u v : Value) (m : World) (h : CDy m u A (-1074)) (h' : CDy m v B (-1074)) => (by have q := times_dy u v A B (-1074) (-1074) m h h' (by omega) (by omega) (by omega) (by omega) (by omega) (by omega); rw [show (-1074 : Int) + -1074 = -2148 from rfl] at q; exact q : Calls Try.prog 13 #[u, v] m fun en w' => ∃ v', en = .returned v' ∧ RDy w' m.heap.size v' (A * B) (-2148) ∧ Below m.heap.size m w'))
      have QP := Aside0.mk (fun (v : Value) (m : World) (h : CDy m v (A * B) (-2148)) => top_any v (A * B) (-2148) m h (by omega) (by omega) (by omega))
      obtain ⟨T0, hT0⟩ : ∃ T, cexp (A * B) (-2148) + bl (cman (A * B)) - 1 = T := ⟨_, rfl⟩
      rw [hT0] at QP
      clear hHI2 sA sB sP xP lB xB
      clear big hTT hHI sAB xA xH xL xS
      refine wp_region_slots [51, 52, 53, 54, 55, 56, 57, 58, 59, 60, 61, 62, 63, 64, 65, 66, 67, 68, 69, 70, 71, 72, 73, 74, 75, 76, 77] (by kernel_rfl) (by kernel_rfl)
        (F := fun j q W => match j with | 0 => q = .float .f64 s0 | 1 => q = .float .f64 t0 | 2 => RDy W W9.heap.size q (A + B) (-1074) | 3 => q = .agg #[.bool (cneg (A + B)), .slice As ns cs, .int .i64 (cexp (A + B) (-1074))] | 4 => q = .bool true | 5 => q = .bool false | 6 => q = .bool false | 7 => q = .float .f64 h0 | 8 => q = .float .f64 l0 | 9 => RDy W W9.heap.size q (A) (-1074) | 10 => q = .float .f64 a | 11 => RDy W W9.heap.size q (A) (-1074) | 12 => q = .bool true | 13 => q = .bool false | 14 => q = .bool false | 15 => q = .bool false | 16 => q = .float .f64 h0 | 17 => RDy W W9.heap.size q (H) (-1074) | 18 => ∃ n : Int, n ≤ 26 ∧ q = .int .i64 n | 19 => q = .bool false | 20 => q = .bool false | 21 => q = .bool false | 22 => q = .float .f64 l0 | 23 => RDy W W9.heap.size q (A - H) (-1074) | 24 => ∃ n : Int, n ≤ 26 ∧ q = .int .i64 n | 25 => q = .bool false | 26 => q = .bool false | _ => True)
        (J := fun W => Below W9.heap.size W9 W)
        (below_drew (Below.refl _ _)) ?hstep ?hend
      case hstep =>
        intro k o ho v W L hJW hF hnk haft K hK
        rcases k with _ | _ | _ | _ | _ | _ | _ | _ | _ | _ | _ | _ | _ | _ | _ | _ | _ | _ | _ | _ | _ | _ | _ | _ | _ | _ | _ | k
        all_goals first
          | (cases ho; done)
          | (obtain rfl := (Option.some.inj ho).symm
             clear ho
             simp only [setAll, List.setIfInBounds_toArray, List.set_cons_zero, List.set_cons_succ, List.getElem_toArray, List.getElem_cons_zero, List.getElem_cons_succ, Nat.reduceAdd] at haft hF hK ⊢)
        case zero =>
          rw [if_pos (by rfl)]
          have key := hK.out (.float .f64 s0) W hJW (fun _ _ h => h) rfl
          go_simp
          simpa [upd] using key
        case succ.zero =>
          rw [if_pos (by rfl)]
          have key := hK.out (.float .f64 t0) W hJW (fun _ _ h => h) rfl
          go_simp
          simpa [upd] using key
        case succ.succ.zero =>
          rw [if_pos (by rfl)]
          have f0 : v 0 = .float .f64 s0 := hF 0 (haft { on := 0, ground := .data } (by simp) rfl)
          have f1 : v 1 = .float .f64 t0 := hF 1 (haft { on := 1, ground := .data } (by simp) rfl)
          go_simp
          go_at_call 23
          refine (QST.out _).mono ?_
          rintro en w4 ⟨v1, rfl, hr, hb⟩
          have key := hK.out (v1) w4 (below_then hJW hJW.size hb) ?mono51_2 (hr.lower hJW.size)
          · simpa [upd, f0, f1] using key
          intro j hj hf
          rcases j with _ | _ | _ | _ | _ | _ | _ | _ | _ | _ | _ | _ | _ | _ | _ | _ | _ | _ | _ | _ | _ | _ | _ | _ | _ | _ | _ | j <;> first | exact hf | exact RDy.below hf hb | exact fun hz_ => RDy.below (hf hz_) hb
        case succ.succ.succ.zero =>
          rw [if_pos (by rfl)]
          have cc0 := (box_cell (v := .bool (cneg (A + B))) (blk_below H9.out hJW) 0 rfl).1
          have cc1 := (box_cell (v := .slice As ns cs) (blk_below H9.out hJW) 1 rfl).1
          have cc2 := (box_cell (v := .int .i64 (cexp (A + B) (-1074))) (blk_below H9.out hJW) 2 rfl).1
          have key := hK.out (.agg #[.bool (cneg (A + B)), .slice As ns cs, .int .i64 (cexp (A + B) (-1074))]) W hJW (fun _ _ h => h) rfl
          go_simp
          simpa [upd] using key
        case succ.succ.succ.succ.zero =>
          rw [if_pos (by rfl)]
          have f2 : RDy W W9.heap.size (v 2) (A + B) (-1074) := hF 2 (haft { on := 2, ground := .data } (by simp) rfl)
          have f3 : v 3 = .agg #[.bool (cneg (A + B)), .slice As ns cs, .int .i64 (cexp (A + B) (-1074))] := hF 3 (haft { on := 3, ground := .data } (by simp) rfl)
          go_simp
          go_at_call 24
          refine (same_self (v 2) (.agg #[.bool (cneg (A + B)), .slice As ns cs, .int .i64 (cexp (A + B) (-1074))]) (A + B) (-1074) W f2.c (CS.out W hJW) (by omega) (by omega) (by omega)).mono ?_
          rintro en w4 ⟨rfl, hb⟩
          have key := hK.out (.bool true) w4 (below_then hJW hJW.size hb) ?mono51_4 (rfl)
          · simpa [upd, f3] using key
          intro j hj hf
          rcases j with _ | _ | _ | _ | _ | _ | _ | _ | _ | _ | _ | _ | _ | _ | _ | _ | _ | _ | _ | _ | _ | _ | _ | _ | _ | _ | _ | j <;> first | exact hf | exact RDy.below hf hb | exact fun hz_ => RDy.below (hf hz_) hb
        case succ.succ.succ.succ.succ.zero =>
          rw [if_pos (by rfl)]
          have f4 : v 4 = .bool true := hF 4 (haft { on := 4, ground := .data } (by simp) rfl)
          have key := hK.out (.bool false) W hJW (fun _ _ h => h) rfl
          go_simp
          simpa [upd, f4] using key
        case succ.succ.succ.succ.succ.succ.zero =>
          rw [if_pos (by rfl)]
          have f5 : v 5 = .bool false := hF 5 (haft { on := 5, ground := .data } (by simp) rfl)
          have key := hK.out (.bool false) W hJW (fun _ _ h => h) rfl
          go_simp
          simpa [upd, f5] using key
        case succ.succ.succ.succ.succ.succ.succ.zero =>
          have fg : v 6 = .bool false := hF 6 (haft { on := 6, ground := .guard } (by simp) rfl)
          rw [if_pos (by simp [Region.wanted, yielded, fg])]
          have key := hK.out (.float .f64 h0) W hJW (fun _ _ h => h) rfl
          go_simp
          simpa [upd, fg] using key
        case succ.succ.succ.succ.succ.succ.succ.succ.zero =>
          have fg : v 6 = .bool false := hF 6 (haft { on := 6, ground := .guard } (by simp) rfl)
          rw [if_pos (by simp [Region.wanted, yielded, fg])]
          have key := hK.out (.float .f64 l0) W hJW (fun _ _ h => h) rfl
          go_simp
          simpa [upd, fg] using key
        case succ.succ.succ.succ.succ.succ.succ.succ.succ.zero =>
          have fg : v 6 = .bool false := hF 6 (haft { on := 6, ground := .guard } (by simp) rfl)
          rw [if_pos (by simp [Region.wanted, yielded, fg])]
          have f7 : v 7 = .float .f64 h0 := hF 7 (haft { on := 7, ground := .data } (by simp) rfl)
          have f8 : v 8 = .float .f64 l0 := hF 8 (haft { on := 8, ground := .data } (by simp) rfl)
          go_simp
          go_at_call 23
          refine (QHL.out _).mono ?_
          rintro en w4 ⟨v1, rfl, hr, hb⟩
          have key := hK.out (v1) w4 (below_then hJW hJW.size hb) ?mono51_9 (hr.lower hJW.size)
          · simpa [upd, f7, f8, fg] using key
          intro j hj hf
          rcases j with _ | _ | _ | _ | _ | _ | _ | _ | _ | _ | _ | _ | _ | _ | _ | _ | _ | _ | _ | _ | _ | _ | _ | _ | _ | _ | _ | j <;> first | exact hf | exact RDy.below hf hb | exact fun hz_ => RDy.below (hf hz_) hb
        case succ.succ.succ.succ.succ.succ.succ.succ.succ.succ.zero =>
          have fg : v 6 = .bool false := hF 6 (haft { on := 6, ground := .guard } (by simp) rfl)
          rw [if_pos (by simp [Region.wanted, yielded, fg])]
          have key := hK.out (.float .f64 a) W hJW (fun _ _ h => h) rfl
          go_simp
          simpa [upd, fg] using key
        case succ.succ.succ.succ.succ.succ.succ.succ.succ.succ.succ.zero =>
          have fg : v 6 = .bool false := hF 6 (haft { on := 6, ground := .guard } (by simp) rfl)
          rw [if_pos (by simp [Region.wanted, yielded, fg])]
          have f10 : v 10 = .float .f64 a := hF 10 (haft { on := 10, ground := .data } (by simp) rfl)
          go_simp
          go_at_call 14
          refine (NA.out _).mono ?_
          rintro en w4 ⟨v1, rfl, hr, hb⟩
          have key := hK.out (v1) w4 (below_then hJW hJW.size hb) ?mono51_11 (hr.lower hJW.size)
          · simpa [upd, f10, fg] using key
          intro j hj hf
          rcases j with _ | _ | _ | _ | _ | _ | _ | _ | _ | _ | _ | _ | _ | _ | _ | _ | _ | _ | _ | _ | _ | _ | _ | _ | _ | _ | _ | j <;> first | exact hf | exact RDy.below hf hb | exact fun hz_ => RDy.below (hf hz_) hb
        case succ.succ.succ.succ.succ.succ.succ.succ.succ.succ.succ.succ.zero =>
          have fg : v 6 = .bool false := hF 6 (haft { on := 6, ground := .guard } (by simp) rfl)
          rw [if_pos (by simp [Region.wanted, yielded, fg])]
          have f9 : RDy W W9.heap.size (v 9) (A) (-1074) := hF 9 (haft { on := 9, ground := .data } (by simp) rfl)
          have f11 : RDy W W9.heap.size (v 11) (A) (-1074) := hF 11 (haft { on := 11, ground := .data } (by simp) rfl)
          go_simp
          go_at_call 24
          refine (same_self (v 9) (v 11) A (-1074) W f9.c f11.c (by omega) (by omega) (by omega)).mono ?_
          rintro en w4 ⟨rfl, hb⟩
          have key := hK.out (.bool true) w4 (below_then hJW hJW.size hb) ?mono51_12 (rfl)
          · simpa [upd, fg] using key
          intro j hj hf
          rcases j with _ | _ | _ | _ | _ | _ | _ | _ | _ | _ | _ | _ | _ | _ | _ | _ | _ | _ | _ | _ | _ | _ | _ | _ | _ | _ | _ | j <;> first | exact hf | exact RDy.below hf hb | exact fun hz_ => RDy.below (hf hz_) hb
        case succ.succ.succ.succ.succ.succ.succ.succ.succ.succ.succ.succ.succ.zero =>
          have fg : v 6 = .bool false := hF 6 (haft { on := 6, ground := .guard } (by simp) rfl)
          rw [if_pos (by simp [Region.wanted, yielded, fg])]
          have f12 : v 12 = .bool true := hF 12 (haft { on := 12, ground := .data } (by simp) rfl)
          have key := hK.out (.bool false) W hJW (fun _ _ h => h) rfl
          go_simp
          simpa [upd, f12, fg] using key
        case succ.succ.succ.succ.succ.succ.succ.succ.succ.succ.succ.succ.succ.succ.zero =>
          rw [if_pos (by rfl)]
          have f6 : v 6 = .bool false := hF 6 (haft { on := 6, ground := .data } (by simp) rfl)
          have f13 : v 13 = .bool false := hF 13 (haft { on := 13, ground := .data } (by simp) rfl)
          have key := hK.out (.bool false) W hJW (fun _ _ h => h) rfl
          go_simp
          simpa [upd, f6, f13] using key
        case succ.succ.succ.succ.succ.succ.succ.succ.succ.succ.succ.succ.succ.succ.succ.zero =>
          rw [if_pos (by rfl)]
          have f14 : v 14 = .bool false := hF 14 (haft { on := 14, ground := .data } (by simp) rfl)
          have key := hK.out (.bool false) W hJW (fun _ _ h => h) rfl
          go_simp
          simpa [upd, f14] using key
        case succ.succ.succ.succ.succ.succ.succ.succ.succ.succ.succ.succ.succ.succ.succ.succ.zero =>
          have fg : v 15 = .bool false := hF 15 (haft { on := 15, ground := .guard } (by simp) rfl)
          rw [if_pos (by simp [Region.wanted, yielded, fg])]
          have key := hK.out (.float .f64 h0) W hJW (fun _ _ h => h) rfl
          go_simp
          simpa [upd, fg] using key
        case succ.succ.succ.succ.succ.succ.succ.succ.succ.succ.succ.succ.succ.succ.succ.succ.succ.zero =>
          have fg : v 15 = .bool false := hF 15 (haft { on := 15, ground := .guard } (by simp) rfl)
          rw [if_pos (by simp [Region.wanted, yielded, fg])]
          have f16 : v 16 = .float .f64 h0 := hF 16 (haft { on := 16, ground := .data } (by simp) rfl)
          go_simp
          go_at_call 14
          refine (NH.out _).mono ?_
          rintro en w4 ⟨v1, rfl, hr, hb⟩
          have key := hK.out (v1) w4 (below_then hJW hJW.size hb) ?mono51_17 (hr.lower hJW.size)
          · simpa [upd, f16, fg] using key
          intro j hj hf
          rcases j with _ | _ | _ | _ | _ | _ | _ | _ | _ | _ | _ | _ | _ | _ | _ | _ | _ | _ | _ | _ | _ | _ | _ | _ | _ | _ | _ | j <;> first | exact hf | exact RDy.below hf hb | exact fun hz_ => RDy.below (hf hz_) hb
        case succ.succ.succ.succ.succ.succ.succ.succ.succ.succ.succ.succ.succ.succ.succ.succ.succ.succ.zero =>
          have fg : v 15 = .bool false := hF 15 (haft { on := 15, ground := .guard } (by simp) rfl)
          rw [if_pos (by simp [Region.wanted, yielded, fg])]
          have f17 : RDy W W9.heap.size (v 17) (H) (-1074) := hF 17 (haft { on := 17, ground := .data } (by simp) rfl)
          go_simp
          go_at_call 25
          refine (bits_any (v 17) (H) (-1074) W f17.c (by omega)).mono ?_
          rintro en w4 ⟨rfl, hb⟩
          have key := hK.out (.int .i64 ((bl (cman (H)) : Int) - tz (cman (H)))) w4 (below_then hJW hJW.size hb) ?mono51_18 (⟨_, by have := I2.out.2.1; omega, rfl⟩)
          · simpa [upd, fg] using key
          intro j hj hf
          rcases j with _ | _ | _ | _ | _ | _ | _ | _ | _ | _ | _ | _ | _ | _ | _ | _ | _ | _ | _ | _ | _ | _ | _ | _ | _ | _ | _ | j <;> first | exact hf | exact RDy.below hf hb | exact fun hz_ => RDy.below (hf hz_) hb
        case succ.succ.succ.succ.succ.succ.succ.succ.succ.succ.succ.succ.succ.succ.succ.succ.succ.succ.succ.zero =>
          have fg : v 15 = .bool false := hF 15 (haft { on := 15, ground := .guard } (by simp) rfl)
          rw [if_pos (by simp [Region.wanted, yielded, fg])]
          have f18 : ∃ n : Int, n ≤ 26 ∧ (v 18) = .int .i64 n := hF 18 (haft { on := 18, ground := .data } (by simp) rfl)
          obtain ⟨n, hn, f18b⟩ := f18
          have hd : decide (26 < n) = false := decide_eq_false (by omega)
          have key := hK.out (.bool false) W hJW (fun _ _ h => h) rfl
          go_simp
          simpa [upd, fg, f18b] using key
        case succ.succ.succ.succ.succ.succ.succ.succ.succ.succ.succ.succ.succ.succ.succ.succ.succ.succ.succ.succ.zero =>
          rw [if_pos (by rfl)]
          have f15 : v 15 = .bool false := hF 15 (haft { on := 15, ground := .data } (by simp) rfl)
          have f19 : v 19 = .bool false := hF 19 (haft { on := 19, ground := .data } (by simp) rfl)
          have key := hK.out (.bool false) W hJW (fun _ _ h => h) rfl
          go_simp
          simpa [upd, f15, f19] using key
        case succ.succ.succ.succ.succ.succ.succ.succ.succ.succ.succ.succ.succ.succ.succ.succ.succ.succ.succ.succ.succ.zero =>
          rw [if_pos (by rfl)]
          have f20 : v 20 = .bool false := hF 20 (haft { on := 20, ground := .data } (by simp) rfl)
          have key := hK.out (.bool false) W hJW (fun _ _ h => h) rfl
          go_simp
          simpa [upd, f20] using key
        case succ.succ.succ.succ.succ.succ.succ.succ.succ.succ.succ.succ.succ.succ.succ.succ.succ.succ.succ.succ.succ.succ.zero =>
          have fg : v 21 = .bool false := hF 21 (haft { on := 21, ground := .guard } (by simp) rfl)
          rw [if_pos (by simp [Region.wanted, yielded, fg])]
          have key := hK.out (.float .f64 l0) W hJW (fun _ _ h => h) rfl
          go_simp
          simpa [upd, fg] using key
        case succ.succ.succ.succ.succ.succ.succ.succ.succ.succ.succ.succ.succ.succ.succ.succ.succ.succ.succ.succ.succ.succ.succ.zero =>
          have fg : v 21 = .bool false := hF 21 (haft { on := 21, ground := .guard } (by simp) rfl)
          rw [if_pos (by simp [Region.wanted, yielded, fg])]
          have f22 : v 22 = .float .f64 l0 := hF 22 (haft { on := 22, ground := .data } (by simp) rfl)
          go_simp
          go_at_call 14
          refine (NL.out _).mono ?_
          rintro en w4 ⟨v1, rfl, hr, hb⟩
          have key := hK.out (v1) w4 (below_then hJW hJW.size hb) ?mono51_23 (hr.lower hJW.size)
          · simpa [upd, f22, fg] using key
          intro j hj hf
          rcases j with _ | _ | _ | _ | _ | _ | _ | _ | _ | _ | _ | _ | _ | _ | _ | _ | _ | _ | _ | _ | _ | _ | _ | _ | _ | _ | _ | j <;> first | exact hf | exact RDy.below hf hb | exact fun hz_ => RDy.below (hf hz_) hb
        case succ.succ.succ.succ.succ.succ.succ.succ.succ.succ.succ.succ.succ.succ.succ.succ.succ.succ.succ.succ.succ.succ.succ.succ.zero =>
          have fg : v 21 = .bool false := hF 21 (haft { on := 21, ground := .guard } (by simp) rfl)
          rw [if_pos (by simp [Region.wanted, yielded, fg])]
          have f23 : RDy W W9.heap.size (v 23) (A - H) (-1074) := hF 23 (haft { on := 23, ground := .data } (by simp) rfl)
          go_simp
          go_at_call 25
          refine (bits_any (v 23) (A - H) (-1074) W f23.c (by omega)).mono ?_
          rintro en w4 ⟨rfl, hb⟩
          have key := hK.out (.int .i64 ((bl (cman (A - H)) : Int) - tz (cman (A - H)))) w4 (below_then hJW hJW.size hb) ?mono51_24 (⟨_, by have := I2.out.2.2.1; omega, rfl⟩)
          · simpa [upd, fg] using key
          intro j hj hf
          rcases j with _ | _ | _ | _ | _ | _ | _ | _ | _ | _ | _ | _ | _ | _ | _ | _ | _ | _ | _ | _ | _ | _ | _ | _ | _ | _ | _ | j <;> first | exact hf | exact RDy.below hf hb | exact fun hz_ => RDy.below (hf hz_) hb
        case succ.succ.succ.succ.succ.succ.succ.succ.succ.succ.succ.succ.succ.succ.succ.succ.succ.succ.succ.succ.succ.succ.succ.succ.succ.zero =>
          have fg : v 21 = .bool false := hF 21 (haft { on := 21, ground := .guard } (by simp) rfl)
          rw [if_pos (by simp [Region.wanted, yielded, fg])]
          have f24 : ∃ n : Int, n ≤ 26 ∧ (v 24) = .int .i64 n := hF 24 (haft { on := 24, ground := .data } (by simp) rfl)
          obtain ⟨n, hn, f24b⟩ := f24
          have hd : decide (26 < n) = false := decide_eq_false (by omega)
          have key := hK.out (.bool false) W hJW (fun _ _ h => h) rfl
          go_simp
          simpa [upd, fg, f24b] using key
        case succ.succ.succ.succ.succ.succ.succ.succ.succ.succ.succ.succ.succ.succ.succ.succ.succ.succ.succ.succ.succ.succ.succ.succ.succ.succ.zero =>
          rw [if_pos (by rfl)]
          have f21 : v 21 = .bool false := hF 21 (haft { on := 21, ground := .data } (by simp) rfl)
          have f25 : v 25 = .bool false := hF 25 (haft { on := 25, ground := .data } (by simp) rfl)
          have key := hK.out (.bool false) W hJW (fun _ _ h => h) rfl
          go_simp
          simpa [upd, f21, f25] using key
      case hend =>
        intro v W hJW hF
        have f26 : v 26 = .bool false := hF 26 (by decide)
        clear hF
        simp only [setAll, List.setIfInBounds_toArray, List.set_cons_zero, List.set_cons_succ, Nat.reduceAdd, f26]
        go_upto_region 12 with fail
        refine wp_region_slots [78, 79, 80, 81, 82, 83, 84, 85, 86, 87, 88, 89, 90, 91, 92, 93, 94] (by kernel_rfl) (by kernel_rfl)
          (F := fun j q W => match j with | 0 => q = .float .f64 a | 1 => q = .bool z | 2 => q = .bool z | 3 => z = false → q = .float .f64 b | 4 => z = false → q = .float .f64 (b % 9223372036854775808) | 5 => z = false → q = .float .f64 a | 6 => z = false → q = .float .f64 (a % 9223372036854775808) | 7 => z = false → q = .bool y | 8 => q = .bool c | 9 => q = .bool c | 10 => c = true → q = .float .f64 u0 | 11 => c = true → q = .float .f64 v0 | 12 => c = true → RDy W W9.heap.size q (A + B) (-1074) | 13 => c = true → q = .agg #[.bool (cneg (A + B)), .slice As ns cs, .int .i64 (cexp (A + B) (-1074))] | 14 => c = true → q = .bool true | 15 => c = true → q = .bool false | 16 => q = .bool false | _ => True)
          (J := fun W => Below W9.heap.size W9 W)
          (below_drew hJW) ?hstep ?hend
        case hstep =>
          intro k o ho v W L hJW hF hnk haft K hK
          rcases k with _ | _ | _ | _ | _ | _ | _ | _ | _ | _ | _ | _ | _ | _ | _ | _ | _ | k
          all_goals first
            | (cases ho; done)
            | (obtain rfl := (Option.some.inj ho).symm
               clear ho
               simp only [setAll, List.setIfInBounds_toArray, List.set_cons_zero, List.set_cons_succ, List.getElem_toArray, List.getElem_cons_zero, List.getElem_cons_succ, Nat.reduceAdd] at haft hF hK ⊢)
          case zero =>
            rw [if_pos (by rfl)]
            have key := hK.out (.float .f64 a) W hJW (fun _ _ h => h) rfl
            go_simp
            simpa [upd] using key
          case succ.zero =>
            rw [if_pos (by rfl)]
            have f0 : v 0 = .float .f64 a := hF 0 (haft { on := 0, ground := .data } (by simp) rfl)
            have hz := HZ.out
            have key := hK.out (.bool z) W hJW (fun _ _ h => h) rfl
            go_simp
            simpa [upd, f0, hz] using key
          case succ.succ.zero =>
            rw [if_pos (by rfl)]
            have f1 : v 1 = .bool z := hF 1 (haft { on := 1, ground := .data } (by simp) rfl)
            have key := hK.out (.bool z) W hJW (fun _ _ h => h) rfl
            go_simp
            simpa [upd, f1] using key
          case succ.succ.succ.zero =>
            have fg : v 2 = .bool z := hF 2 (haft { on := 2, ground := .guard } (by simp) rfl)
            cases z
            case false =>
              rw [if_pos (by simp [Region.wanted, yielded, fg])]
              have key := hK.out (.float .f64 b) W hJW (fun _ _ h => h) (fun _ => rfl)
              go_simp
              simpa [upd, fg] using key
            case true =>
              rw [if_neg (by simp [Region.wanted, yielded, fg])]
              have key := hK.out undef W hJW (fun _ _ h => h) (fun hz_ => nomatch hz_)
              simpa [upd, Act.put, fg] using key
          case succ.succ.succ.succ.zero =>
            have fg : v 2 = .bool z := hF 2 (haft { on := 2, ground := .guard } (by simp) rfl)
            cases z
            case false =>
              rw [if_pos (by simp [Region.wanted, yielded, fg])]
              have f3 : v 3 = .float .f64 b := hF 3 (haft { on := 3, ground := .data } (by simp) rfl) rfl
              go_simp
              go_at_call 26
              refine (abs_any b h64b W).mono ?_
              rintro en w4 ⟨rfl, nn, rfl⟩
              have hb : Below W.heap.size W (W.drewN nn) := pw_below_drewN (Below.refl _ _) _
              obtain ⟨w4, hw4⟩ : ∃ w4, w4 = W.drewN nn := ⟨_, rfl⟩
              rw [← hw4] at hb ⊢
              have key := hK.out (.float .f64 (b % 9223372036854775808)) w4 (below_then hJW hJW.size hb) ?mono78_4 (fun _ => rfl)
              · simpa [upd, f3, fg] using key
              intro j hj hf
              rcases j with _ | _ | _ | _ | _ | _ | _ | _ | _ | _ | _ | _ | _ | _ | _ | _ | _ | j <;> first | exact hf | exact RDy.below hf hb | exact fun hz_ => RDy.below (hf hz_) hb
            case true =>
              rw [if_neg (by simp [Region.wanted, yielded, fg])]
              have key := hK.out undef W hJW (fun _ _ h => h) (fun hz_ => nomatch hz_)
              simpa [upd, Act.put, fg] using key
          case succ.succ.succ.succ.succ.zero =>
            have fg : v 2 = .bool z := hF 2 (haft { on := 2, ground := .guard } (by simp) rfl)
            cases z
            case false =>
              rw [if_pos (by simp [Region.wanted, yielded, fg])]
              have key := hK.out (.float .f64 a) W hJW (fun _ _ h => h) (fun _ => rfl)
              go_simp
              simpa [upd, fg] using key
            case true =>
              rw [if_neg (by simp [Region.wanted, yielded, fg])]
              have key := hK.out undef W hJW (fun _ _ h => h) (fun hz_ => nomatch hz_)
              simpa [upd, Act.put, fg] using key
          case succ.succ.succ.succ.succ.succ.zero =>
            have fg : v 2 = .bool z := hF 2 (haft { on := 2, ground := .guard } (by simp) rfl)
            cases z
            case false =>
              rw [if_pos (by simp [Region.wanted, yielded, fg])]
              have f5 : v 5 = .float .f64 a := hF 5 (haft { on := 5, ground := .data } (by simp) rfl) rfl
              go_simp
              go_at_call 26
              refine (abs_any a h64a W).mono ?_
              rintro en w4 ⟨rfl, nn, rfl⟩
              have hb : Below W.heap.size W (W.drewN nn) := pw_below_drewN (Below.refl _ _) _
              obtain ⟨w4, hw4⟩ : ∃ w4, w4 = W.drewN nn := ⟨_, rfl⟩
              rw [← hw4] at hb ⊢
              have key := hK.out (.float .f64 (a % 9223372036854775808)) w4 (below_then hJW hJW.size hb) ?mono78_6 (fun _ => rfl)
              · simpa [upd, f5, fg] using key
              intro j hj hf
              rcases j with _ | _ | _ | _ | _ | _ | _ | _ | _ | _ | _ | _ | _ | _ | _ | _ | _ | j <;> first | exact hf | exact RDy.below hf hb | exact fun hz_ => RDy.below (hf hz_) hb
            case true =>
              rw [if_neg (by simp [Region.wanted, yielded, fg])]
              have key := hK.out undef W hJW (fun _ _ h => h) (fun hz_ => nomatch hz_)
              simpa [upd, Act.put, fg] using key
          case succ.succ.succ.succ.succ.succ.succ.zero =>
            have fg : v 2 = .bool z := hF 2 (haft { on := 2, ground := .guard } (by simp) rfl)
            cases z
            case false =>
              rw [if_pos (by simp [Region.wanted, yielded, fg])]
              have f4 : v 4 = .float .f64 (b % 9223372036854775808) := hF 4 (haft { on := 4, ground := .data } (by simp) rfl) rfl
              have f6 : v 6 = .float .f64 (a % 9223372036854775808) := hF 6 (haft { on := 6, ground := .data } (by simp) rfl) rfl
              have hy := HY.out
              have key := hK.out (.bool y) W hJW (fun _ _ h => h) (fun _ => rfl)
              go_simp
              simpa [upd, f4, f6, fg, hy] using key
            case true =>
              rw [if_neg (by simp [Region.wanted, yielded, fg])]
              have key := hK.out undef W hJW (fun _ _ h => h) (fun hz_ => nomatch hz_)
              simpa [upd, Act.put, fg] using key
          case succ.succ.succ.succ.succ.succ.succ.succ.zero =>
            rw [if_pos (by rfl)]
            have f2 : v 2 = .bool z := hF 2 (haft { on := 2, ground := .data } (by simp) rfl)
            have f7 : z = false → v 7 = .bool y := hF 7 (haft { on := 7, ground := .data } (by simp) rfl)
            have hc := HC.out
            have key := hK.out (.bool c) W hJW (fun _ _ h => h) rfl
            go_simp
            cases z
            · have f7b := f7 rfl
              simp only [Bool.false_or] at hc
              subst hc
              simpa [upd, f2, f7b] using key
            · simp only [Bool.true_or] at hc
              subst hc
              simpa [upd, f2] using key
          case succ.succ.succ.succ.succ.succ.succ.succ.succ.zero =>
            rw [if_pos (by rfl)]
            have f8 : v 8 = .bool c := hF 8 (haft { on := 8, ground := .data } (by simp) rfl)
            have key := hK.out (.bool c) W hJW (fun _ _ h => h) rfl
            go_simp
            simpa [upd, f8] using key
          case succ.succ.succ.succ.succ.succ.succ.succ.succ.succ.zero =>
            have fg : v 9 = .bool c := hF 9 (haft { on := 9, ground := .guard } (by simp) rfl)
            cases c
            case false =>
              rw [if_neg (by simp [Region.wanted, yielded, fg])]
              have key := hK.out undef W hJW (fun _ _ h => h) (fun hz_ => nomatch hz_)
              simpa [upd, Act.put, fg] using key
            case true =>
              rw [if_pos (by simp [Region.wanted, yielded, fg])]
              have key := hK.out (.float .f64 u0) W hJW (fun _ _ h => h) (fun _ => rfl)
              go_simp
              simpa [upd, fg] using key
          case succ.succ.succ.succ.succ.succ.succ.succ.succ.succ.succ.zero =>
            have fg : v 9 = .bool c := hF 9 (haft { on := 9, ground := .guard } (by simp) rfl)
            cases c
            case false =>
              rw [if_neg (by simp [Region.wanted, yielded, fg])]
              have key := hK.out undef W hJW (fun _ _ h => h) (fun hz_ => nomatch hz_)
              simpa [upd, Act.put, fg] using key
            case true =>
              rw [if_pos (by simp [Region.wanted, yielded, fg])]
              have key := hK.out (.float .f64 v0) W hJW (fun _ _ h => h) (fun _ => rfl)
              go_simp
              simpa [upd, fg] using key
          case succ.succ.succ.succ.succ.succ.succ.succ.succ.succ.succ.succ.zero =>
            have fg : v 9 = .bool c := hF 9 (haft { on := 9, ground := .guard } (by simp) rfl)
            cases c
            case false =>
              rw [if_neg (by simp [Region.wanted, yielded, fg])]
              have key := hK.out undef W hJW (fun _ _ h => h) (fun hz_ => nomatch hz_)
              simpa [upd, Act.put, fg] using key
            case true =>
              rw [if_pos (by simp [Region.wanted, yielded, fg])]
              have f10 : v 10 = .float .f64 u0 := hF 10 (haft { on := 10, ground := .data } (by simp) rfl) rfl
              have f11 : v 11 = .float .f64 v0 := hF 11 (haft { on := 11, ground := .data } (by simp) rfl) rfl
              go_simp
              go_at_call 23
              refine (QUV.out rfl _).mono ?_
              rintro en w4 ⟨v1, rfl, hr, hb⟩
              have key := hK.out (v1) w4 (below_then hJW hJW.size hb) ?mono78_12 (fun _ => hr.lower hJW.size)
              · simpa [upd, f10, f11, fg] using key
              intro j hj hf
              rcases j with _ | _ | _ | _ | _ | _ | _ | _ | _ | _ | _ | _ | _ | _ | _ | _ | _ | j <;> first | exact hf | exact RDy.below hf hb | exact fun hz_ => RDy.below (hf hz_) hb
          case succ.succ.succ.succ.succ.succ.succ.succ.succ.succ.succ.succ.succ.zero =>
            have fg : v 9 = .bool c := hF 9 (haft { on := 9, ground := .guard } (by simp) rfl)
            cases c
            case false =>
              rw [if_neg (by simp [Region.wanted, yielded, fg])]
              have key := hK.out undef W hJW (fun _ _ h => h) (fun hz_ => nomatch hz_)
              simpa [upd, Act.put, fg] using key
            case true =>
              rw [if_pos (by simp [Region.wanted, yielded, fg])]
              have cc0 := (box_cell (v := .bool (cneg (A + B))) (blk_below H9.out hJW) 0 rfl).1
              have cc1 := (box_cell (v := .slice As ns cs) (blk_below H9.out hJW) 1 rfl).1
              have cc2 := (box_cell (v := .int .i64 (cexp (A + B) (-1074))) (blk_below H9.out hJW) 2 rfl).1
              have key := hK.out (.agg #[.bool (cneg (A + B)), .slice As ns cs, .int .i64 (cexp (A + B) (-1074))]) W hJW (fun _ _ h => h) (fun _ => rfl)
              go_simp
              simpa [upd, fg] using key
          case succ.succ.succ.succ.succ.succ.succ.succ.succ.succ.succ.succ.succ.succ.zero =>
            have fg : v 9 = .bool c := hF 9 (haft { on := 9, ground := .guard } (by simp) rfl)
            cases c
            case false =>
              rw [if_neg (by simp [Region.wanted, yielded, fg])]
              have key := hK.out undef W hJW (fun _ _ h => h) (fun hz_ => nomatch hz_)
              simpa [upd, Act.put, fg] using key
            case true =>
              rw [if_pos (by simp [Region.wanted, yielded, fg])]
              have f12 : RDy W W9.heap.size (v 12) (A + B) (-1074) := hF 12 (haft { on := 12, ground := .data } (by simp) rfl) rfl
              have f13 : v 13 = .agg #[.bool (cneg (A + B)), .slice As ns cs, .int .i64 (cexp (A + B) (-1074))] := hF 13 (haft { on := 13, ground := .data } (by simp) rfl) rfl
              go_simp
              go_at_call 24
              refine (same_self (v 12) (.agg #[.bool (cneg (A + B)), .slice As ns cs, .int .i64 (cexp (A + B) (-1074))]) (A + B) (-1074) W f12.c (CS.out W hJW) (by omega) (by omega) (by omega)).mono ?_
              rintro en w4 ⟨rfl, hb⟩
              have key := hK.out (.bool true) w4 (below_then hJW hJW.size hb) ?mono78_14 (fun _ => rfl)
              · simpa [upd, f13, fg] using key
              intro j hj hf
              rcases j with _ | _ | _ | _ | _ | _ | _ | _ | _ | _ | _ | _ | _ | _ | _ | _ | _ | j <;> first | exact hf | exact RDy.below hf hb | exact fun hz_ => RDy.below (hf hz_) hb
          case succ.succ.succ.succ.succ.succ.succ.succ.succ.succ.succ.succ.succ.succ.succ.zero =>
            have fg : v 9 = .bool c := hF 9 (haft { on := 9, ground := .guard } (by simp) rfl)
            cases c
            case false =>
              rw [if_neg (by simp [Region.wanted, yielded, fg])]
              have key := hK.out undef W hJW (fun _ _ h => h) (fun hz_ => nomatch hz_)
              simpa [upd, Act.put, fg] using key
            case true =>
              rw [if_pos (by simp [Region.wanted, yielded, fg])]
              have f14 : v 14 = .bool true := hF 14 (haft { on := 14, ground := .data } (by simp) rfl) rfl
              have key := hK.out (.bool false) W hJW (fun _ _ h => h) (fun _ => rfl)
              go_simp
              simpa [upd, f14, fg] using key
          case succ.succ.succ.succ.succ.succ.succ.succ.succ.succ.succ.succ.succ.succ.succ.succ.zero =>
            rw [if_pos (by rfl)]
            have f9 : v 9 = .bool c := hF 9 (haft { on := 9, ground := .data } (by simp) rfl)
            have f15 : c = true → v 15 = .bool false := hF 15 (haft { on := 15, ground := .data } (by simp) rfl)
            have key := hK.out (.bool false) W hJW (fun _ _ h => h) rfl
            go_simp
            cases c
            · simpa [upd, f9] using key
            · have f15b := f15 rfl
              simpa [upd, f9, f15b] using key
        case hend =>
          intro v2 W2 hJW2 hF2
          have f16 : v2 16 = .bool false := hF2 16 (by decide)
          clear hF2
          have BW2 := Aside0.mk hJW2
          clear hJW2
          simp only [setAll, List.setIfInBounds_toArray, List.set_cons_zero, List.set_cons_succ, Nat.reduceAdd, f16]
          go_upto_region 15 with (first
            | (go_at_call 14; first
               | (with_reducible refine (NA.out _).mono ?_; rintro e w5 ⟨va, rfl, hra, hb⟩; have RA := Aside0.mk hra; have B5 := Aside0.mk (below_then BW2.out BW2.out.size (by first | exact hb | exact below_after hb)); clear hra hb)
               | (with_reducible refine (NB.out _).mono ?_; rintro e w6 ⟨vb, rfl, hrb, hb⟩; have RB := Aside0.mk hrb; have RA3 := Aside0.mk (RA.out.below hb); have B6 := Aside0.mk (below_then B5.out B5.out.size hb); clear hrb hb))
            | (go_at_call 13; go_must (refine (QT.out va vb _ RA3.out.c RB.out.c).mono ?_; rintro e w7 ⟨vp, rfl, ⟨Ap, np, cp, rfl, hrp⟩, hb⟩; have RP := Aside0.mk hrp; have B7 := Aside0.mk (below_then B6.out B6.out.size hb); clear hrp hb)))
          obtain ⟨W15, hW15⟩ : ∃ W15, W15 = w7.alloc (.cells #[.bool (cneg (A * B)), .slice Ap np cp, .int .i64 (cexp (A * B) (-2148))] 30) := ⟨_, rfl⟩
          rw [← hW15]
          have B15 := Aside0.mk (show Below w7.heap.size w7 W15 by rw [hW15]; exact below_alloc (Below.refl _ _) _)
          have H15 := Aside0.mk (show W15.heap[w7.heap.size]? = some (.cells #[.bool (cneg (A * B)), .slice Ap np cp, .int .i64 (cexp (A * B) (-2148))] 30 (0, 0)) by rw [hW15]; exact blk_new _ _)
          clear hW15
          have CP := Aside0.mk (fun (m : World) (hm : Below W15.heap.size W15 m) => show CDy m (.agg #[.bool (cneg (A * B)), .slice Ap np cp, .int .i64 (cexp (A * B) (-2148))]) (A * B) (-2148) from ((RDy.c ⟨Ap, np, cp, rfl, RP.out⟩).below B15.out).below hm)
          have rp := Kd.R_reads' RP.out
          have QTop := Aside0.mk (fun (m : World) (hm : Below W15.heap.size W15 m) => QP.out _ m (CP.out m hm))
          have QLen := Aside0.mk (fun (m : World) (hm : Below W15.heap.size W15 m) => len_any (limbs (cman (A * B))) Ap cp m (by have := Kd.C_below (d := kU) (Kd.C_below (d := kU) rp.2.2 B15.out) hm; exact this) (by rw [← rp.1]; exact rp.2.1) (wf_limbs _) (by omega))
          rw [← rp.1, nv_limbs] at QLen
          have hAB0 : A * B = 0 → decide (T0 < -900) = false := by
            intro h0
            rw [← hT0, h0, cman_zero, cexp_zero]; decide
          obtain ⟨tl, htl⟩ : ∃ b, b = decide (T0 < -900) := ⟨_, rfl⟩
          have HL := Aside0.mk (show tl = true → 0 < bl (cman (A * B)) from fun h => by
            have hne : A * B ≠ 0 := fun h0 => by rw [htl, hAB0 h0] at h; cases h
            have h1 : cman (A * B) ≠ 0 := fun h => hne (cman_eq_zero.1 h)
            have h2 : ¬ bl (cman (A * B)) ≤ 0 := fun h => h1 (by have := bl_le_iff.1 h; omega)
            omega)
          have HT := Aside0.mk htl.symm
          clear rp hAB0 htl
          refine wp_region_slots [100, 101, 102, 103, 104, 105, 106, 107, 108, 109, 110, 111, 112, 113, 114, 115, 4] (by kernel_rfl) (by kernel_rfl)
            (F := fun j q W => match j with | 0 => q = .agg #[.bool (cneg (A * B)), .slice Ap np cp, .int .i64 (cexp (A * B) (-2148))] | 1 => q = .int .i64 T0 | 2 => q = .bool tl | 3 => q = .bool tl | 4 => tl = true → q = .pointer (some ⟨w7.heap.size, 1, none⟩) | 5 => tl = true → q = .slice Ap np cp | 6 => tl = true → q = .int .i64 (bl (cman (A * B)) : Int) | 7 => tl = true → q = .bool true | 8 => q = .bool tl | 9 => q = .bool tl | 10 => tl = false → q = .float .f64 p0 | 11 => tl = false → q = .float .f64 e0 | 12 => tl = false → RDy W W15.heap.size q (A * B) (-2148) | 13 => tl = false → q = .agg #[.bool (cneg (A * B)), .slice Ap np cp, .int .i64 (cexp (A * B) (-2148))] | 14 => tl = false → q = .bool true | 15 => q = .bool true | 16 => q = .bool true | _ => True)
            (J := fun W => Below W15.heap.size W15 W)
            (below_drew (Below.refl _ _)) ?hstep ?hend
          case hstep =>
            intro k o ho v W L hJW hF hnk haft K hK
            rcases k with _ | _ | _ | _ | _ | _ | _ | _ | _ | _ | _ | _ | _ | _ | _ | _ | _ | k
            all_goals first
              | (cases ho; done)
              | (obtain rfl := (Option.some.inj ho).symm
                 clear ho
                 simp only [setAll, List.setIfInBounds_toArray, List.set_cons_zero, List.set_cons_succ, List.getElem_toArray, List.getElem_cons_zero, List.getElem_cons_succ, Nat.reduceAdd] at haft hF hK ⊢)
            case zero =>
              rw [if_pos (by rfl)]
              have cc0 := (box_cell (v := .bool (cneg (A * B))) (blk_below H15.out hJW) 0 rfl).1
              have cc1 := (box_cell (v := .slice Ap np cp) (blk_below H15.out hJW) 1 rfl).1
              have cc2 := (box_cell (v := .int .i64 (cexp (A * B) (-2148))) (blk_below H15.out hJW) 2 rfl).1
              have key := hK.out (.agg #[.bool (cneg (A * B)), .slice Ap np cp, .int .i64 (cexp (A * B) (-2148))]) W hJW (fun _ _ h => h) rfl
              go_simp
              simpa [upd] using key
            case succ.zero =>
              rw [if_pos (by rfl)]
              have f0 : v 0 = .agg #[.bool (cneg (A * B)), .slice Ap np cp, .int .i64 (cexp (A * B) (-2148))] := hF 0 (haft { on := 0, ground := .data } (by simp) rfl)
              go_simp
              go_at_call 15
              refine (QTop.out W hJW).mono ?_
              rintro en w4 ⟨rfl, hb⟩
              have key := hK.out (.int .i64 T0) w4 (below_then hJW hJW.size hb) ?mono100_1 (rfl)
              · simpa [upd, f0] using key
              intro j hj hf
              rcases j with _ | _ | _ | _ | _ | _ | _ | _ | _ | _ | _ | _ | _ | _ | _ | _ | _ | j <;> first | exact hf | exact RDy.below hf hb | exact fun hz_ => RDy.below (hf hz_) hb
            case succ.succ.zero =>
              rw [if_pos (by rfl)]
              have f1 : v 1 = .int .i64 T0 := hF 1 (haft { on := 1, ground := .data } (by simp) rfl)
              have ht := HT.out
              have key := hK.out (.bool tl) W hJW (fun _ _ h => h) rfl
              go_simp
              simpa [upd, f1, ht] using key
            case succ.succ.succ.zero =>
              rw [if_pos (by rfl)]
              have f2 : v 2 = .bool tl := hF 2 (haft { on := 2, ground := .data } (by simp) rfl)
              have key := hK.out (.bool tl) W hJW (fun _ _ h => h) rfl
              go_simp
              simpa [upd, f2] using key
            case succ.succ.succ.succ.zero =>
              have fg : v 3 = .bool tl := hF 3 (haft { on := 3, ground := .guard } (by simp) rfl)
              cases tl
              case false =>
                rw [if_neg (by simp [Region.wanted, yielded, fg])]
                have key := hK.out undef W hJW (fun _ _ h => h) (fun hz_ => nomatch hz_)
                simpa [upd, Act.put, fg] using key
              case true =>
                rw [if_pos (by simp [Region.wanted, yielded, fg])]
                have key := hK.out (.pointer (some ⟨w7.heap.size, 1, none⟩)) W hJW (fun _ _ h => h) (fun _ => rfl)
                go_simp
                simpa [upd, fg] using key
            case succ.succ.succ.succ.succ.zero =>
              have fg : v 3 = .bool tl := hF 3 (haft { on := 3, ground := .guard } (by simp) rfl)
              cases tl
              case false =>
                rw [if_neg (by simp [Region.wanted, yielded, fg])]
                have key := hK.out undef W hJW (fun _ _ h => h) (fun hz_ => nomatch hz_)
                simpa [upd, Act.put, fg] using key
              case true =>
                rw [if_pos (by simp [Region.wanted, yielded, fg])]
                have f4 : v 4 = .pointer (some ⟨w7.heap.size, 1, none⟩) := hF 4 (haft { on := 4, ground := .data } (by simp) rfl) rfl
                have cc1 := (box_cell (v := .slice Ap np cp) (blk_below H15.out hJW) 1 rfl).1
                have key := hK.out (.slice Ap np cp) W hJW (fun _ _ h => h) (fun _ => rfl)
                go_simp
                simpa [upd, f4, fg] using key
            case succ.succ.succ.succ.succ.succ.zero =>
              have fg : v 3 = .bool tl := hF 3 (haft { on := 3, ground := .guard } (by simp) rfl)
              cases tl
              case false =>
                rw [if_neg (by simp [Region.wanted, yielded, fg])]
                have key := hK.out undef W hJW (fun _ _ h => h) (fun hz_ => nomatch hz_)
                simpa [upd, Act.put, fg] using key
              case true =>
                rw [if_pos (by simp [Region.wanted, yielded, fg])]
                have f5 : v 5 = .slice Ap np cp := hF 5 (haft { on := 5, ground := .data } (by simp) rfl) rfl
                go_simp
                go_at_call 16
                refine (QLen.out W hJW).mono ?_
                rintro en w4 ⟨rfl, hb⟩
                have key := hK.out (.int .i64 (bl (cman (A * B)) : Int)) w4 (below_then hJW hJW.size hb) ?mono100_6 (fun _ => rfl)
                · simpa [upd, f5, fg] using key
                intro j hj hf
                rcases j with _ | _ | _ | _ | _ | _ | _ | _ | _ | _ | _ | _ | _ | _ | _ | _ | _ | j <;> first | exact hf | exact RDy.below hf hb | exact fun hz_ => RDy.below (hf hz_) hb
            case succ.succ.succ.succ.succ.succ.succ.zero =>
              have fg : v 3 = .bool tl := hF 3 (haft { on := 3, ground := .guard } (by simp) rfl)
              cases tl
              case false =>
                rw [if_neg (by simp [Region.wanted, yielded, fg])]
                have key := hK.out undef W hJW (fun _ _ h => h) (fun hz_ => nomatch hz_)
                simpa [upd, Act.put, fg] using key
              case true =>
                rw [if_pos (by simp [Region.wanted, yielded, fg])]
                have f6 : v 6 = .int .i64 (bl (cman (A * B)) : Int) := hF 6 (haft { on := 6, ground := .data } (by simp) rfl) rfl
                have hl := HL.out rfl
                have key := hK.out (.bool true) W hJW (fun _ _ h => h) (fun _ => rfl)
                go_simp
                simpa [upd, f6, fg, hl] using key
            case succ.succ.succ.succ.succ.succ.succ.succ.zero =>
              rw [if_pos (by rfl)]
              have f3 : v 3 = .bool tl := hF 3 (haft { on := 3, ground := .data } (by simp) rfl)
              have f7 : tl = true → v 7 = .bool true := hF 7 (haft { on := 7, ground := .data } (by simp) rfl)
              have key := hK.out (.bool tl) W hJW (fun _ _ h => h) rfl
              go_simp
              cases tl
              · simpa [upd, f3] using key
              · have f7b := f7 rfl
                simpa [upd, f3, f7b] using key
            case succ.succ.succ.succ.succ.succ.succ.succ.succ.zero =>
              rw [if_pos (by rfl)]
              have f8 : v 8 = .bool tl := hF 8 (haft { on := 8, ground := .data } (by simp) rfl)
              have key := hK.out (.bool tl) W hJW (fun _ _ h => h) rfl
              go_simp
              simpa [upd, f8] using key
            case succ.succ.succ.succ.succ.succ.succ.succ.succ.succ.zero =>
              have fg : v 9 = .bool tl := hF 9 (haft { on := 9, ground := .guard } (by simp) rfl)
              cases tl
              case false =>
                rw [if_pos (by simp [Region.wanted, yielded, fg])]
                have key := hK.out (.float .f64 p0) W hJW (fun _ _ h => h) (fun _ => rfl)
                go_simp
                simpa [upd, fg] using key
              case true =>
                rw [if_neg (by simp [Region.wanted, yielded, fg])]
                have key := hK.out undef W hJW (fun _ _ h => h) (fun hz_ => nomatch hz_)
                simpa [upd, Act.put, fg] using key
            case succ.succ.succ.succ.succ.succ.succ.succ.succ.succ.succ.zero =>
              have fg : v 9 = .bool tl := hF 9 (haft { on := 9, ground := .guard } (by simp) rfl)
              cases tl
              case false =>
                rw [if_pos (by simp [Region.wanted, yielded, fg])]
                have key := hK.out (.float .f64 e0) W hJW (fun _ _ h => h) (fun _ => rfl)
                go_simp
                simpa [upd, fg] using key
              case true =>
                rw [if_neg (by simp [Region.wanted, yielded, fg])]
                have key := hK.out undef W hJW (fun _ _ h => h) (fun hz_ => nomatch hz_)
                simpa [upd, Act.put, fg] using key
            case succ.succ.succ.succ.succ.succ.succ.succ.succ.succ.succ.succ.zero =>
              have fg : v 9 = .bool tl := hF 9 (haft { on := 9, ground := .guard } (by simp) rfl)
              cases tl
              case false =>
                rw [if_pos (by simp [Region.wanted, yielded, fg])]
                have f10 : v 10 = .float .f64 p0 := hF 10 (haft { on := 10, ground := .data } (by simp) rfl) rfl
                have f11 : v 11 = .float .f64 e0 := hF 11 (haft { on := 11, ground := .data } (by simp) rfl) rfl
                go_simp
                go_at_call 23
                refine (QPE.out _).mono ?_
                rintro en w4 ⟨v1, rfl, hr, hb⟩
                have key := hK.out (v1) w4 (below_then hJW hJW.size hb) ?mono100_12 (fun _ => hr.lower hJW.size)
                · simpa [upd, f10, f11, fg] using key
                intro j hj hf
                rcases j with _ | _ | _ | _ | _ | _ | _ | _ | _ | _ | _ | _ | _ | _ | _ | _ | _ | j <;> first | exact hf | exact RDy.below hf hb | exact fun hz_ => RDy.below (hf hz_) hb
              case true =>
                rw [if_neg (by simp [Region.wanted, yielded, fg])]
                have key := hK.out undef W hJW (fun _ _ h => h) (fun hz_ => nomatch hz_)
                simpa [upd, Act.put, fg] using key
            case succ.succ.succ.succ.succ.succ.succ.succ.succ.succ.succ.succ.succ.zero =>
              have fg : v 9 = .bool tl := hF 9 (haft { on := 9, ground := .guard } (by simp) rfl)
              cases tl
              case false =>
                rw [if_pos (by simp [Region.wanted, yielded, fg])]
                have cc0 := (box_cell (v := .bool (cneg (A * B))) (blk_below H15.out hJW) 0 rfl).1
                have cc1 := (box_cell (v := .slice Ap np cp) (blk_below H15.out hJW) 1 rfl).1
                have cc2 := (box_cell (v := .int .i64 (cexp (A * B) (-2148))) (blk_below H15.out hJW) 2 rfl).1
                have key := hK.out (.agg #[.bool (cneg (A * B)), .slice Ap np cp, .int .i64 (cexp (A * B) (-2148))]) W hJW (fun _ _ h => h) (fun _ => rfl)
                go_simp
                simpa [upd, fg] using key
              case true =>
                rw [if_neg (by simp [Region.wanted, yielded, fg])]
                have key := hK.out undef W hJW (fun _ _ h => h) (fun hz_ => nomatch hz_)
                simpa [upd, Act.put, fg] using key
            case succ.succ.succ.succ.succ.succ.succ.succ.succ.succ.succ.succ.succ.succ.zero =>
              have fg : v 9 = .bool tl := hF 9 (haft { on := 9, ground := .guard } (by simp) rfl)
              cases tl
              case false =>
                rw [if_pos (by simp [Region.wanted, yielded, fg])]
                have f12 : RDy W W15.heap.size (v 12) (A * B) (-2148) := hF 12 (haft { on := 12, ground := .data } (by simp) rfl) rfl
                have f13 : v 13 = .agg #[.bool (cneg (A * B)), .slice Ap np cp, .int .i64 (cexp (A * B) (-2148))] := hF 13 (haft { on := 13, ground := .data } (by simp) rfl) rfl
                go_simp
                go_at_call 24
                refine (same_self (v 12) (.agg #[.bool (cneg (A * B)), .slice Ap np cp, .int .i64 (cexp (A * B) (-2148))]) (A * B) (-2148) W f12.c (CP.out W hJW) (by omega) (by omega) (by omega)).mono ?_
                rintro en w4 ⟨rfl, hb⟩
                have key := hK.out (.bool true) w4 (below_then hJW hJW.size hb) ?mono100_14 (fun _ => rfl)
                · simpa [upd, f13, fg] using key
                intro j hj hf
                rcases j with _ | _ | _ | _ | _ | _ | _ | _ | _ | _ | _ | _ | _ | _ | _ | _ | _ | j <;> first | exact hf | exact RDy.below hf hb | exact fun hz_ => RDy.below (hf hz_) hb
              case true =>
                rw [if_neg (by simp [Region.wanted, yielded, fg])]
                have key := hK.out undef W hJW (fun _ _ h => h) (fun hz_ => nomatch hz_)
                simpa [upd, Act.put, fg] using key
            case succ.succ.succ.succ.succ.succ.succ.succ.succ.succ.succ.succ.succ.succ.succ.zero =>
              rw [if_pos (by rfl)]
              have f9 : v 9 = .bool tl := hF 9 (haft { on := 9, ground := .data } (by simp) rfl)
              have f14 : tl = false → v 14 = .bool true := hF 14 (haft { on := 14, ground := .data } (by simp) rfl)
              have key := hK.out (.bool true) W hJW (fun _ _ h => h) rfl
              go_simp
              cases tl
              · have f14b := f14 rfl
                simpa [upd, f9, f14b] using key
              · simpa [upd, f9] using key
            case succ.succ.succ.succ.succ.succ.succ.succ.succ.succ.succ.succ.succ.succ.succ.succ.zero =>
              rw [if_pos (by rfl)]
              have f15 : v 15 = .bool true := hF 15 (haft { on := 15, ground := .data } (by simp) rfl)
              have key := hK.out (.bool true) W hJW (fun _ _ h => h) rfl
              go_simp
              simpa [upd, f15] using key
          case hend =>
            intro v3 W3 hJW3 hF3
            have f16b : v3 16 = .bool true := hF3 16 (by decide)
            clear hF3
            simp only [setAll, List.setIfInBounds_toArray, List.set_cons_zero, List.set_cons_succ, Nat.reduceAdd, f16b]
            have BF := below_then (below_then (below_then (below_then B2.out B2.out.size B9.out) (below_then B2.out B2.out.size B9.out).size B7.out) (below_then (below_then B2.out B2.out.size B9.out) (below_then B2.out B2.out.size B9.out).size B7.out).size B15.out)
              (below_then (below_then (below_then B2.out B2.out.size B9.out) (below_then B2.out B2.out.size B9.out).size B7.out) (below_then (below_then B2.out B2.out.size B9.out) (below_then B2.out B2.out.size B9.out).size B7.out).size B15.out).size hJW3
            go_wp2
            go_ret
            exact ⟨rfl, BF⟩
end Go.Proofs.Ytplkmbdoecepeaa
