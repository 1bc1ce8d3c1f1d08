/- EftOrder: the walk. -/
import Derived.Test.YtplkmbdoecepeaaNumber
import Derived.Test.YtplkmbdoecepeaaSteps
namespace Go.Proofs.Ytplkmbdoecepeaa
open Go.RowKit Go.Proofs.YtplkmbdoecepeaaW.PrintWords Limb Ieee EftPure
set_option linter.unusedVariables false
set_option linter.unusedSimpArgs false

/-- A sum either way, once more; a product either way. -/
theorem order_mod {a b : Nat} (ha : modB a = true) (hb : modB b = true) : ∃ (s t u v p e q f x y : Nat) (A B : Int),
    (∀ s' t', TSR a b s' t' → s' = s ∧ t' = t) ∧ (∀ s' t', TSR b a s' t' → s' = u ∧ t' = v) ∧ (∀ s' t', TPR a b s' t' → s' = p ∧ t' = e) ∧ (∀ s' t', TPR b a s' t' → s' = q ∧ t' = f) ∧ (∀ s' t', TSR s t s' t' → s' = x ∧ t' = y) ∧
    (FloatKind.f64.format.order s u == some .eq) = true ∧ (FloatKind.f64.format.order t v == some .eq) = true ∧ (FloatKind.f64.format.order p q == some .eq) = true ∧ (FloatKind.f64.format.order e f == some .eq) = true ∧ (FloatKind.f64.format.order x s == some .eq) = true ∧ (FloatKind.f64.format.order y t == some .eq) = true ∧
    IsF a A ∧ IsF b B ∧ A.natAbs ≤ 2 ^ HI ∧ B.natAbs ≤ 2 ^ HI := by
  obtain ⟨A, iA, fA, bA⟩ := modB_val ha
  obtain ⟨B, iB, fB, bB⟩ := modB_val hb
  obtain ⟨m1, m2, m3⟩ := mod_bounds
  obtain ⟨s, t, f1, f2, _, d1⟩ := TSR.total iA iB bA bB (by omega)
  obtain ⟨u, v, g1, g2, _, d2⟩ := TSR.total iB iA bB bA (by omega)
  obtain ⟨p, e, P, hP, f3, f4, _, _, d3⟩ := TPR.total iA iB fA fB bA bB m1 m2 m3
  obtain ⟨q, f, P', hP', g3, g4, _, _, d4⟩ := TPR.total iB iA fB fA bB bA m1 m2 m3
  have hPP : P' = P := by
    rw [Int.mul_comm, hP] at hP'
    exact (Int.eq_of_mul_eq_mul_right (by have := EftPure.pow_pos DD; omega) hP').symm
  subst hPP
  rw [Int.add_comm B A] at g1 g2
  have bS : (rnI (A + B)).natAbs ≤ 2 ^ (HI + 1) := rnI_le (add_le_pow bA bB)
  have bT : (A + B - rnI (A + B)).natAbs ≤ 2 ^ (HI + 1 + 1) := sub_le_pow (c := HI + 1) (add_le_pow bA bB) bS
  obtain ⟨x, y, h1, h2, _, d5⟩ := TSR.total f1 f2 (c := HI + 1 + 1) (le_pow bS (Nat.le_succ _)) bT (by omega)
  have hsum : rnI (A + B) + (A + B - rnI (A + B)) = A + B := by omega
  rw [hsum] at h1 h2
  exact ⟨s, t, u, v, p, e, q, f, x, y, A, B, d1, d2, d3, d4, d5, eq_of_val f1 g1, eq_of_val f2 g2, eq_of_val f3 g3, eq_of_val f4 g4, eq_of_val h1 f1, eq_of_val h2 f2, iA, iB, bA, bB⟩

/-- A number of a bounded size in its form. -/
theorem form_small {z e : Int} {c k : Nat} (h : z.natAbs < 2 ^ c) (hc : c ≤ 64 * k) : (limbs (cman z)).length ≤ k ∧ (cexp z e = 0 ∨ e ≤ cexp z e ∧ cexp z e ≤ e + c) := by
  refine ⟨limbs_len_le (Nat.lt_of_le_of_lt (Nat.div_le_self _ _) (Nat.lt_of_lt_of_le h (Nat.pow_le_pow_right (by decide) hc))), ?_⟩
  unfold cexp
  split
  · exact .inl rfl
  · rename_i h0
    have h1 := tz_lt_bl (n := z.natAbs) (by omega)
    have h2 := bl_le_iff.2 h
    exact .inr (by omega)

set_option maxRecDepth 100000 in
set_option maxHeartbeats 4000000 in
theorem order_any (a b : Nat) (h64a : a < 18446744073709551616) (h64b : b < 18446744073709551616) (w : World) :
    Calls Try.prog 3 #[.float .f64 a, .float .f64 b] w fun e w' => e = .returned (.bool true) ∧ Below w.heap.size w w' := by
  cases ha : modB a
  · go_enter Try.func3, Try.ntmps3
    go_wp2_with (first | (go_at_call 9; refine (lives_any _).mono ?_; rintro e W1 ⟨rfl, hb⟩; have HB := Aside0.mk hb; clear hb) | (go_at_call 10; refine (moderate_any _ _).mono ?_; rintro e w' ⟨rfl, n5, rfl⟩))
    go_ret
    exact ⟨rfl, pw_below_drewN HB.out _⟩
  · cases hb : modB b
    · go_enter Try.func3, Try.ntmps3
      go_wp2_with (first | (go_at_call 9; refine (lives_any _).mono ?_; rintro e W1 ⟨rfl, hb⟩; have HB := Aside0.mk hb; clear hb) | (go_at_call 10; refine (moderate_any _ _).mono ?_; rintro e w' ⟨rfl, n5, rfl⟩))
      go_ret
      exact ⟨rfl, pw_below_drewN HB.out _⟩
    · obtain ⟨s0, t0, u0, v0, p0, e0, q0, f0, x0, y0, A, B, d1, d2, d3, d4, d5, c1, c2, c3, c4, c5, c6, iA, iB, bA, bB⟩ := order_mod ha hb
      have D1 := Aside0.mk d1
      have D2 := Aside0.mk d2
      have D3 := Aside0.mk d3
      have D4 := Aside0.mk d4
      have D5 := Aside0.mk d5
      have NA := Aside0.mk (fun (m : World) => number_any a A iA h64a m)
      have NB := Aside0.mk (fun (m : World) => number_any b B iB h64b m)
      have hHI := HI_eq
      have sA : A.natAbs < 2 ^ (HI + 1) := Nat.lt_of_le_of_lt bA (Nat.pow_lt_pow_right (by decide) (by omega))
      have sB : B.natAbs < 2 ^ (HI + 1) := Nat.lt_of_le_of_lt bB (Nat.pow_lt_pow_right (by decide) (by omega))
      have sP : (A * B).natAbs < 2 ^ (HI + 1 + (HI + 1)) := by
        rw [Int.natAbs_mul, Nat.pow_add]
        exact Nat.mul_lt_mul'' sA sB
      obtain ⟨la, xa⟩ := form_small (e := -1074) (k := 40) sA (by omega)
      obtain ⟨lb, xb⟩ := form_small (e := -1074) (k := 40) sB (by omega)
      obtain ⟨lp, xp⟩ := form_small (e := -1074 + -1074) (k := 80) sP (by omega)
      have QT := Aside0.mk (fun (u v : Value) (m : World) (h : CDy m u A (-1074)) (h' : CDy m v B (-1074)) => times_dy u v A B (-1074) (-1074) m h h' (by omega) (by omega) (by omega) (by omega) (by omega) (by omega))
      have QP := Aside0.mk (fun (v : Value) (m : World) (h : CDy m v (A * B) (-1074 + -1074)) => top_any v (A * B) (-1074 + -1074) m h (by omega) (by omega) (by omega))
      have LP := Aside0.mk lp
      clear d1 d2 d3 d4 d5 iA iB bA bB sA sB sP la lb lp xa xb xp hHI
      go_enter Try.func3, Try.ntmps3
      go_upto_region 11 with (first
        | (go_at_call 9; refine (lives_any _).mono ?_; rintro e W1 ⟨rfl, hb⟩; have HB := Aside0.mk hb; clear hb) | (go_at_call 10; refine (moderate_any _ _).mono ?_; rintro e w' ⟨rfl, n5, rfl⟩)
        | (go_at_call 11; first
           | (with_reducible refine (two_sum a b _).mono ?_; rintro e w' ⟨s, t, n1, rfl, hh_, rfl⟩; obtain ⟨rfl, rfl⟩ := D1.out _ _ hh_; clear hh_)
           | (with_reducible refine (two_sum b a _).mono ?_; rintro e w' ⟨s, t, n1, rfl, hh_, rfl⟩; obtain ⟨rfl, rfl⟩ := D2.out _ _ hh_; clear hh_)
           | (with_reducible refine (two_sum _ _ _).mono ?_; rintro e w' ⟨s, t, n1, rfl, hh_, rfl⟩; obtain ⟨rfl, rfl⟩ := D5.out _ _ hh_; clear hh_))
        | (go_at_call 12; first
           | (with_reducible refine (two_prod a b _).mono ?_; rintro e w' ⟨s, t, n1, rfl, hh_, rfl⟩; obtain ⟨rfl, rfl⟩ := D3.out _ _ hh_; clear hh_)
           | (with_reducible refine (two_prod b a _).mono ?_; rintro e w' ⟨s, t, n1, rfl, hh_, rfl⟩; obtain ⟨rfl, rfl⟩ := D4.out _ _ hh_; clear hh_))
        | (go_at_call 14; first
           | (with_reducible refine (NA.out _).mono ?_; rintro e w2 ⟨va, rfl, hra, hb⟩; have RA := Aside0.mk hra; have B2 := Aside0.mk (below_then HB.out HB.out.size (below_after hb)); clear hra hb)
           | (with_reducible refine (NB.out _).mono ?_; rintro e w3 ⟨vb, rfl, hrb, hb⟩; have RB := Aside0.mk hrb; have RA3 := Aside0.mk (RA.out.below hb); have B3 := Aside0.mk (below_then B2.out B2.out.size hb); clear hrb hb))
        | (go_at_call 13; go_must (refine (QT.out va vb _ RA3.out.c RB.out.c).mono ?_; rintro e w4 ⟨vp, rfl, ⟨Ap, np, cp, rfl, hrp⟩, hb⟩; have RP := Aside0.mk hrp; have B4 := Aside0.mk (below_then B3.out B3.out.size hb); clear hrp hb)))
      have rp := Kd.R_reads' RP.out
      have QP' := Aside0.mk (fun (m : World) (hm : Below w4.heap.size w4 m) => QP.out (.agg #[.bool (cneg (A * B)), .slice Ap np cp, .int .i64 (cexp (A * B) (-1074 + -1074))]) m ⟨Ap, np, cp, rfl, Kd.C_below (by rw [rp.1]; exact rp.2.2) hm, rp.1.symm, rp.2.1⟩)
      have QL := Aside0.mk (fun (m : World) (hm : Below w4.heap.size w4 m) => len_any (limbs (cman (A * B))) Ap cp m (by have := Kd.C_below (d := kU) rp.2.2 hm; exact this) (by rw [← rp.1]; exact rp.2.1) (wf_limbs _) (by have := LP.out; omega))
      rw [← rp.1] at QL
      clear rp
      obtain ⟨T, hT⟩ : ∃ T, T = cexp (A * B) (-1074 + -1074) + bl (cman (A * B)) - 1 := ⟨_, rfl⟩
      rw [← hT] at QP'
      clear hT
      obtain ⟨tl, htl⟩ : ∃ b, b = decide (T < -900) := ⟨_, rfl⟩
      have htl' := htl.symm
      clear htl
      cases tl
      all_goals
        go_wp2_with (first
          | (go_at_call 15; refine (QP'.out _ ?hB).mono ?_; (case hB => first | exact below_alloc (Below.refl _ _) _ | exact pw_below_drewN (below_alloc (Below.refl _ _) _) _); rintro e w5 ⟨rfl, hb⟩; have B5 := Aside0.mk (below_of_alloc hb); have hh5 := blk_below (blk_new w4 _) hb; have c5 := (box_cell (v := .slice Ap np cp) hh5 1 rfl).1; clear hb hh5)
          | (go_at_call 16; refine (QL.out _ B5.out).mono ?_; rintro e w6 ⟨rfl, hb⟩; have B6 := Aside0.mk (below_then B5.out B5.out.size hb); clear hb))
        all_goals go_ret
        all_goals exact ⟨by first | rfl | (congr 2; simp), below_then B4.out B4.out.size (by first | exact B6.out | exact pw_below_drewN B6.out _ | exact B5.out | exact pw_below_drewN B5.out _)⟩
end Go.Proofs.Ytplkmbdoecepeaa
