/- The steps at moderate floats, once more: with their words' bounds. -/
import Derived.Test.YtplkmbdoecepeaaEftPlain
import Derived.Laws.FloatArith
namespace EftPure
open Ieee Go
set_option linter.unusedVariables false
theorem lt64 {op : BinOp} {x y r : Nat} (h : floatBits op .f64 x y = some r) : r < 18446744073709551616 := by
  have := floatBits_wf h
  simpa [Lit.wf] using this
theorem TSR.total2 {a b : Nat} {A B : Int} (ha : IsF a A) (hb : IsF b B) {c : Nat} (hA : A.natAbs ≤ 2 ^ c) (hB : B.natAbs ≤ 2 ^ c) (hc : c + 6 ≤ TT) :
    ∃ s t, (s < 18446744073709551616 ∧ t < 18446744073709551616) ∧ IsF s (rnI (A + B)) ∧ IsF t (A + B - rnI (A + B)) ∧ (∃ x y p q, floatBits .add .f64 a b = some s ∧ floatBits .sub .f64 s a = some x ∧ floatBits .sub .f64 s x = some y ∧ floatBits .sub .f64 a y = some p ∧ floatBits .sub .f64 b x = some q ∧ floatBits .add .f64 p q = some t) ∧ ∀ s' t', TSR a b s' t' → s' = s ∧ t' = t := by
  have b1 := add_le_pow hA hB
  obtain ⟨s, e1, f1⟩ := add_val ha hb b1 (by omega)
  have c1 := rnI_le b1
  have b2 := sub_le_pow c1 (le_pow hA (Nat.le_succ c))
  obtain ⟨x, e2, f2⟩ := sub_val f1 ha b2 (by omega)
  have c2 := rnI_le b2
  have b3 := sub_le_pow (le_pow c1 (Nat.le_succ _)) c2
  obtain ⟨y, e3, f3⟩ := sub_val f1 f2 b3 (by omega)
  have c3 := rnI_le b3
  have b4 := sub_le_pow (le_pow hA (show c ≤ c + 1 + 1 + 1 by omega)) c3
  obtain ⟨p, e4, f4⟩ := sub_val ha f3 b4 (by omega)
  have c4 := rnI_le b4
  have b5 := sub_le_pow (le_pow hB (show c ≤ c + 1 + 1 by omega)) c2
  obtain ⟨q, e5, f5⟩ := sub_val hb f2 b5 (by omega)
  have c5 := rnI_le b5
  have b6 := add_le_pow c4 (le_pow c5 (Nat.le_succ _))
  obtain ⟨t, e6, f6⟩ := add_val f4 f5 b6 (by omega)
  have hts := two_sum ha.rep hb.rep (isRN_rnI _) (isRN_rnI _) (isRN_rnI _) (isRN_rnI _) (isRN_rnI _) (isRN_rnI _)
  rw [hts] at f6
  refine ⟨s, t, ⟨lt64 e1, lt64 e6⟩, f1, f6, ⟨x, y, p, q, e1, e2, e3, e4, e5, e6⟩, ?_⟩
  rintro s' t' ⟨x', y', p', q', g1, g2, g3, g4, g5, g6⟩
  obtain rfl := g1 _ e1
  obtain rfl := g2 _ e2
  obtain rfl := g3 _ e3
  obtain rfl := g4 _ e4
  obtain rfl := g5 _ e5
  exact ⟨rfl, g6 _ e6⟩

theorem FSR.total2 {a b : Nat} {A B : Int} (ha : IsF a A) (hb : IsF b B) {c : Nat} (hA : A.natAbs ≤ 2 ^ c) (hB : B.natAbs ≤ 2 ^ c) (hc : c + 6 ≤ TT) :
    ∃ s t T, (s < 18446744073709551616 ∧ t < 18446744073709551616) ∧ IsF s (rnI (A + B)) ∧ IsF t T ∧ (A = 0 ∨ B.natAbs ≤ A.natAbs → T = A + B - rnI (A + B)) ∧ ∀ s' t', FSR a b s' t' → s' = s ∧ t' = t := by
  have b1 := add_le_pow hA hB
  obtain ⟨s, e1, f1⟩ := add_val ha hb b1 (by omega)
  have c1 := rnI_le b1
  have b2 := sub_le_pow c1 (le_pow hA (Nat.le_succ c))
  obtain ⟨x, e2, f2⟩ := sub_val f1 ha b2 (by omega)
  have c2 := rnI_le b2
  have b3 := sub_le_pow (le_pow hB (show c ≤ c + 1 + 1 by omega)) c2
  obtain ⟨t, e3, f3⟩ := sub_val hb f2 b3 (by omega)
  refine ⟨s, t, _, ⟨lt64 e1, lt64 e3⟩, f1, f3, fun h => ?_, ?_⟩
  · rcases h with h | h
    · subst h
      have e : rnI (0 + B) = B := by rw [Int.zero_add]; exact rnI_rep hb.rep
      rw [e, Int.sub_zero, rnI_rep hb.rep, Int.zero_add, Int.sub_self]; rfl
    · exact fast_two_sum ha.rep hb.rep h (isRN_rnI _) (isRN_rnI _) (isRN_rnI _)
  rintro s' t' ⟨x', g1, g2, g3⟩
  obtain rfl := g1 _ e1
  obtain rfl := g2 _ e2
  exact ⟨rfl, g3 _ e3⟩

theorem SPR.total2 {a : Nat} {A : Int} (ha : IsF a A) (hA0 : Fit A) {c : Nat} (hA : A.natAbs ≤ 2 ^ c) (hc : c + 34 ≤ TT) :
    ∃ h l H, (h < 18446744073709551616 ∧ l < 18446744073709551616) ∧ IsF h H ∧ IsF l (A - H) ∧ HalvesOf A H ∧ ∀ h' l', SPR a h' l' → h' = h ∧ l' = l := by
  have hUL : 2 ^ UU ≤ 2 ^ LO := pow_mono_nat (by rw [LO_eq]; omega)
  have hbig : (134217729 * A).natAbs ≤ 2 ^ (c + 28) := by rw [Nat.add_comm, Nat.pow_add]; omega
  have hF : (134217729 * 2 ^ DD * A : Int) = 134217729 * A * 2 ^ DD := by rw [Int.mul_right_comm]
  obtain ⟨cw, P, e1, hP, f1⟩ := mul_val factor_val ha (.inr (by
      rw [abs_mul_DD, show Int.natAbs 134217729 = 134217729 from rfl]
      have : 2 ^ UU ≤ 2 ^ DD := pow_mono_nat (by rw [UU_eq, DD_eq]; omega)
      omega)) (hA0.imp id fun h => Nat.le_trans hUL h) (b := c + 28) (by rw [hF, abs_mul_DD]; exact Nat.mul_le_mul_right _ hbig) (by omega)
  rw [hF] at hP
  obtain rfl := cancel_DD hP
  clear hP
  have c1 := rnI_le hbig
  have b2 := sub_le_pow c1 (le_pow hA (show c ≤ c + 28 by omega))
  obtain ⟨x, e2, f2⟩ := sub_val f1 ha b2 (by omega)
  have c2 := rnI_le b2
  have b3 := sub_le_pow (le_pow c1 (Nat.le_succ _)) c2
  obtain ⟨h, e3, f3⟩ := sub_val f1 f2 b3 (by omega)
  have c3 := rnI_le b3
  have b4 := sub_le_pow (le_pow hA (show c ≤ c + 28 + 1 + 1 by omega)) c3
  obtain ⟨l, e4, f4⟩ := sub_val ha f3 b4 (by omega)
  have det : ∀ h' l', SPR a h' l' → h' = h ∧ l' = l := by
    rintro h' l' ⟨c', x', g1, g2, g3, g4⟩
    obtain rfl := g1 _ e1
    obtain rfl := g2 _ e2
    obtain rfl := g3 _ e3
    exact ⟨rfl, g4 _ e4⟩
  rcases hA0 with rfl | hA0
  · simp only [Int.mul_zero, rnI_zero, Int.sub_zero] at f3 f4
    exact ⟨h, l, 0, ⟨lt64 e3, lt64 e4⟩, f3, by simpa using f4, .inl ⟨rfl, rfl⟩, det⟩
  · obtain ⟨k, hk, hd, h1, h2⟩ := norm_place (u := UU) ha.rep (by rw [LO_eq] at hA0; exact hA0)
    obtain ⟨H, hH, hl, hh⟩ := halves hd h1 h2
    rw [hH] at f3 f4
    rw [hl] at f4
    exact ⟨h, l, H, ⟨lt64 e3, lt64 e4⟩, f3, f4, .inr ⟨k, hk, h1, h2, hd, hh⟩, det⟩

theorem TPR.total2 {a b : Nat} {A B : Int} (ha : IsF a A) (hb : IsF b B) (fa : Fit A) (fb : Fit B) {c d : Nat} (hA : A.natAbs ≤ 2 ^ c) (hB : B.natAbs ≤ 2 ^ c) (hc : c + 34 ≤ TT) (hd : c + c ≤ d + DD) (hdT : d + 10 ≤ TT) :
    ∃ p e P, (p < 18446744073709551616 ∧ e < 18446744073709551616) ∧ A * B = P * 2 ^ DD ∧ IsF p (rnI P) ∧ IsF e (P - rnI P) ∧ (rnI P).natAbs ≤ 2 ^ d ∧ (P - rnI P).natAbs ≤ 2 ^ (d + 1) ∧ ∀ p' e', TPR a b p' e' → p' = p ∧ e' = e := by
  obtain ⟨h, l, H, f1, f2, hh, det1⟩ := SPR.total ha fa hA hc
  obtain ⟨m, n, M, f3, f4, hm, det2⟩ := SPR.total hb fb hB hc
  have hUL : 2 ^ UU ≤ 2 ^ LO := pow_mono_nat (by rw [LO_eq]; omega)
  have bd : ∀ {X Y : Int}, X.natAbs ≤ 2 ^ (c + 1) → Y.natAbs ≤ 2 ^ (c + 1) → (X * Y).natAbs ≤ 2 ^ (d + 2) * 2 ^ DD := by
    intro X Y hx hy
    refine Nat.le_trans (le_mul_abs hx hy) ?_
    rw [← Nat.pow_add, ← Nat.pow_add]
    exact pow_mono_nat (by omega)
  have bdP : (A * B).natAbs ≤ 2 ^ d * 2 ^ DD := by
    refine Nat.le_trans (le_mul_abs hA hB) ?_
    rw [← Nat.pow_add, ← Nat.pow_add]
    exact pow_mono_nat hd
  have hc1 : ∀ {X : Int}, X.natAbs ≤ 2 ^ c → X.natAbs ≤ 2 ^ (c + 1) := fun h => le_pow h (Nat.le_succ c)
  obtain ⟨p, P, e1, hP, g1⟩ := mul_val ha hb (fa.imp id (Nat.le_trans hUL)) (fb.imp id (Nat.le_trans hUL)) bdP (by omega)
  obtain ⟨x1, X1, e2, hX1, g2⟩ := mul_val f1 f3 hh.ge.1 hm.ge.1 (bd (hh.le hA).1 (hm.le hB).1) (by omega)
  obtain ⟨x2, X2, e3, hX2, g3⟩ := mul_val f2 f3 hh.ge.2 hm.ge.1 (bd (hh.le hA).2 (hm.le hB).1) (by omega)
  obtain ⟨x3, X3, e4, hX3, g4⟩ := mul_val f1 f4 hh.ge.1 hm.ge.2 (bd (hh.le hA).1 (hm.le hB).2) (by omega)
  obtain ⟨z, Z, e5, hZ, g5⟩ := mul_val f2 f4 hh.ge.2 hm.ge.2 (bd (hh.le hA).2 (hm.le hB).2) (by omega)
  obtain ⟨r1, r2, r3, r4, r5, r6, r7, r8⟩ := prod_steps_of hh hm hP hX1 hX2 hX3 hZ
  rw [r1] at g2; rw [r2] at g3; rw [r3] at g4; rw [r4] at g5
  have down : ∀ {Q : Int} {e : Nat}, (Q * 2 ^ DD).natAbs ≤ 2 ^ e * 2 ^ DD → Q.natAbs ≤ 2 ^ e := by
    intro Q e hq
    rw [abs_mul_DD] at hq
    exact Nat.le_of_mul_le_mul_right hq (Nat.two_pow_pos DD)
  have hPb : P.natAbs ≤ 2 ^ d := down (by rw [← hP]; exact bdP)
  have hX1b : X1.natAbs ≤ 2 ^ (d + 2) := down (by rw [← hX1]; exact bd (hh.le hA).1 (hm.le hB).1)
  have hX2b : X2.natAbs ≤ 2 ^ (d + 2) := down (by rw [← hX2]; exact bd (hh.le hA).2 (hm.le hB).1)
  have hX3b : X3.natAbs ≤ 2 ^ (d + 2) := down (by rw [← hX3]; exact bd (hh.le hA).1 (hm.le hB).2)
  have hZb : Z.natAbs ≤ 2 ^ (d + 2) := down (by rw [← hZ]; exact bd (hh.le hA).2 (hm.le hB).2)
  have hRb := rnI_le hPb
  have b1 := sub_le_pow (le_pow hRb (show d ≤ d + 2 by omega)) hX1b
  obtain ⟨y1, e6, g6⟩ := sub_val g1 g2 b1 (by omega)
  rw [r5] at g6
  have b2 := sub_le_pow b1 (le_pow hX2b (show d + 2 ≤ d + 2 + 1 by omega))
  obtain ⟨y2, e7, g7⟩ := sub_val g6 g3 b2 (by omega)
  rw [r6] at g7
  have b3 := sub_le_pow b2 (le_pow hX3b (show d + 2 ≤ d + 2 + 1 + 1 by omega))
  obtain ⟨y3, e8, g8⟩ := sub_val g7 g4 b3 (by omega)
  rw [r7] at g8
  have b4 := sub_le_pow (le_pow hZb (show d + 2 ≤ d + 2 + 1 + 1 + 1 by omega)) b3
  obtain ⟨e, e9, g9⟩ := sub_val g5 g8 b4 (by omega)
  rw [r8] at g9
  refine ⟨p, e, P, ⟨lt64 e1, lt64 e9⟩, hP, g1, g9, hRb, sub_le_pow hPb hRb, ?_⟩
  rintro p' e' ⟨h', l', m', n', x1', x2', x3', y1', y2', y3', z', q1, q2, q3, q4, q5, q6, q7, q8, q9, q10, q11⟩
  obtain rfl := q1 _ e1
  obtain ⟨rfl, rfl⟩ := det1 _ _ q2
  obtain ⟨rfl, rfl⟩ := det2 _ _ q3
  obtain rfl := q4 _ e2
  obtain rfl := q5 _ e3
  obtain rfl := q6 _ e4
  obtain rfl := q7 _ e6
  obtain rfl := q8 _ e7
  obtain rfl := q9 _ e8
  obtain rfl := q10 _ e5
  exact ⟨rfl, q11 _ e9⟩

end EftPure
