/- EftExact: what is said of the steps, without the program. -/
import Derived.Test.YtplkmbdoecepeaaEftPlain2
import Derived.Test.YtplkmbdoecepeaaDy
namespace EftPure
open Go Limb
set_option linter.unusedVariables false

theorem bits_small {z m : Int} {k : Nat} (h : z = m * 2 ^ k) (hm : m.natAbs ≤ 67108864) : bl (cman z) ≤ 26 := by
  subst h
  rw [cman_mul]
  by_cases h0 : m = 0
  · subst h0; rw [cman_zero]; decide
  · by_cases h1 : m.natAbs = 67108864
    · have : cman m = 1 := by
        unfold cman; rw [h1]
        have e : tz 67108864 = 26 ∧ 67108864 / 2 ^ tz 67108864 = 1 := tz_eq (n := 67108864) (k := 26) (m := 1) (by decide) (by decide)
        exact e.2
      rw [this]; decide
    · rw [bl_le_iff]
      have : cman m ≤ m.natAbs := Nat.div_le_self _ _
      have e : (2 : Nat) ^ 26 = 67108864 := by decide
      omega

/-- The two halves have 26 bits each. -/
theorem halves_bits {A H : Int} (h : HalvesOf A H) : bl (cman H) ≤ 26 ∧ bl (cman (A - H)) ≤ 26 := by
  rcases h with ⟨rfl, rfl⟩ | ⟨k, _, _, _, _, hh⟩
  · rw [Int.sub_self, cman_zero]; decide
  · have key : ∀ (Z : Int) (j : Nat), (2 : Int) ^ j ∣ Z → Z.natAbs ≤ 2 ^ 26 * 2 ^ j → bl (cman Z) ≤ 26 := by
      rintro Z j ⟨m, rfl⟩ hb
      refine bits_small (m := m) (k := j) (Int.mul_comm _ _) ?_
      have e : ((2 : Int) ^ j * m).natAbs = m.natAbs * 2 ^ j := by rw [Int.mul_comm, natAbs_mul_pow]
      rw [e] at hb
      exact Nat.le_of_mul_le_mul_right hb (Nat.two_pow_pos j)
    exact ⟨key H _ hh.up hh.hi, key _ _ hh.low hh.lo⟩

/-- All that the four steps give at moderate floats, and what it is worth. -/
theorem exact_mod {a b : Nat} (ha : modB a = true) (hb : modB b = true) : ∃ (s t u v h l p e : Nat) (A B S T U H P : Int),
    (∀ s' t', TSR a b s' t' → s' = s ∧ t' = t) ∧ (∀ s' t', FSR a b s' t' → s' = u ∧ t' = v) ∧ (∀ s' t', SPR a s' t' → s' = h ∧ t' = l) ∧ (∀ s' t', TPR a b s' t' → s' = p ∧ t' = e) ∧
    IsF a A ∧ IsF b B ∧ IsF s S ∧ IsF t (A + B - S) ∧ IsF u S ∧ IsF v U ∧ (A = 0 ∨ B.natAbs ≤ A.natAbs → U = A + B - S) ∧ IsF h H ∧ IsF l (A - H) ∧ bl (cman H) ≤ 26 ∧ bl (cman (A - H)) ≤ 26 ∧
    IsF p T ∧ IsF e (P - T) ∧ A * B = P * 2 ^ DD ∧
    (s < 18446744073709551616 ∧ t < 18446744073709551616) ∧ (u < 18446744073709551616 ∧ v < 18446744073709551616) ∧ (h < 18446744073709551616 ∧ l < 18446744073709551616) ∧ (p < 18446744073709551616 ∧ e < 18446744073709551616) ∧
    A.natAbs ≤ 2 ^ HI ∧ B.natAbs ≤ 2 ^ HI ∧ S.natAbs ≤ 2 ^ (HI + 1) := by
  obtain ⟨A, iA, fA, bA⟩ := modB_val ha
  obtain ⟨B, iB, fB, bB⟩ := modB_val hb
  obtain ⟨m1, m2, m3⟩ := mod_bounds
  obtain ⟨s, t, w1, f1, f2, _, d1⟩ := TSR.total2 iA iB bA bB (by omega)
  obtain ⟨u, v, U, w2, f3, f4, hU, d2⟩ := FSR.total2 iA iB bA bB (by omega)
  obtain ⟨h, l, H, w3, f5, f6, hh, d3⟩ := SPR.total2 iA fA bA m1
  obtain ⟨p, e, P, w4, hP, f7, f8, _, _, d4⟩ := TPR.total2 iA iB fA fB bA bB m1 m2 m3
  exact ⟨s, t, u, v, h, l, p, e, A, B, rnI (A + B), rnI P, U, H, P, d1, d2, d3, d4, iA, iB, f1, f2, f3, f4, hU, f5, f6, (halves_bits hh).1, (halves_bits hh).2, f7, f8, hP, w1, w2, w3, w4, bA, bB, rnI_le (add_le_pow bA bB)⟩
end EftPure
