/- Dyadic numbers z * 2^e and their one form: plain arithmetic. -/
import Derived.Test.YtplkmbdoecepeaaLimb
namespace Limb
def sgn (b : Bool) (n : Nat) : Int := if b then -(n : Int) else n
def cneg (z : Int) : Bool := decide (z < 0)
def cman (z : Int) : Nat := z.natAbs / 2 ^ tz z.natAbs
def cexp (z e : Int) : Int := if z = 0 then 0 else e + tz z.natAbs
theorem sgn_abs (b : Bool) (n : Nat) : (sgn b n).natAbs = n := by unfold sgn; split <;> omega
theorem sgn_zero (b : Bool) : sgn b 0 = 0 := by cases b <;> rfl
theorem sgn_eq_zero {b : Bool} {n : Nat} : sgn b n = 0 ↔ n = 0 := by unfold sgn; split <;> omega
theorem sgn_self (z : Int) : sgn (cneg z) z.natAbs = z := by
  unfold sgn cneg
  by_cases h : z < 0
  · simp [h]; omega
  · simp [h]; omega
theorem cneg_sgn {b : Bool} {n : Nat} (h : n ≠ 0) : cneg (sgn b n) = b := by
  unfold cneg sgn
  cases b <;> simp <;> omega
theorem cman_sgn (b : Bool) (n : Nat) : cman (sgn b n) = n / 2 ^ tz n := by unfold cman; rw [sgn_abs]
theorem cexp_sgn {b : Bool} {n : Nat} (h : n ≠ 0) (e : Int) : cexp (sgn b n) e = e + tz n := by
  unfold cexp; rw [sgn_abs, if_neg (fun h2 => h (sgn_eq_zero.1 h2))]
theorem cneg_zero : cneg 0 = false := rfl
theorem cman_zero : cman 0 = 0 := by unfold cman; simp
theorem cexp_zero (e : Int) : cexp 0 e = 0 := rfl
theorem cman_eq_zero {z : Int} : cman z = 0 ↔ z = 0 := by
  constructor
  · intro h
    refine Classical.byContradiction fun h0 => ?_
    have h1 : z.natAbs ≠ 0 := by omega
    obtain ⟨h2, h3⟩ := tz_spec z.natAbs h1
    unfold cman at h
    rw [h] at h3
    omega
  · rintro rfl; exact cman_zero
theorem natAbs_mul_pow (z : Int) (k : Nat) : (z * 2 ^ k).natAbs = z.natAbs * 2 ^ k := by
  rw [Int.natAbs_mul]; congr 1
theorem mul_pow_ne {z : Int} (h : z ≠ 0) (k : Nat) : z * 2 ^ k ≠ 0 := by
  intro h2
  have := natAbs_mul_pow z k
  rw [h2] at this
  have h3 := Nat.two_pow_pos k
  have h4 : z.natAbs * 2 ^ k ≠ 0 := Nat.mul_ne_zero (by omega) (by omega)
  simp at this
  omega
theorem cneg_mul (z : Int) (k : Nat) : cneg (z * 2 ^ k) = cneg z := by
  unfold cneg
  have h3 : (0 : Int) < 2 ^ k := Int.pow_pos (by decide)
  congr 1
  rw [eq_iff_iff]
  constructor
  · intro h
    refine Classical.byContradiction fun hc => ?_
    have := Int.mul_nonneg (show (0 : Int) ≤ z by omega) (Int.le_of_lt h3)
    omega
  · intro h; exact Int.mul_neg_of_neg_of_pos h h3
theorem cman_mul (z : Int) (k : Nat) : cman (z * 2 ^ k) = cman z := by
  by_cases h : z = 0
  · subst h; simp
  · unfold cman
    rw [natAbs_mul_pow]
    exact (tz_mul_pow (by omega) k).2
theorem cexp_mul (z e : Int) (k : Nat) : cexp (z * 2 ^ k) e = cexp z (e + k) := by
  by_cases h : z = 0
  · subst h; simp [cexp_zero]
  · unfold cexp
    rw [if_neg (mul_pow_ne h k), if_neg h, natAbs_mul_pow, (tz_mul_pow (by omega) k).1]
    omega
/-- The one form says what the number is. -/
theorem of_form {z e : Int} (h : z ≠ 0) : ∃ k : Nat, cexp z e = e + k ∧ z = sgn (cneg z) (cman z * 2 ^ k) ∧ k = tz z.natAbs := by
  refine ⟨tz z.natAbs, ?_, ?_, rfl⟩
  · unfold cexp; rw [if_neg h]
  · unfold cman
    rw [← (tz_spec z.natAbs (by omega)).1, sgn_self]
theorem form_inj {z y e : Int} (h1 : cneg z = cneg y) (h2 : cman z = cman y) (h3 : cexp z e = cexp y e) : z = y := by
  by_cases hz : z = 0
  · subst hz
    rw [cman_zero] at h2
    exact (cman_eq_zero.1 h2.symm).symm
  · have hy : y ≠ 0 := fun h => hz (cman_eq_zero.1 (by rw [h2, h, cman_zero]))
    obtain ⟨k, e1, e2, _⟩ := of_form (e := e) hz
    obtain ⟨k', e1', e2', _⟩ := of_form (e := e) hy
    have : k = k' := by omega
    rw [e2, e2', h1, h2, this]
theorem sgn_mul (b c : Bool) (m n : Nat) : sgn (b != c) (m * n) = sgn b m * sgn c n := by
  cases b <;> cases c <;> simp [sgn, Int.neg_mul, Int.mul_neg]
theorem sgn_pow (b : Bool) (m k : Nat) : sgn b (m * 2 ^ k) = sgn b m * 2 ^ k := by
  cases b <;> simp [sgn, Int.neg_mul]
theorem sgn_add (b : Bool) (m n : Nat) : sgn b (m + n) = sgn b m + sgn b n := by
  cases b <;> simp [sgn]; omega
theorem sgn_sub {b c : Bool} (h : b ≠ c) {m n : Nat} (hmn : n ≤ m) : sgn b (m - n) = sgn b m + sgn c n := by
  cases b <;> cases c <;> simp [sgn] at * <;> omega
/-- A number from its form, at any unit no greater. -/
theorem form_at {z e u : Int} (h : u ≤ cexp z e) (h0 : z ≠ 0) (k : Nat) (hk : e = u + k) : sgn (cneg z) (cman z * 2 ^ (cexp z e - u).toNat) = z * 2 ^ k := by
  obtain ⟨j, e1, e2, _⟩ := of_form (e := e) h0
  have : (cexp z e - u).toNat = j + k := by omega
  rw [this, Nat.pow_add, ← Nat.mul_assoc, sgn_pow, ← e2]
/-- Two numbers at the lesser of their forms' units. -/
theorem plus_form {y z e E : Int} {ky kz : Nat} (hy : y ≠ 0) (hz : z ≠ 0) (h1 : cexp y e - E = ky) (h2 : cexp z e - E = kz) (hk : ky = 0 ∨ kz = 0) :
    ∃ j : Nat, E = e + j ∧ y = sgn (cneg y) (cman y * 2 ^ ky) * 2 ^ j ∧ z = sgn (cneg z) (cman z * 2 ^ kz) * 2 ^ j := by
  obtain ⟨a, a1, a2, _⟩ := of_form (e := e) hy
  obtain ⟨b, b1, b2, _⟩ := of_form (e := e) hz
  have hj : ∃ j : Nat, E = e + j := by
    rcases hk with h | h
    · exact ⟨a, by omega⟩
    · exact ⟨b, by omega⟩
  obtain ⟨j, hj⟩ := hj
  have e1 : a = ky + j := by omega
  have e2 : b = kz + j := by omega
  refine ⟨j, hj, ?_, ?_⟩
  · rw [← sgn_pow, Nat.mul_assoc, ← Nat.pow_add, ← e1]; exact a2
  · rw [← sgn_pow, Nat.mul_assoc, ← Nat.pow_add, ← e2]; exact b2
end Limb
