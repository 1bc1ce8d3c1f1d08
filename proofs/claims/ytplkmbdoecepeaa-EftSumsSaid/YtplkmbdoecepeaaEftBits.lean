/- Binary64 words and the whole numbers that they stand for, in units of 2^-1074. -/
import Ieee.Arith
import Derived.Laws.FloatArith
import Derived.Test.YtplkmbdoecepeaaEftRound
namespace EftPure
open Ieee

/-- The word x is finite and stands for A units. -/
def IsF (x : Nat) (A : Int) : Prop := ∃ s m k, double.read x = .number s m ((k : Nat) - 1074 : Int) ∧ A = signed s m k ∧ m < 2 ^ 53

theorem signed_eq (s : Bool) (m k : Nat) : signed s m k = if s then -((m * 2 ^ k : Nat) : Int) else ((m * 2 ^ k : Nat) : Int) := by
  unfold signed; rw [Nat.shiftLeft_eq]

theorem IsF.rep {x : Nat} {A : Int} (h : IsF x A) : Rep A := by
  obtain ⟨s, m, k, _, rfl, hm⟩ := h
  rw [signed_eq]
  split
  · exact ⟨-m, k, by simp [Int.neg_mul], by simp; omega⟩
  · exact ⟨m, k, by simp, by simp; omega⟩

theorem IsF.fun_ {x : Nat} {A B : Int} (h : IsF x A) (h' : IsF x B) : A = B := by
  obtain ⟨s, m, k, e, rfl, _⟩ := h
  obtain ⟨s', m', k', e', rfl, _⟩ := h'
  rw [e] at e'
  injection e' with a b c
  obtain rfl : k = k' := by omega
  subst a b; rfl

theorem lp : double.leastPlace = -1074 := by decide
theorem bn : double.binade = 2 ^ 52 := by decide
theorem ir : double.infRung = 2047 * 2 ^ 52 := by decide
theorem sw : double.signWeight = 2 ^ 63 := by decide

theorem read_word (neg : Bool) (rung : Nat) (h : rung < 2047 * 2 ^ 52) :
    ∃ m k, double.read (double.word neg rung) = .number neg m ((k : Nat) - 1074 : Int) ∧ m < 2 ^ 53 ∧ ((rung < 2 ^ 52 ∧ m = rung ∧ k = 0) ∨ (2 ^ 52 ≤ rung ∧ m = 2 ^ 52 + rung % 2 ^ 52 ∧ k = rung / 2 ^ 52 - 1)) := by
  have hsw := sw
  have e1 : double.word neg rung % double.signWeight = rung := by
    unfold Format.word; rw [hsw]; split <;> omega
  have e2 : (double.word neg rung / double.signWeight % 2 == 1) = neg := by
    unfold Format.word; rw [hsw]
    cases neg
    · simp; omega
    · simp; omega
  unfold Format.read
  simp only [e1, e2, lp, bn, ir]
  by_cases h1 : rung < 2 ^ 52
  · refine ⟨rung, 0, ?_, by omega, .inl ⟨h1, rfl, rfl⟩⟩
    rw [if_pos h1]; rfl
  · refine ⟨2 ^ 52 + rung % 2 ^ 52, rung / 2 ^ 52 - 1, ?_, by omega, .inr ⟨by omega, rfl, rfl⟩⟩
    rw [if_neg h1, if_pos h]
    congr 1

/-- One more, when a number is cut? -/
def oneMore (q r u : Nat) : Nat := if u < 2 * r ∨ u = 2 * r ∧ q % 2 = 1 then 1 else 0

theorem oneMore_case (q r u : Nat) : (oneMore q r u = 0 ∧ 2 * r ≤ u) ∨ (oneMore q r u = 1 ∧ u ≤ 2 * r) := by
  unfold oneMore
  split <;> omega

theorem oneMore_scale (q r u c : Nat) (hc : 0 < c) : oneMore q (r * c) (u * c) = oneMore q r u := by
  unfold oneMore
  have e1 : u * c < 2 * (r * c) ↔ u < 2 * r := by rw [← Nat.mul_assoc]; exact Nat.mul_lt_mul_right hc
  have e2 : u * c = 2 * (r * c) ↔ u = 2 * r := by rw [← Nat.mul_assoc]; exact Nat.mul_left_inj (by omega)
  simp only [e1, e2]

/-- Cutting to a whole number: the nearest. -/
theorem cut_near (neg : Bool) (n d : Nat) (hd : d ≤ n.log2 + 2) : Toward.even.cut neg n d = n / 2 ^ d + oneMore (n / 2 ^ d) (n % 2 ^ d) (2 ^ d) := by
  unfold Toward.cut oneMore
  rw [Nat.min_eq_left hd, Nat.shiftLeft_eq, Nat.one_mul]
  dsimp only
  congr 1
  by_cases h1 : 2 ^ d < 2 * (n % 2 ^ d)
  · simp [h1]
  · by_cases h2 : 2 ^ d = 2 * (n % 2 ^ d)
    · by_cases h3 : n / 2 ^ d % 2 = 1
      · rw [if_pos (.inr ⟨h2, h3⟩), ← h2]; simp [h3]
      · rw [if_neg (by omega), ← h2]; simp [h3]
    · rw [if_neg (by omega)]; simp [h1, h2]

/-- Whole numbers rounded to 53 bits, to the nearest, of two the even one. -/
def rnN (n : Nat) : Nat := (n / 2 ^ (n.log2 - 52) + oneMore (n / 2 ^ (n.log2 - 52)) (n % 2 ^ (n.log2 - 52)) (2 ^ (n.log2 - 52))) * 2 ^ (n.log2 - 52)
def rnI (n : Int) : Int := if n < 0 then -((rnN n.natAbs : Nat) : Int) else ((rnN n.natAbs : Nat) : Int)

theorem rnN_zero : rnN 0 = 0 := by decide
theorem rnI_zero : rnI 0 = 0 := by decide

theorem log2_mul_pow (m k : Nat) (h : m ≠ 0) : (m * 2 ^ k).log2 = m.log2 + k := by
  have h1 := Nat.log2_self_le h
  have h2 := Nat.lt_log2_self (n := m)
  have hm : m * 2 ^ k ≠ 0 := by
    have := Nat.two_pow_pos k
    exact Nat.mul_ne_zero h (by omega)
  refine (Nat.log2_eq_iff hm).2 ⟨?_, ?_⟩
  · rw [Nat.pow_add]; exact Nat.mul_le_mul_right _ h1
  · rw [show m.log2 + k + 1 = m.log2 + 1 + k by omega, Nat.pow_add]; exact Nat.mul_lt_mul_of_pos_right h2 (Nat.two_pow_pos k)

theorem isRN_rnN (n : Nat) : IsRN (n : Int) ((rnN n : Nat) : Int) := by
  by_cases h0 : n = 0
  · subst h0; rw [rnN_zero]; exact isRN_self rep_zero
  have hlo := Nat.log2_self_le h0
  have hhi := Nat.lt_log2_self (n := n)
  unfold rnN
  generalize n.log2 = L at *
  obtain ⟨k, hk⟩ : ∃ k, k = L - 52 := ⟨_, rfl⟩
  rw [← hk]
  have hp : 0 < 2 ^ k := Nat.two_pow_pos k
  have hdm := Nat.div_add_mod n (2 ^ k)
  have hml := Nat.mod_lt n hp
  have hhigh : n / 2 ^ k < 2 ^ 53 := (Nat.div_lt_iff_lt_mul hp).2 (by
    rw [← Nat.pow_add]; exact Nat.lt_of_lt_of_le hhi (Nat.pow_le_pow_right (by decide) (by omega)))
  by_cases hk0 : k = 0
  · subst k
    rw [hk0]
    have e : n / 2 ^ 0 + oneMore (n / 2 ^ 0) (n % 2 ^ 0) (2 ^ 0) = n := by
      simp [oneMore, Nat.mod_one]
    rw [e, Nat.pow_zero, Nat.mul_one]
    rw [hk0] at hhigh
    exact isRN_self (rep_small (by simp at hhigh ⊢; omega))
  have hlow : 2 ^ 52 ≤ n / 2 ^ k := (Nat.le_div_iff_mul_le hp).2 (by
    rw [← Nat.pow_add]; exact Nat.le_trans (Nat.pow_le_pow_right (by decide) (by omega)) hlo)
  have hcase := oneMore_case (n / 2 ^ k) (n % 2 ^ k) (2 ^ k)
  generalize oneMore (n / 2 ^ k) (n % 2 ^ k) (2 ^ k) = w at *
  generalize hq : n / 2 ^ k = q at *
  generalize hr : n % 2 ^ k = u at *
  refine ⟨⟨((q + w : Nat) : Int), k, by simp, by simp only [Int.natAbs_natCast]; omega⟩, ?_⟩
  intro x hx
  obtain ⟨e, hex, hxb⟩ := hx.dvd
  have hN : n = q * 2 ^ k + u := by rw [← hdm, Nat.mul_comm]
  have hR : (q + w) * 2 ^ k = q * 2 ^ k + w * 2 ^ k := Nat.add_mul ..
  have hw : w * 2 ^ k = 0 ∧ 2 * u ≤ 2 ^ k ∨ w * 2 ^ k = 2 ^ k ∧ 2 ^ k ≤ 2 * u := by
    rcases hcase with ⟨h1, h2⟩ | ⟨h1, h2⟩
    · left; rw [h1]; exact ⟨Nat.zero_mul _, h2⟩
    · right; rw [h1]; exact ⟨Nat.one_mul _, h2⟩
  rw [hR]
  generalize w * 2 ^ k = wk at *
  have hq2 : 2 ^ 52 * 2 ^ k ≤ q * 2 ^ k := Nat.mul_le_mul_right _ hlow
  by_cases hek : k ≤ e
  · obtain ⟨z, hz⟩ := dvd_wk hek hex
    have hcz : (2 : Int) ^ k * z = z * ((2 ^ k : Nat) : Int) := by simp [Int.mul_comm]
    have h6 : ((q * 2 ^ k : Nat) : Int) = (q : Int) * ((2 ^ k : Nat) : Int) := by simp
    by_cases hzq : z ≤ q
    · have h5 : z * ((2 ^ k : Nat) : Int) ≤ q * ((2 ^ k : Nat) : Int) := Int.mul_le_mul_of_nonneg_right hzq (by omega)
      omega
    · have h5 : ((q : Int) + 1) * ((2 ^ k : Nat) : Int) ≤ z * ((2 ^ k : Nat) : Int) := Int.mul_le_mul_of_nonneg_right (by omega) (by omega)
      rw [Int.add_mul, Int.one_mul] at h5
      omega
  · have h7 : 2 ^ (e + 1) ≤ 2 ^ k := pow_mono_nat (by omega)
    rw [Nat.pow_succ] at h7
    omega

theorem isRN_rnI (n : Int) : IsRN n (rnI n) := by
  unfold rnI
  split
  · have := (isRN_rnN n.natAbs).neg
    rwa [show -((n.natAbs : Nat) : Int) = n by omega] at this
  · have := isRN_rnN n.natAbs
    rwa [show ((n.natAbs : Nat) : Int) = n by omega] at this

theorem rnI_neg (n : Int) : rnI (-n) = -rnI n := by
  by_cases h0 : n = 0
  · subst h0; rfl
  unfold rnI
  rw [Int.natAbs_neg]
  by_cases h : n < 0
  · rw [if_pos h, if_neg (by omega), Int.neg_neg]
  · rw [if_neg h, if_pos (by omega)]

theorem mul_pow_ge {a A k T : Nat} (h : 2 ^ A ≤ a) (hT : T ≤ A + k) : 2 ^ T ≤ a * 2 ^ k :=
  Nat.le_trans (Nat.pow_le_pow_right (by decide) hT) (by rw [Nat.pow_add]; exact Nat.mul_le_mul_right _ h)

theorem near_num (neg : Bool) (mag kk : Nat) {T : Nat} (hT : T = 2098) : rnN (mag * 2 ^ kk) < 2 ^ T → ∃ m k, double.read (double.nearest neg mag ((kk : Int) - 1074)) = .number neg m ((k : Nat) - 1074 : Int) ∧ m * 2 ^ k = rnN (mag * 2 ^ kk) ∧ m < 2 ^ 53 := by
  by_cases h0 : mag = 0
  · subst h0
    intro _
    · rw [Nat.zero_mul, rnN_zero]
      obtain ⟨m, k, h1, h2, h3⟩ := read_word neg 0 (by decide)
      refine ⟨m, k, ?_, ?_, h2⟩
      · unfold Format.nearest; rw [if_pos rfl]; exact h1
      · rcases h3 with ⟨_, rfl, _⟩ | ⟨h, _⟩
        · simp
        · simp at h
  have hlog := log2_mul_pow mag kk h0
  have hrn : rnN (mag * 2 ^ kk) = (mag * 2 ^ kk / 2 ^ (mag.log2 + kk - 52) + oneMore (mag * 2 ^ kk / 2 ^ (mag.log2 + kk - 52)) (mag * 2 ^ kk % 2 ^ (mag.log2 + kk - 52)) (2 ^ (mag.log2 + kk - 52))) * 2 ^ (mag.log2 + kk - 52) := by
    unfold rnN; rw [hlog]
  have hlo := Nat.log2_self_le h0
  have hhi := Nat.lt_log2_self (n := mag)
  generalize hL : mag.log2 = L at *
  -- the place of the last digit
  obtain ⟨k, hk⟩ : ∃ k : Nat, k = kk + L - 52 := ⟨_, rfl⟩
  have hlast : max ((kk : Int) - 1074 + (L : Int) - 52) (-1074) = (k : Int) - 1074 := by omega
  have a1 : ((kk : Int) - 1074 - ((k : Int) - 1074)).toNat = kk - k := by omega
  have a2 : ((k : Int) - 1074 - ((kk : Int) - 1074)).toNat = k - kk := by omega
  have a3 : ((k : Int) - 1074 - -1074).toNat = k := by omega
  have hnear : ∀ kept, Toward.even.cut neg (mag <<< (kk - k)) (k - kk) = kept → double.nearest neg mag ((kk : Int) - 1074) = double.word neg (min (k * 2 ^ 52 + kept) (2047 * 2 ^ 52)) := by
    intro kept hkept
    unfold Format.nearest
    rw [if_neg h0]
    have hf : (double.fractionBits : Int) = 52 := rfl
    simp only [lp, bn, ir, hL, hf, hlast, a1, a2, a3, hkept]
  -- the common end
  have fin : ∀ kept, Toward.even.cut neg (mag <<< (kk - k)) (k - kk) = kept → kept ≤ 2 ^ 53 → (0 < k → 2 ^ 52 ≤ kept) → kept * 2 ^ k < 2 ^ T → ∃ m k', double.read (double.nearest neg mag ((kk : Int) - 1074)) = .number neg m ((k' : Nat) - 1074 : Int) ∧ m * 2 ^ k' = kept * 2 ^ k ∧ m < 2 ^ 53 := by
    intro kept hkept hk53 hk52 hlt
    have hk46 : k * 2 ^ 52 + kept < 2047 * 2 ^ 52 := by
      rcases Nat.eq_zero_or_pos k with hz | hz
      · subst hz
        omega
      · have := hk52 hz
        have hk2 : k < 2046 := by
          refine Classical.byContradiction fun hc => ?_
          have h5 := mul_pow_ge (T := T) this (show T ≤ 52 + k by omega)
          exact Nat.lt_irrefl _ (Nat.lt_of_le_of_lt h5 hlt)
        by_cases hke : kept = 2 ^ 53
        · subst hke
          have hk3 : k < 2045 := by
            refine Classical.byContradiction fun hc => ?_
            have h5 := mul_pow_ge (T := T) (A := 53) (Nat.le_refl _) (show T ≤ 53 + k by omega)
            exact Nat.lt_irrefl _ (Nat.lt_of_le_of_lt h5 hlt)
          omega
        · omega
    rw [hnear kept hkept, Nat.min_eq_left (by omega)]
    obtain ⟨m, k', h1, h2, h3⟩ := read_word neg (k * 2 ^ 52 + kept) hk46
    refine ⟨m, k', h1, ?_, h2⟩
    rcases h3 with ⟨hlow, rfl, rfl⟩ | ⟨hhigh, rfl, rfl⟩
    · obtain rfl : k = 0 := by
        rcases Nat.eq_zero_or_pos k with hz | hz
        · exact hz
        · omega
      simp
    · by_cases hz : k = 0
      · subst hz
        by_cases h53 : kept = 2 ^ 53
        · subst h53; simp
        · have e1 : (0 * 2 ^ 52 + kept) / 2 ^ 52 - 1 = 0 := by omega
          have e2 : 2 ^ 52 + (0 * 2 ^ 52 + kept) % 2 ^ 52 = kept := by omega
          rw [e1, e2]
      · have := hk52 (by omega)
        by_cases h53 : kept = 2 ^ 53
        · subst h53
          have e1 : (k * 2 ^ 52 + 2 ^ 53) / 2 ^ 52 - 1 = k + 1 := by omega
          have e2 : 2 ^ 52 + (k * 2 ^ 52 + 2 ^ 53) % 2 ^ 52 = 2 ^ 52 := by omega
          rw [e1, e2, Nat.pow_succ]; omega
        · have e1 : (k * 2 ^ 52 + kept) / 2 ^ 52 - 1 = k := by omega
          have e2 : 2 ^ 52 + (k * 2 ^ 52 + kept) % 2 ^ 52 = kept := by omega
          rw [e1, e2]
  by_cases hkk : k ≤ kk
  · -- nothing is dropped
    have e0 : k - kk = 0 := by omega
    have hc : Toward.even.cut neg (mag <<< (kk - k)) (k - kk) = mag * 2 ^ (kk - k) := by
      rw [e0, Nat.shiftLeft_eq]
      unfold Toward.cut
      simp [Nat.mod_one]
    have hup : mag * 2 ^ (kk - k) < 2 ^ 53 := by
      have h1 : mag * 2 ^ (kk - k) < 2 ^ (L + 1) * 2 ^ (kk - k) := Nat.mul_lt_mul_of_pos_right hhi (Nat.two_pow_pos _)
      rw [← Nat.pow_add] at h1
      exact Nat.lt_of_lt_of_le h1 (Nat.pow_le_pow_right (by decide) (by omega))
    have hdn : 0 < k → 2 ^ 52 ≤ mag * 2 ^ (kk - k) := by
      intro hk0
      have h1 : 2 ^ L * 2 ^ (kk - k) ≤ mag * 2 ^ (kk - k) := Nat.mul_le_mul_right _ hlo
      rw [← Nat.pow_add] at h1
      exact Nat.le_trans (Nat.pow_le_pow_right (by decide) (by omega)) h1
    have hN : mag * 2 ^ (kk - k) * 2 ^ k = mag * 2 ^ kk := by
      rw [Nat.mul_assoc, ← Nat.pow_add]; congr 2; omega
    have hRN : rnN (mag * 2 ^ kk) = mag * 2 ^ kk := by
      rw [hrn, show L + kk - 52 = k by omega, ← hN, Nat.mul_div_cancel _ (Nat.two_pow_pos k), Nat.mul_mod_left]
      simp [oneMore]
    intro hlt
    rw [hRN] at hlt ⊢
    rw [← hN] at hlt ⊢
    exact fin _ hc (by omega) hdn hlt
  · -- digits are dropped
    have e0 : kk - k = 0 := by omega
    have hk52 : k = kk + (L - 52) := by omega
    have hd : k - kk = L - 52 := by omega
    obtain ⟨d, hdd⟩ : ∃ d, d = L - 52 := ⟨_, rfl⟩
    have hLd : L = d + 52 := by omega
    rw [← hdd] at hd hk52
    have hkept := cut_near neg mag d (by rw [hL]; omega)
    have hp : 0 < 2 ^ d := Nat.two_pow_pos d
    have hlow : 2 ^ 52 ≤ mag / 2 ^ d := (Nat.le_div_iff_mul_le hp).2 (by rw [← Nat.pow_add]; rw [hLd, Nat.add_comm] at hlo; exact hlo)
    have hhigh : mag / 2 ^ d < 2 ^ 53 := (Nat.div_lt_iff_lt_mul hp).2 (by rw [← Nat.pow_add]; rw [hLd] at hhi; rw [show 53 + d = d + 52 + 1 by omega]; exact hhi)
    have hpk : 0 < 2 ^ kk := Nat.two_pow_pos kk
    have hkp : (2 : Nat) ^ k = 2 ^ d * 2 ^ kk := by rw [← Nat.pow_add]; congr 1; omega
    have hone := oneMore_case (mag / 2 ^ d) (mag % 2 ^ d) (2 ^ d)
    have hRN : rnN (mag * 2 ^ kk) = (mag / 2 ^ d + oneMore (mag / 2 ^ d) (mag % 2 ^ d) (2 ^ d)) * 2 ^ k := by
      rw [hrn, show L + kk - 52 = k by omega, hkp, Nat.mul_div_mul_right _ _ hpk, Nat.mul_mod_mul_right, oneMore_scale _ _ _ _ hpk]
    have hc : Toward.even.cut neg (mag <<< (kk - k)) (k - kk) = mag / 2 ^ d + oneMore (mag / 2 ^ d) (mag % 2 ^ d) (2 ^ d) := by rw [e0, hd]; simpa using hkept
    intro hlt
    rw [hRN] at hlt ⊢
    exact fin _ hc (by omega) (fun _ => by omega) hlt

/-- What lies between numbers of 53 bits is rounded between them. -/
theorem IsRN.bound {n r : Int} {b : Nat} (h : IsRN n r) (hn : n.natAbs ≤ 2 ^ b) : r.natAbs ≤ 2 ^ b := by
  have hp : Rep (2 ^ b) := ⟨1, b, by simp, by decide⟩
  have c := cast_pow b
  by_cases h0 : 0 ≤ r
  · have := h.near _ hp; omega
  · have := h.near _ hp.neg; omega

def TT : Nat := 2098
theorem TT_eq : TT = 2098 := rfl
def DD : Nat := 1074
theorem DD_eq : DD = 1074 := rfl
def UU : Nat := 622
theorem UU_eq : UU = 622 := rfl

theorem signed_abs (s : Bool) (m k : Nat) : (signed s m k).natAbs = m * 2 ^ k := by
  rw [signed_eq]
  split
  · rw [Int.natAbs_neg, Int.natAbs_natCast]
  · rw [Int.natAbs_natCast]

theorem signed_split (s : Bool) (m k l : Nat) (h : l ≤ k) : signed s m k = signed s m (k - l) * 2 ^ l := by
  have e : m * 2 ^ k = m * 2 ^ (k - l) * 2 ^ l := by rw [Nat.mul_assoc, ← Nat.pow_add]; congr 2; omega
  rw [signed_eq, signed_eq, e]
  split <;> simp [Int.neg_mul]

theorem lt_TT {R : Nat} {b : Nat} (h : R ≤ 2 ^ b) (hb : b < TT) : R < 2 ^ TT := Nat.lt_of_le_of_lt h (Nat.pow_lt_pow_right (by decide) hb)

/-- The word of a whole number of units of a place. -/
theorem write_val0 (neg : Bool) (t : Int) (kk : Nat) (hneg : t ≠ 0 → neg = decide (t < 0)) (hlt : rnN (t * 2 ^ kk).natAbs < 2 ^ TT) :
    IsF (double.write (.number neg t.natAbs ((kk : Int) - 1074))) (rnI (t * 2 ^ kk)) := by
  have hcast : (2 : Int) ^ kk = ((2 ^ kk : Nat) : Int) := (cast_pow kk).symm
  have hN : (t * 2 ^ kk).natAbs = t.natAbs * 2 ^ kk := by rw [hcast, Int.natAbs_mul, Int.natAbs_natCast]
  obtain ⟨m, k, h1, h2, h3⟩ := near_num neg t.natAbs kk TT_eq (by rw [← hN]; exact hlt)
  refine ⟨neg, m, k, h1, ?_, h3⟩
  rw [signed_eq, h2]
  unfold rnI
  rw [hN]
  by_cases h0 : t = 0
  · subst h0
    simp [rnN_zero]
  · rw [hneg h0]
    have hp := pow_pos kk
    by_cases hlt : t < 0
    · have : t * 2 ^ kk < 0 := Int.mul_neg_of_neg_of_pos hlt hp
      simp [hlt, this]
    · have : ¬ t * 2 ^ kk < 0 := by have := Int.mul_nonneg (show 0 ≤ t by omega) (Int.le_of_lt hp); omega
      simp [hlt, this]

theorem rnN_lt {n : Nat} {b : Nat} (hb : n ≤ 2 ^ b) (hbT : b < TT) : rnN n < 2 ^ TT := by
  have := (isRN_rnN n).bound (b := b) (by rw [Int.natAbs_natCast]; exact hb)
  rw [Int.natAbs_natCast] at this
  exact lt_TT this hbT

theorem write_val (neg : Bool) (t : Int) (kk b : Nat) (hneg : t ≠ 0 → neg = decide (t < 0)) (hb : (t * 2 ^ kk).natAbs ≤ 2 ^ b) (hbT : b < TT) :
    IsF (double.write (.number neg t.natAbs ((kk : Int) - 1074))) (rnI (t * 2 ^ kk)) := write_val0 neg t kk hneg (rnN_lt hb hbT)

theorem sum_val0 {x : Nat} {dy : Datum} {A B : Int} (hx : IsF x A) (hy : ∃ s m k, dy = .number s m ((k : Nat) - 1074 : Int) ∧ B = signed s m k) (hlt : rnN (A + B).natAbs < 2 ^ TT) :
    ∃ r, ((double.read x).sum dy).map double.write = some r ∧ IsF r (rnI (A + B)) := by
  obtain ⟨s, m, k, e, hA, _⟩ := hx
  obtain ⟨t, n, l, rfl, hB⟩ := hy
  rw [e]
  obtain ⟨kk, hkk⟩ : ∃ kk, kk = min k l := ⟨_, rfl⟩
  have hbase : min ((k : Int) - 1074) ((l : Int) - 1074) = (kk : Int) - 1074 := by omega
  have a1 : ((k : Int) - 1074 - ((kk : Int) - 1074)).toNat = k - kk := by omega
  have a2 : ((l : Int) - 1074 - ((kk : Int) - 1074)).toNat = l - kk := by omega
  have hsum : A + B = (signed s m (k - kk) + signed t n (l - kk)) * 2 ^ kk := by
    rw [hA, hB, signed_split s m k kk (by omega), signed_split t n l kk (by omega), Int.add_mul]
  simp only [Datum.sum, hbase, a1, a2, Option.map_some]
  generalize signed s m (k - kk) + signed t n (l - kk) = tot at *
  rw [hsum] at hlt ⊢
  exact ⟨_, rfl, write_val0 (if tot = 0 then s && t else decide (tot < 0)) tot kk (fun h => by rw [if_neg h]) hlt⟩

theorem sum_val {x : Nat} {dy : Datum} {A B : Int} (hx : IsF x A) (hy : ∃ s m k, dy = .number s m ((k : Nat) - 1074 : Int) ∧ B = signed s m k) {b : Nat} (hb : (A + B).natAbs ≤ 2 ^ b) (hbT : b < TT) :
    ∃ r, ((double.read x).sum dy).map double.write = some r ∧ IsF r (rnI (A + B)) := sum_val0 hx hy (rnN_lt hb hbT)

theorem add_val {x y : Nat} {A B : Int} (hx : IsF x A) (hy : IsF y B) {b : Nat} (hb : (A + B).natAbs ≤ 2 ^ b) (hbT : b < TT) :
    ∃ r, Go.floatBits .add .f64 x y = some r ∧ IsF r (rnI (A + B)) := by
  obtain ⟨t, n, l, e, hB, _⟩ := hy
  exact sum_val (dy := double.read y) hx ⟨t, n, l, e, hB⟩ hb hbT

theorem sub_val {x y : Nat} {A B : Int} (hx : IsF x A) (hy : IsF y B) {b : Nat} (hb : (A - B).natAbs ≤ 2 ^ b) (hbT : b < TT) :
    ∃ r, Go.floatBits .sub .f64 x y = some r ∧ IsF r (rnI (A - B)) := by
  obtain ⟨t, n, l, e, hB, _⟩ := hy
  have hB' : -B = signed (!t) n l := by rw [hB, signed_eq, signed_eq]; cases t <;> simp
  have := sum_val (dy := (double.read y).opposite) (B := -B) hx ⟨!t, n, l, by rw [e]; rfl, hB'⟩ (b := b) (by rwa [Int.sub_eq_add_neg] at hb) hbT
  rwa [Int.sub_eq_add_neg]

theorem place_of {m k : Nat} {A : Int} {s : Bool} (hA : A = signed s m k) (hm : m < 2 ^ 53) (h : 2 ^ UU ≤ A.natAbs) : 570 ≤ k := by
  have e : A.natAbs = m * 2 ^ k := by rw [hA, signed_abs]
  rw [e] at h
  have h2 : m * 2 ^ k < 2 ^ (53 + k) := by rw [Nat.pow_add]; exact Nat.mul_lt_mul_of_pos_right hm (Nat.two_pow_pos k)
  have h3 : UU < 53 + k := (Nat.pow_lt_pow_iff_right (by decide)).1 (Nat.lt_of_le_of_lt h h2)
  rw [UU_eq] at h3
  omega

theorem mul_val {x y : Nat} {A B : Int} (hx : IsF x A) (hy : IsF y B) (hA0 : A = 0 ∨ 2 ^ UU ≤ A.natAbs) (hB0 : B = 0 ∨ 2 ^ UU ≤ B.natAbs) {b : Nat} (hb : (A * B).natAbs ≤ 2 ^ b * 2 ^ DD) (hbT : b < TT) :
    ∃ r P, Go.floatBits .mul .f64 x y = some r ∧ A * B = P * 2 ^ DD ∧ IsF r (rnI P) := by
  obtain ⟨s, m, k, e, hA, hm⟩ := hx
  obtain ⟨t, n, l, e', hB, hn⟩ := hy
  have eA : A.natAbs = m * 2 ^ k := by rw [hA, signed_abs]
  have eB : B.natAbs = n * 2 ^ l := by rw [hB, signed_abs]
  show ∃ r P, ((double.read x).product (double.read y)).map double.write = some r ∧ _
  rw [e, e']
  simp only [Datum.product, Option.map_some]
  by_cases h0 : A = 0 ∨ B = 0
  · have hmn : m * n = 0 := by
      rcases h0 with h0 | h0
      · have : m = 0 := by
          rw [h0] at eA
          rcases Nat.mul_eq_zero.1 eA.symm with h | h
          · exact h
          · have := Nat.two_pow_pos k; omega
        rw [this, Nat.zero_mul]
      · have : n = 0 := by
          rw [h0] at eB
          rcases Nat.mul_eq_zero.1 eB.symm with h | h
          · exact h
          · have := Nat.two_pow_pos l; omega
        rw [this, Nat.mul_zero]
    have hAB : A * B = 0 := by rcases h0 with h | h <;> rw [h] <;> simp
    have h1 := write_val (s ^^ t) 0 0 0 (fun h => absurd rfl h) (by simp) (by rw [TT_eq]; omega)
    rw [Int.zero_mul] at h1
    refine ⟨_, 0, rfl, by rw [hAB]; simp, ?_⟩
    have : double.write (.number (s ^^ t) (m * n) ((k : Int) - 1074 + ((l : Int) - 1074))) = double.write (.number (s ^^ t) (Int.natAbs 0) (((0 : Nat) : Int) - 1074)) := by
      simp only [Format.write, Format.nearest, hmn, Int.natAbs_zero, if_true]
    rw [this]; exact h1
  · have hk := place_of hA hm (hA0.resolve_left fun h => h0 (.inl h))
    have hl := place_of hB hn (hB0.resolve_left fun h => h0 (.inr h))
    obtain ⟨kk, hkk⟩ : ∃ kk, k + l = kk + DD := ⟨k + l - DD, by rw [DD_eq]; omega⟩
    have hpl : (k : Int) - 1074 + ((l : Int) - 1074) = (kk : Int) - 1074 := by rw [DD_eq] at hkk; omega
    rw [hpl]
    obtain ⟨tot, htot⟩ : ∃ tot : Int, tot = signed (s ^^ t) (m * n) 0 := ⟨_, rfl⟩
    have habs : tot.natAbs = m * n := by rw [htot, signed_abs, Nat.pow_zero, Nat.mul_one]
    have hAB : A * B = tot * 2 ^ kk * 2 ^ DD := by
      have e2 : m * 2 ^ k * (n * 2 ^ l) = m * n * 2 ^ kk * 2 ^ DD := by
        rw [Nat.mul_assoc (m * n), ← Nat.pow_add, ← hkk, Nat.pow_add, Nat.mul_mul_mul_comm]
      have e3 : ((m * 2 ^ k : Nat) : Int) * ((n * 2 ^ l : Nat) : Int) = ((m * n * 2 ^ kk * 2 ^ DD : Nat) : Int) := by rw [← Int.natCast_mul, e2]
      have e4 : ((m * n * 2 ^ kk * 2 ^ DD : Nat) : Int) = ((m * n : Nat) : Int) * 2 ^ kk * 2 ^ DD := by simp
      rw [hA, hB, htot, signed_eq, signed_eq, signed_eq]
      cases s <;> cases t <;> simp only [Bool.false_eq_true, if_false, if_true, Bool.xor_false, Bool.xor_true, Bool.not_true, Bool.not_false, Nat.pow_zero, Nat.mul_one, Int.neg_mul, Int.mul_neg, Int.neg_neg, e3, e4]
    have hbb : (tot * 2 ^ kk).natAbs ≤ 2 ^ b := by
      have hcast : (2 : Int) ^ DD = ((2 ^ DD : Nat) : Int) := (cast_pow DD).symm
      have hD := Nat.two_pow_pos DD
      rw [hAB, hcast, Int.natAbs_mul, Int.natAbs_natCast] at hb
      exact Nat.le_of_mul_le_mul_right hb hD
    have hneg : tot ≠ 0 → (s ^^ t) = decide (tot < 0) := by
      intro hne
      rw [htot, signed_eq] at hne ⊢
      generalize m * n * 2 ^ 0 = g at hne ⊢
      cases hst : (s ^^ t)
      · rw [if_neg (by decide)]
        exact (decide_eq_false (by omega)).symm
      · rw [hst, if_pos rfl] at hne
        rw [if_pos rfl]
        exact (decide_eq_true (by omega)).symm
    have h1 := write_val (s ^^ t) tot kk b hneg hbb hbT
    exact ⟨_, _, rfl, hAB, by rwa [habs] at h1⟩

/-- How two stand to each other. -/
theorem order_val {x y : Nat} {A B : Int} (hx : IsF x A) (hy : IsF y B) : double.order x y = some (compare A B) := by
  obtain ⟨s, m, k, e, hA, _⟩ := hx
  obtain ⟨t, n, l, e', hB, _⟩ := hy
  unfold Format.order
  rw [e, e']
  obtain ⟨kk, hkk⟩ : ∃ kk, kk = min k l := ⟨_, rfl⟩
  have hbase : min ((k : Int) - 1074) ((l : Int) - 1074) = (kk : Int) - 1074 := by omega
  have a1 : ((k : Int) - 1074 - ((kk : Int) - 1074)).toNat = k - kk := by omega
  have a2 : ((l : Int) - 1074 - ((kk : Int) - 1074)).toNat = l - kk := by omega
  simp only [Datum.order, hbase, a1, a2]
  have e1 := signed_split s m k kk (by omega)
  have e2 := signed_split t n l kk (by omega)
  rw [hA, hB, e1, e2]
  generalize signed s m (k - kk) = a
  generalize signed t n (l - kk) = b
  have hp := pow_pos kk
  congr 1
  rcases Int.lt_trichotomy a b with h | h | h
  · rw [Int.compare_eq_lt.2 h, Int.compare_eq_lt.2 (Int.mul_lt_mul_of_pos_right h hp)]
  · subst h; simp
  · rw [Int.compare_eq_gt.2 h, Int.compare_eq_gt.2 (Int.mul_lt_mul_of_pos_right h hp)]


/-- What is read as a number is one. -/
theorem isF_of_read {x : Nat} {s : Bool} {m : Nat} {e : Int} (h : double.read x = .number s m e) : ∃ A, IsF x A ∧ A.natAbs < 2 ^ TT := by
  unfold Format.read at h
  simp only [lp, bn, ir] at h
  have hsw := sw
  have key : ∀ k : Nat, k ≤ 2045 → m < 2 ^ 53 → e = (k : Int) - 1074 → ∃ A, IsF x A ∧ A.natAbs < 2 ^ TT := by
    intro k hk hm he
    refine ⟨signed s m k, ⟨s, m, k, by rw [← he]; unfold Format.read; simp only [lp, bn, ir]; exact h, rfl, hm⟩, ?_⟩
    rw [signed_abs]
    have h1 : m * 2 ^ k < 2 ^ 53 * 2 ^ k := Nat.mul_lt_mul_of_pos_right hm (Nat.two_pow_pos k)
    rw [← Nat.pow_add] at h1
    exact Nat.lt_of_lt_of_le h1 (Nat.pow_le_pow_right (by decide) (by rw [TT_eq]; omega))
  split at h
  · injection h with h1 h2 h3
    exact key 0 (by omega) (by omega) (by omega)
  · split at h
    · injection h with h1 h2 h3
      exact key (x % double.signWeight / 2 ^ 52 - 1) (by omega) (by omega) (by omega)
    · split at h <;> cases h

theorem isF_zero : IsF 0 0 := ⟨false, 0, 0, by decide, by decide, by decide⟩

end EftPure
