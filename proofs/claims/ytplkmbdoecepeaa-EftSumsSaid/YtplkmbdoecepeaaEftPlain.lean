/- What the steps of sums and products come to, of floats that are neither too great nor too small. -/
import Derived.Test.YtplkmbdoecepeaaEftBits
namespace EftPure
open Go

/-- r may be what the operation gives. -/
def FR (op : BinOp) (x y r : Nat) : Prop := ∀ z, floatBits op .f64 x y = some z → r = z
/-- A sum and its error, step by step. -/
def TSR (a b s t : Nat) : Prop := ∃ x y p q, FR .add a b s ∧ FR .sub s a x ∧ FR .sub s x y ∧ FR .sub a y p ∧ FR .sub b x q ∧ FR .add p q t
/-- The same of a fast one. -/
def FSR (a b s t : Nat) : Prop := ∃ x, FR .add a b s ∧ FR .sub s a x ∧ FR .sub b x t
/-- Two halves. -/
def SPR (a h l : Nat) : Prop := ∃ c x, FR .mul 4728779608772575232 a c ∧ FR .sub c a x ∧ FR .sub c x h ∧ FR .sub a h l
/-- A product and its error. -/
def TPR (a b p e : Nat) : Prop := ∃ h l m n x1 x2 x3 y1 y2 y3 z, FR .mul a b p ∧ SPR a h l ∧ SPR b m n ∧ FR .mul h m x1 ∧ FR .mul l m x2 ∧ FR .mul h n x3 ∧ FR .sub p x1 y1 ∧ FR .sub y1 x2 y2 ∧ FR .sub y2 x3 y3 ∧ FR .mul l n z ∧ FR .sub z y3 e

theorem rnI_le {n : Int} {b : Nat} (h : n.natAbs ≤ 2 ^ b) : (rnI n).natAbs ≤ 2 ^ b := (isRN_rnI n).bound h
theorem rnI_rep {n : Int} (h : Rep n) : rnI n = n := (isRN_rnI n).exact h

theorem le_pow {x a b : Nat} (h : x ≤ 2 ^ a) (hab : a ≤ b) : x ≤ 2 ^ b := Nat.le_trans h (pow_mono_nat hab)
theorem add_le_pow {A B : Int} {c : Nat} (ha : A.natAbs ≤ 2 ^ c) (hb : B.natAbs ≤ 2 ^ c) : (A + B).natAbs ≤ 2 ^ (c + 1) := by
  rw [Nat.pow_succ]; omega
theorem sub_le_pow {A B : Int} {c : Nat} (ha : A.natAbs ≤ 2 ^ c) (hb : B.natAbs ≤ 2 ^ c) : (A - B).natAbs ≤ 2 ^ (c + 1) := by
  rw [Nat.pow_succ]; omega

/-- Two sums. -/
theorem TSR.total {a b : Nat} {A B : Int} (ha : IsF a A) (hb : IsF b B) {c : Nat} (hA : A.natAbs ≤ 2 ^ c) (hB : B.natAbs ≤ 2 ^ c) (hc : c + 6 ≤ TT) :
    ∃ s t, IsF s (rnI (A + B)) ∧ IsF t (A + B - rnI (A + B)) ∧ (∃ x y p q, floatBits .add .f64 a b = some s ∧ floatBits .sub .f64 s a = some x ∧ floatBits .sub .f64 s x = some y ∧ floatBits .sub .f64 a y = some p ∧ floatBits .sub .f64 b x = some q ∧ floatBits .add .f64 p q = some t) ∧ ∀ s' t', TSR a b s' t' → s' = s ∧ t' = t := by
  have b1 := add_le_pow hA hB
  obtain ⟨s, e1, f1⟩ := add_val ha hb b1 (by omega)
  have c1 := rnI_le b1
  have b2 := sub_le_pow c1 (le_pow hA (Nat.le_succ c))
  obtain ⟨x, e2, f2⟩ := sub_val f1 ha b2 (by omega)
  have c2 := rnI_le b2
  have b3 := sub_le_pow (le_pow c1 (Nat.le_succ _)) c2
  obtain ⟨y, e3, f3⟩ := sub_val f1 f2 b3 (by omega)
  have c3 := rnI_le b3
  have b4 := sub_le_pow (le_pow hA (show c ≤ c + 1 + 1 + 1 by omega)) c3
  obtain ⟨p, e4, f4⟩ := sub_val ha f3 b4 (by omega)
  have c4 := rnI_le b4
  have b5 := sub_le_pow (le_pow hB (show c ≤ c + 1 + 1 by omega)) c2
  obtain ⟨q, e5, f5⟩ := sub_val hb f2 b5 (by omega)
  have c5 := rnI_le b5
  have b6 := add_le_pow c4 (le_pow c5 (Nat.le_succ _))
  obtain ⟨t, e6, f6⟩ := add_val f4 f5 b6 (by omega)
  have hts := two_sum ha.rep hb.rep (isRN_rnI _) (isRN_rnI _) (isRN_rnI _) (isRN_rnI _) (isRN_rnI _) (isRN_rnI _)
  rw [hts] at f6
  refine ⟨s, t, f1, f6, ⟨x, y, p, q, e1, e2, e3, e4, e5, e6⟩, ?_⟩
  rintro s' t' ⟨x', y', p', q', g1, g2, g3, g4, g5, g6⟩
  obtain rfl := g1 _ e1
  obtain rfl := g2 _ e2
  obtain rfl := g3 _ e3
  obtain rfl := g4 _ e4
  obtain rfl := g5 _ e5
  exact ⟨rfl, g6 _ e6⟩

/-- Fast ones: the steps; where the second is no greater, nothing is lost. -/
theorem FSR.total {a b : Nat} {A B : Int} (ha : IsF a A) (hb : IsF b B) {c : Nat} (hA : A.natAbs ≤ 2 ^ c) (hB : B.natAbs ≤ 2 ^ c) (hc : c + 6 ≤ TT) :
    ∃ s t T, IsF s (rnI (A + B)) ∧ IsF t T ∧ (A = 0 ∨ B.natAbs ≤ A.natAbs → T = A + B - rnI (A + B)) ∧ ∀ s' t', FSR a b s' t' → s' = s ∧ t' = t := by
  have b1 := add_le_pow hA hB
  obtain ⟨s, e1, f1⟩ := add_val ha hb b1 (by omega)
  have c1 := rnI_le b1
  have b2 := sub_le_pow c1 (le_pow hA (Nat.le_succ c))
  obtain ⟨x, e2, f2⟩ := sub_val f1 ha b2 (by omega)
  have c2 := rnI_le b2
  have b3 := sub_le_pow (le_pow hB (show c ≤ c + 1 + 1 by omega)) c2
  obtain ⟨t, e3, f3⟩ := sub_val hb f2 b3 (by omega)
  refine ⟨s, t, _, f1, f3, fun h => ?_, ?_⟩
  · rcases h with h | h
    · subst h
      have e : rnI (0 + B) = B := by rw [Int.zero_add]; exact rnI_rep hb.rep
      rw [e, Int.sub_zero, rnI_rep hb.rep, Int.zero_add, Int.sub_self]; rfl
    · exact fast_two_sum ha.rep hb.rep h (isRN_rnI _) (isRN_rnI _) (isRN_rnI _)
  rintro s' t' ⟨x', g1, g2, g3⟩
  obtain rfl := g1 _ e1
  obtain rfl := g2 _ e2
  exact ⟨rfl, g3 _ e3⟩

/-- The place of a number other than 0. -/
theorem norm_place {A : Int} {u : Nat} (h : Rep A) (hA : 2 ^ (52 + u) ≤ A.natAbs) : ∃ k, u ≤ k ∧ (2 : Int) ^ k ∣ A ∧ 2 ^ 52 * 2 ^ k ≤ A.natAbs ∧ A.natAbs < 2 ^ 53 * 2 ^ k := by
  have key : ∀ n : Nat, 2 ^ (52 + u) ≤ n → ∃ k, u ≤ k ∧ 2 ^ 52 * 2 ^ k ≤ n ∧ n < 2 ^ 53 * 2 ^ k := by
    intro n hn
    have h0 : n ≠ 0 := by have := Nat.two_pow_pos (52 + u); omega
    have hlo := Nat.log2_self_le h0
    have hhi := Nat.lt_log2_self (n := n)
    have hL : 52 + u ≤ n.log2 := (Nat.le_log2 h0).2 hn
    refine ⟨n.log2 - 52, by omega, ?_, ?_⟩
    · rw [← Nat.pow_add, show 52 + (n.log2 - 52) = n.log2 by omega]; exact hlo
    · rw [← Nat.pow_add, show 53 + (n.log2 - 52) = n.log2 + 1 by omega]; exact hhi
  obtain ⟨k, hk, h1, h2⟩ := key _ hA
  refine ⟨k, hk, ?_, h1, h2⟩
  exact (isRN_self h).unit h1

/-- The two halves of A, of the place k, as whole numbers. -/
structure Halves (A H : Int) (k : Nat) : Prop where
  up : (2 : Int) ^ (k + 27) ∣ H
  hi : H.natAbs ≤ 2 ^ 26 * 2 ^ (k + 27)
  low : (2 : Int) ^ k ∣ A - H
  lo : (A - H).natAbs ≤ 2 ^ 26 * 2 ^ k

theorem pow_up (k n : Nat) : (2 : Nat) ^ (k + n) = 2 ^ n * 2 ^ k := by rw [Nat.add_comm, Nat.pow_add]
theorem pow_upI (k n : Nat) : (2 : Int) ^ (k + n) = 2 ^ n * 2 ^ k := by rw [Nat.add_comm, Int.pow_add]

theorem dvd_gap {e : Nat} {x : Int} {n : Nat} (hd : (2 : Int) ^ e ∣ x) (h : x.natAbs < (n + 1) * 2 ^ e) : x.natAbs ≤ n * 2 ^ e := by
  obtain ⟨m, rfl⟩ := hd
  have e1 : ((2 : Int) ^ e * m).natAbs = m.natAbs * 2 ^ e := by rw [Int.natAbs_mul, Int.natAbs_pow, Nat.mul_comm]; rfl
  rw [e1] at h ⊢
  have := Nat.lt_of_mul_lt_mul_right h
  exact Nat.mul_le_mul_right _ (by omega)

theorem halves {A : Int} {k : Nat} (hd : (2 : Int) ^ k ∣ A) (h1 : 2 ^ 52 * 2 ^ k ≤ A.natAbs) (h2 : A.natAbs < 2 ^ 53 * 2 ^ k) :
    ∃ H, rnI (rnI (134217729 * A) - rnI (rnI (134217729 * A) - A)) = H ∧ rnI (A - H) = A - H ∧ Halves A H k := by
  have p27 := pow_up k 27
  have p26 := pow_up k 26
  have p28 : (2 : Nat) ^ (k + 27 + 1) = 2 ^ 28 * 2 ^ k := pow_up k 28
  have hp := Nat.two_pow_pos k
  have hA2 : A.natAbs ≤ (2 ^ 53 - 1) * 2 ^ k := dvd_gap hd (by simpa using h2)
  have hRN := isRN_rnI (134217729 * A)
  generalize hC : rnI (134217729 * A) = C at *
  have hCd : (2 : Int) ^ (k + 27) ∣ C := hRN.unit (by omega)
  have hCe : (C - 134217729 * A).natAbs ≤ 2 ^ (k + 27) := hRN.err (by omega)
  have hRD := isRN_rnI (C - A)
  generalize hD : rnI (C - A) = D at *
  have hDe : (D - (C - A)).natAbs ≤ 2 ^ (k + 26) := hRD.err (F := k + 26) (by
    rw [show k + 26 + 1 = k + 27 from rfl]; omega)
  have hge : 2 ^ 52 * 2 ^ (k + 27) ≤ (C - A).natAbs := by
    by_cases he : A.natAbs = 2 ^ 52 * 2 ^ k
    · have hrep : Rep (134217729 * A) := by
        refine rep_of_dvd (e := k + 52) ?_ ?_
        · have hd2 : (2 : Int) ^ (k + 52) ∣ A := by
            rw [pow_upI]
            rcases Int.natAbs_eq A with h | h
            · exact ⟨1, by rw [h, he]; simp⟩
            · exact ⟨-1, by rw [h, he]; simp⟩
          exact Int.dvd_trans hd2 ⟨134217729, Int.mul_comm _ _⟩
        · have p52 := pow_up k 52
          omega
      have := hRN.exact hrep
      omega
    · have hgt : (2 ^ 52 + 1) * 2 ^ k ≤ A.natAbs := by
        refine Classical.byContradiction fun hc => ?_
        have := dvd_gap (n := 2 ^ 52) hd (by omega)
        omega
      omega
  have hDd : (2 : Int) ^ (k + 27) ∣ D := hRD.unit hge
  have hH : rnI (C - D) = C - D := rnI_rep (rep_of_dvd (Int.dvd_sub hCd hDd) (by omega))
  have hd27 : (2 : Int) ^ k ∣ C - D := dvd_wk (Nat.le_add_right k 27) (Int.dvd_sub hCd hDd)
  refine ⟨C - D, hH, rnI_rep (rep_of_dvd (Int.dvd_sub hd hd27) (by omega)), Int.dvd_sub hCd hDd, ?_, Int.dvd_sub hd hd27, by omega⟩
  exact dvd_gap (Int.dvd_sub hCd hDd) (by omega)

theorem factor_val : IsF 4728779608772575232 (134217729 * 2 ^ DD) := by
  obtain ⟨q, hq⟩ : ∃ q : Nat, q = 1049 := ⟨_, rfl⟩
  refine ⟨false, 4503599660924928, q, by rw [hq]; decide, ?_, by decide⟩
  rw [signed_eq, if_neg (by decide)]
  have e : DD = 25 + q := by rw [DD_eq, hq]
  rw [e, Int.pow_add, Int.natCast_mul, Int.natCast_pow, ← Int.mul_assoc]
  rfl

theorem cancel_DD {X Y : Int} (h : X * 2 ^ DD = Y * 2 ^ DD) : X = Y := Int.eq_of_mul_eq_mul_right (Int.ne_of_gt (pow_pos DD)) h

def LO : Nat := 52 + UU
theorem LO_eq : LO = 52 + UU := rfl

/-- What is known of a float to be split. -/
def Fit (A : Int) : Prop := A = 0 ∨ 2 ^ LO ≤ A.natAbs

theorem abs_mul_DD (X : Int) : (X * 2 ^ DD).natAbs = X.natAbs * 2 ^ DD := by
  have hcast : (2 : Int) ^ DD = ((2 ^ DD : Nat) : Int) := (cast_pow DD).symm
  rw [hcast, Int.natAbs_mul, Int.natAbs_natCast]

/-- The halves of a float. -/
def HalvesOf (A H : Int) : Prop := A = 0 ∧ H = 0 ∨ ∃ k, UU ≤ k ∧ 2 ^ 52 * 2 ^ k ≤ A.natAbs ∧ A.natAbs < 2 ^ 53 * 2 ^ k ∧ (2 : Int) ^ k ∣ A ∧ Halves A H k

theorem SPR.total {a : Nat} {A : Int} (ha : IsF a A) (hA0 : Fit A) {c : Nat} (hA : A.natAbs ≤ 2 ^ c) (hc : c + 34 ≤ TT) :
    ∃ h l H, IsF h H ∧ IsF l (A - H) ∧ HalvesOf A H ∧ ∀ h' l', SPR a h' l' → h' = h ∧ l' = l := by
  have hUL : 2 ^ UU ≤ 2 ^ LO := pow_mono_nat (by rw [LO_eq]; omega)
  have hbig : (134217729 * A).natAbs ≤ 2 ^ (c + 28) := by rw [Nat.add_comm, Nat.pow_add]; omega
  have hF : (134217729 * 2 ^ DD * A : Int) = 134217729 * A * 2 ^ DD := by rw [Int.mul_right_comm]
  obtain ⟨cw, P, e1, hP, f1⟩ := mul_val factor_val ha (.inr (by
      rw [abs_mul_DD, show Int.natAbs 134217729 = 134217729 from rfl]
      have : 2 ^ UU ≤ 2 ^ DD := pow_mono_nat (by rw [UU_eq, DD_eq]; omega)
      omega)) (hA0.imp id fun h => Nat.le_trans hUL h) (b := c + 28) (by rw [hF, abs_mul_DD]; exact Nat.mul_le_mul_right _ hbig) (by omega)
  rw [hF] at hP
  obtain rfl := cancel_DD hP
  clear hP
  have c1 := rnI_le hbig
  have b2 := sub_le_pow c1 (le_pow hA (show c ≤ c + 28 by omega))
  obtain ⟨x, e2, f2⟩ := sub_val f1 ha b2 (by omega)
  have c2 := rnI_le b2
  have b3 := sub_le_pow (le_pow c1 (Nat.le_succ _)) c2
  obtain ⟨h, e3, f3⟩ := sub_val f1 f2 b3 (by omega)
  have c3 := rnI_le b3
  have b4 := sub_le_pow (le_pow hA (show c ≤ c + 28 + 1 + 1 by omega)) c3
  obtain ⟨l, e4, f4⟩ := sub_val ha f3 b4 (by omega)
  have det : ∀ h' l', SPR a h' l' → h' = h ∧ l' = l := by
    rintro h' l' ⟨c', x', g1, g2, g3, g4⟩
    obtain rfl := g1 _ e1
    obtain rfl := g2 _ e2
    obtain rfl := g3 _ e3
    exact ⟨rfl, g4 _ e4⟩
  rcases hA0 with rfl | hA0
  · simp only [Int.mul_zero, rnI_zero, Int.sub_zero] at f3 f4
    exact ⟨h, l, 0, f3, by simpa using f4, .inl ⟨rfl, rfl⟩, det⟩
  · obtain ⟨k, hk, hd, h1, h2⟩ := norm_place (u := UU) ha.rep (by rw [LO_eq] at hA0; exact hA0)
    obtain ⟨H, hH, hl, hh⟩ := halves hd h1 h2
    rw [hH] at f3 f4
    rw [hl] at f4
    exact ⟨h, l, H, f3, f4, .inr ⟨k, hk, h1, h2, hd, hh⟩, det⟩

theorem Halves.h_ge {A H : Int} {k : Nat} (h : Halves A H k) (h1 : 2 ^ 52 * 2 ^ k ≤ A.natAbs) (hk : UU ≤ k) : 2 ^ UU ≤ H.natAbs := by
  have := pow_mono_nat hk
  have := h.lo
  omega

theorem unit_ge {L : Int} {k : Nat} (h : (2 : Int) ^ k ∣ L) (hk : UU ≤ k) : L = 0 ∨ 2 ^ UU ≤ L.natAbs := by
  by_cases h0 : L = 0
  · exact .inl h0
  · right
    obtain ⟨m, rfl⟩ := h
    have e : ((2 : Int) ^ k * m).natAbs = m.natAbs * 2 ^ k := by rw [Int.natAbs_mul, Int.natAbs_pow, Nat.mul_comm]; rfl
    rw [e]
    have hm : m ≠ 0 := fun hm => h0 (by rw [hm, Int.mul_zero])
    have := pow_mono_nat hk
    have : 1 * 2 ^ k ≤ m.natAbs * 2 ^ k := Nat.mul_le_mul_right _ (by omega)
    omega

theorem HalvesOf.ge {A H : Int} (h : HalvesOf A H) : (H = 0 ∨ 2 ^ UU ≤ H.natAbs) ∧ (A - H = 0 ∨ 2 ^ UU ≤ (A - H).natAbs) := by
  rcases h with ⟨rfl, rfl⟩ | ⟨k, hk, h1, h2, hd, hh⟩
  · exact ⟨.inl rfl, .inl rfl⟩
  · exact ⟨.inr (hh.h_ge h1 hk), unit_ge hh.low hk⟩

theorem HalvesOf.le {A H : Int} (h : HalvesOf A H) {c : Nat} (hA : A.natAbs ≤ 2 ^ c) : H.natAbs ≤ 2 ^ (c + 1) ∧ (A - H).natAbs ≤ 2 ^ (c + 1) := by
  rw [Nat.pow_succ]
  rcases h with ⟨rfl, rfl⟩ | ⟨k, hk, h1, h2, hd, hh⟩
  · simp; 
  · have := hh.lo; omega

theorem le_mul_abs {X Y : Int} {x y : Nat} (hx : X.natAbs ≤ x) (hy : Y.natAbs ≤ y) : (X * Y).natAbs ≤ x * y := by
  rw [Int.natAbs_mul]; exact Nat.mul_le_mul hx hy

/-- The exact part of a product's steps, all over the same unit. -/
theorem prod_steps {H L M N P X1 X2 X3 Z : Int} {k j g : Nat} (hg : k + j = g + DD)
    (hA1 : 2 ^ 52 * 2 ^ k ≤ (H + L).natAbs) (hA2 : (H + L).natAbs < 2 ^ 53 * 2 ^ k) (hB1 : 2 ^ 52 * 2 ^ j ≤ (M + N).natAbs) (hB2 : (M + N).natAbs < 2 ^ 53 * 2 ^ j)
    (hH : (2 : Int) ^ (k + 27) ∣ H) (hHb : H.natAbs ≤ 2 ^ 26 * 2 ^ (k + 27)) (hL : (2 : Int) ^ k ∣ L) (hLb : L.natAbs ≤ 2 ^ 26 * 2 ^ k)
    (hM : (2 : Int) ^ (j + 27) ∣ M) (hMb : M.natAbs ≤ 2 ^ 26 * 2 ^ (j + 27)) (hN : (2 : Int) ^ j ∣ N) (hNb : N.natAbs ≤ 2 ^ 26 * 2 ^ j)
    (hP : (H + L) * (M + N) = P * 2 ^ DD) (h1 : H * M = X1 * 2 ^ DD) (h2 : L * M = X2 * 2 ^ DD) (h3 : H * N = X3 * 2 ^ DD) (h4 : L * N = Z * 2 ^ DD) :
    P = X1 + X2 + X3 + Z ∧ rnI X1 = X1 ∧ rnI X2 = X2 ∧ rnI X3 = X3 ∧ rnI Z = Z ∧ rnI (rnI P - X1) = rnI P - X1 ∧ rnI (rnI P - X1 - X2) = rnI P - X1 - X2 ∧ rnI (rnI P - X1 - X2 - X3) = rnI P - X1 - X2 - X3 ∧ rnI (Z - (rnI P - X1 - X2 - X3)) = P - rnI P := by
  have hsum : P = X1 + X2 + X3 + Z := by
    refine cancel_DD ?_
    clear hA1 hA2 hB1 hB2 hH hHb hL hLb hM hMb hN hNb
    generalize (2 : Int) ^ DD = D at *
    grind
  -- a product's unit and size, brought down
  have unit : ∀ {X Y Q : Int} {a b e : Nat}, (2 : Int) ^ a ∣ X → (2 : Int) ^ b ∣ Y → X * Y = Q * 2 ^ DD → a + b = e + DD → (2 : Int) ^ e ∣ Q := by
    intro X Y Q a b e hX hY hQ he
    obtain ⟨x, rfl⟩ := hX
    obtain ⟨y, rfl⟩ := hY
    refine ⟨x * y, cancel_DD ?_⟩
    have hp : (2 : Int) ^ a * 2 ^ b = 2 ^ e * 2 ^ DD := by rw [← Int.pow_add, he, Int.pow_add]
    rw [← hQ]
    clear hA1 hA2 hB1 hB2 hH hHb hL hLb hM hMb hN hNb h1 h2 h3 h4 hP hQ
    generalize (2 : Int) ^ DD = D at *
    generalize (2 : Int) ^ a = a' at *
    generalize (2 : Int) ^ b = b' at *
    generalize (2 : Int) ^ e = e' at *
    grind
  have size : ∀ {X Y Q : Int} {x y a b e : Nat}, X.natAbs ≤ x * 2 ^ a → Y.natAbs ≤ y * 2 ^ b → X * Y = Q * 2 ^ DD → a + b = e + DD → Q.natAbs ≤ x * y * 2 ^ e := by
    intro X Y Q x y a b e hX hY hQ he
    have h5 := le_mul_abs hX hY
    rw [hQ, abs_mul_DD] at h5
    have e1 : x * 2 ^ a * (y * 2 ^ b) = x * y * 2 ^ e * 2 ^ DD := by
      have hp : (2 : Nat) ^ a * 2 ^ b = 2 ^ e * 2 ^ DD := by rw [← Nat.pow_add, he, Nat.pow_add]
      rw [Nat.mul_mul_mul_comm, hp, ← Nat.mul_assoc]
    rw [e1] at h5
    exact Nat.le_of_mul_le_mul_right h5 (Nat.two_pow_pos DD)
  have u1 := unit hH hM h1 (e := g + 54) (by omega)
  have u2 := unit hL hM h2 (e := g + 27) (by omega)
  have u3 := unit hH hN h3 (e := g + 27) (by omega)
  have u4 := unit hL hN h4 (e := g) (by omega)
  have s1 := size hHb hMb h1 (e := g + 54) (by omega)
  have s2 := size hLb hMb h2 (e := g + 27) (by omega)
  have s3 := size hHb hNb h3 (e := g + 27) (by omega)
  have s4 := size hLb hNb h4 (e := g) (by omega)
  have sP := size (Nat.le_of_lt hA2) (Nat.le_of_lt hB2) hP (e := g) (by omega)
  have sP2 : 2 ^ 104 * 2 ^ g ≤ P.natAbs := by
    have h5 : 2 ^ 52 * 2 ^ k * (2 ^ 52 * 2 ^ j) ≤ (H + L).natAbs * (M + N).natAbs := Nat.mul_le_mul hA1 hB1
    rw [← Int.natAbs_mul, hP, abs_mul_DD] at h5
    have e1 : 2 ^ 52 * 2 ^ k * (2 ^ 52 * 2 ^ j) = 2 ^ 104 * 2 ^ g * 2 ^ DD := by
      have hp : (2 : Nat) ^ k * 2 ^ j = 2 ^ g * 2 ^ DD := by rw [← Nat.pow_add, hg, Nat.pow_add]
      rw [Nat.mul_mul_mul_comm, hp, ← Nat.mul_assoc]
    rw [e1] at h5
    exact Nat.le_of_mul_le_mul_right h5 (Nat.two_pow_pos DD)
  have p54 := pow_up g 54
  have p27 := pow_up g 27
  have p52 := pow_up g 52
  have p53 : (2 : Nat) ^ (g + 52 + 1) = 2 ^ 53 * 2 ^ g := pow_up g 53
  have hR := isRN_rnI P
  have r1 := rnI_rep (rep_of_dvd u1 (by omega))
  have r2 := rnI_rep (rep_of_dvd u2 (by omega))
  have r3 := rnI_rep (rep_of_dvd u3 (by omega))
  have r4 := rnI_rep (rep_of_dvd u4 (by omega))
  generalize rnI P = R at *
  have uR : (2 : Int) ^ (g + 52) ∣ R := hR.unit (by omega)
  have eR : (R - P).natAbs ≤ 2 ^ (g + 52) := hR.err (by omega)
  have v1 : (2 : Int) ^ (g + 52) ∣ R - X1 := Int.dvd_sub uR (dvd_wk (by omega) u1)
  have v2 : (2 : Int) ^ (g + 27) ∣ R - X1 - X2 := Int.dvd_sub (dvd_wk (by omega) v1) u2
  have v3 : (2 : Int) ^ g ∣ R - X1 - X2 - X3 := Int.dvd_sub (dvd_wk (by omega) v2) (dvd_wk (by omega) u3)
  have v4 : (2 : Int) ^ g ∣ P - R := Int.dvd_sub (by
    rw [hsum]
    exact Int.dvd_add (Int.dvd_add (Int.dvd_add (dvd_wk (by omega) u1) (dvd_wk (by omega) u2)) (dvd_wk (by omega) u3)) u4) (dvd_wk (by omega) uR)
  refine ⟨hsum, r1, r2, r3, r4, rnI_rep (rep_of_dvd v1 (by omega)), rnI_rep (rep_of_dvd v2 (by omega)), rnI_rep (rep_of_dvd v3 (by omega)), ?_⟩
  rw [show Z - (R - X1 - X2 - X3) = P - R by omega]
  exact rnI_rep (rep_of_dvd v4 (by omega))

theorem prod_steps_of {A B H M P X1 X2 X3 Z : Int} (hA : HalvesOf A H) (hB : HalvesOf B M)
    (hP : A * B = P * 2 ^ DD) (h1 : H * M = X1 * 2 ^ DD) (h2 : (A - H) * M = X2 * 2 ^ DD) (h3 : H * (B - M) = X3 * 2 ^ DD) (h4 : (A - H) * (B - M) = Z * 2 ^ DD) :
    rnI X1 = X1 ∧ rnI X2 = X2 ∧ rnI X3 = X3 ∧ rnI Z = Z ∧ rnI (rnI P - X1) = rnI P - X1 ∧ rnI (rnI P - X1 - X2) = rnI P - X1 - X2 ∧ rnI (rnI P - X1 - X2 - X3) = rnI P - X1 - X2 - X3 ∧ rnI (Z - (rnI P - X1 - X2 - X3)) = P - rnI P := by
  have zero : ∀ {Q : Int}, 0 = Q * 2 ^ DD → Q = 0 := fun h => cancel_DD (by rw [← h, Int.zero_mul])
  rcases hA with ⟨rfl, rfl⟩ | ⟨k, hk, a1, a2, ad, ah⟩
  · simp only [Int.zero_mul, Int.sub_self] at hP h1 h2 h3 h4
    obtain rfl := zero hP; obtain rfl := zero h1; obtain rfl := zero h2; obtain rfl := zero h3; obtain rfl := zero h4
    decide
  rcases hB with ⟨rfl, rfl⟩ | ⟨j, hj, b1, b2, bd, bh⟩
  · simp only [Int.mul_zero, Int.sub_self] at hP h1 h2 h3 h4
    obtain rfl := zero hP; obtain rfl := zero h1; obtain rfl := zero h2; obtain rfl := zero h3; obtain rfl := zero h4
    decide
  obtain ⟨g, hg⟩ : ∃ g, k + j = g + DD := ⟨k + j - DD, by rw [UU_eq] at hk hj; rw [DD_eq]; omega⟩
  have eA : H + (A - H) = A := by omega
  have eB : M + (B - M) = B := by omega
  exact (prod_steps (L := A - H) (N := B - M) hg (by rw [eA]; exact a1) (by rw [eA]; exact a2) (by rw [eB]; exact b1) (by rw [eB]; exact b2) ah.up ah.hi ah.low ah.lo bh.up bh.hi bh.low bh.lo (by rw [eA, eB]; exact hP) h1 h2 h3 h4).2

/-- Products. -/
theorem TPR.total {a b : Nat} {A B : Int} (ha : IsF a A) (hb : IsF b B) (fa : Fit A) (fb : Fit B) {c d : Nat} (hA : A.natAbs ≤ 2 ^ c) (hB : B.natAbs ≤ 2 ^ c) (hc : c + 34 ≤ TT) (hd : c + c ≤ d + DD) (hdT : d + 10 ≤ TT) :
    ∃ p e P, A * B = P * 2 ^ DD ∧ IsF p (rnI P) ∧ IsF e (P - rnI P) ∧ (rnI P).natAbs ≤ 2 ^ d ∧ (P - rnI P).natAbs ≤ 2 ^ (d + 1) ∧ ∀ p' e', TPR a b p' e' → p' = p ∧ e' = e := by
  obtain ⟨h, l, H, f1, f2, hh, det1⟩ := SPR.total ha fa hA hc
  obtain ⟨m, n, M, f3, f4, hm, det2⟩ := SPR.total hb fb hB hc
  have hUL : 2 ^ UU ≤ 2 ^ LO := pow_mono_nat (by rw [LO_eq]; omega)
  have bd : ∀ {X Y : Int}, X.natAbs ≤ 2 ^ (c + 1) → Y.natAbs ≤ 2 ^ (c + 1) → (X * Y).natAbs ≤ 2 ^ (d + 2) * 2 ^ DD := by
    intro X Y hx hy
    refine Nat.le_trans (le_mul_abs hx hy) ?_
    rw [← Nat.pow_add, ← Nat.pow_add]
    exact pow_mono_nat (by omega)
  have bdP : (A * B).natAbs ≤ 2 ^ d * 2 ^ DD := by
    refine Nat.le_trans (le_mul_abs hA hB) ?_
    rw [← Nat.pow_add, ← Nat.pow_add]
    exact pow_mono_nat hd
  have hc1 : ∀ {X : Int}, X.natAbs ≤ 2 ^ c → X.natAbs ≤ 2 ^ (c + 1) := fun h => le_pow h (Nat.le_succ c)
  obtain ⟨p, P, e1, hP, g1⟩ := mul_val ha hb (fa.imp id (Nat.le_trans hUL)) (fb.imp id (Nat.le_trans hUL)) bdP (by omega)
  obtain ⟨x1, X1, e2, hX1, g2⟩ := mul_val f1 f3 hh.ge.1 hm.ge.1 (bd (hh.le hA).1 (hm.le hB).1) (by omega)
  obtain ⟨x2, X2, e3, hX2, g3⟩ := mul_val f2 f3 hh.ge.2 hm.ge.1 (bd (hh.le hA).2 (hm.le hB).1) (by omega)
  obtain ⟨x3, X3, e4, hX3, g4⟩ := mul_val f1 f4 hh.ge.1 hm.ge.2 (bd (hh.le hA).1 (hm.le hB).2) (by omega)
  obtain ⟨z, Z, e5, hZ, g5⟩ := mul_val f2 f4 hh.ge.2 hm.ge.2 (bd (hh.le hA).2 (hm.le hB).2) (by omega)
  obtain ⟨r1, r2, r3, r4, r5, r6, r7, r8⟩ := prod_steps_of hh hm hP hX1 hX2 hX3 hZ
  rw [r1] at g2; rw [r2] at g3; rw [r3] at g4; rw [r4] at g5
  have down : ∀ {Q : Int} {e : Nat}, (Q * 2 ^ DD).natAbs ≤ 2 ^ e * 2 ^ DD → Q.natAbs ≤ 2 ^ e := by
    intro Q e hq
    rw [abs_mul_DD] at hq
    exact Nat.le_of_mul_le_mul_right hq (Nat.two_pow_pos DD)
  have hPb : P.natAbs ≤ 2 ^ d := down (by rw [← hP]; exact bdP)
  have hX1b : X1.natAbs ≤ 2 ^ (d + 2) := down (by rw [← hX1]; exact bd (hh.le hA).1 (hm.le hB).1)
  have hX2b : X2.natAbs ≤ 2 ^ (d + 2) := down (by rw [← hX2]; exact bd (hh.le hA).2 (hm.le hB).1)
  have hX3b : X3.natAbs ≤ 2 ^ (d + 2) := down (by rw [← hX3]; exact bd (hh.le hA).1 (hm.le hB).2)
  have hZb : Z.natAbs ≤ 2 ^ (d + 2) := down (by rw [← hZ]; exact bd (hh.le hA).2 (hm.le hB).2)
  have hRb := rnI_le hPb
  have b1 := sub_le_pow (le_pow hRb (show d ≤ d + 2 by omega)) hX1b
  obtain ⟨y1, e6, g6⟩ := sub_val g1 g2 b1 (by omega)
  rw [r5] at g6
  have b2 := sub_le_pow b1 (le_pow hX2b (show d + 2 ≤ d + 2 + 1 by omega))
  obtain ⟨y2, e7, g7⟩ := sub_val g6 g3 b2 (by omega)
  rw [r6] at g7
  have b3 := sub_le_pow b2 (le_pow hX3b (show d + 2 ≤ d + 2 + 1 + 1 by omega))
  obtain ⟨y3, e8, g8⟩ := sub_val g7 g4 b3 (by omega)
  rw [r7] at g8
  have b4 := sub_le_pow (le_pow hZb (show d + 2 ≤ d + 2 + 1 + 1 + 1 by omega)) b3
  obtain ⟨e, e9, g9⟩ := sub_val g5 g8 b4 (by omega)
  rw [r8] at g9
  refine ⟨p, e, P, hP, g1, g9, hRb, sub_le_pow hPb hRb, ?_⟩
  rintro p' e' ⟨h', l', m', n', x1', x2', x3', y1', y2', y3', z', q1, q2, q3, q4, q5, q6, q7, q8, q9, q10, q11⟩
  obtain rfl := q1 _ e1
  obtain ⟨rfl, rfl⟩ := det1 _ _ q2
  obtain ⟨rfl, rfl⟩ := det2 _ _ q3
  obtain rfl := q4 _ e2
  obtain rfl := q5 _ e3
  obtain rfl := q6 _ e4
  obtain rfl := q7 _ e6
  obtain rfl := q8 _ e7
  obtain rfl := q9 _ e8
  obtain rfl := q10 _ e5
  exact ⟨rfl, q11 _ e9⟩

/-- Is a float from 2^-400 to 2^400? -/
def inB (z : Nat) : Bool := (FloatKind.f64.format.order z 2805742567851819008 == some .gt || FloatKind.f64.format.order z 2805742567851819008 == some .eq) && (FloatKind.f64.format.order z 6408622269748215808 == some .lt || FloatKind.f64.format.order z 6408622269748215808 == some .eq)
theorem inB_false {z : Nat} (h : ¬(FloatKind.f64.format.order z 2805742567851819008 = some Ordering.gt ∨ FloatKind.f64.format.order z 2805742567851819008 = some Ordering.eq)) : inB z = false := by
  unfold inB
  have h1 : (FloatKind.f64.format.order z 2805742567851819008 == some .gt) = false := by rw [beq_eq_false_iff_ne]; exact fun e => h (.inl e)
  have h2 : (FloatKind.f64.format.order z 2805742567851819008 == some .eq) = false := by rw [beq_eq_false_iff_ne]; exact fun e => h (.inr e)
  rw [h1, h2]; rfl
/-- What Moderate answers. -/
def modB (a : Nat) : Bool :=
  if FloatKind.f64.format.order a 0 == some .eq then true
  else if FloatKind.f64.format.order a 0 == some .lt then match floatBits .sub .f64 0 a with
    | some z => inB z
    | none => false
  else inB a

theorem sub_valid {a : Nat} (h : FloatKind.f64.format.order a 0 = some .lt) : ∃ z, floatBits .sub .f64 0 a = some z := by
  have h0 : Ieee.double.read 0 = .number false 0 (-1074) := by decide
  have h1 : (Ieee.double.read a).order (Ieee.double.read 0) = some .lt := h
  show ∃ z, ((Ieee.double.read 0).sum (Ieee.double.read a).opposite).map Ieee.double.write = some z
  rw [h0] at h1 ⊢
  cases hr : Ieee.double.read a with
  | number s m e => exact ⟨_, rfl⟩
  | infinity s => exact ⟨_, rfl⟩
  | nan s t => rw [hr] at h1; cases h1

theorem mod_lt {a z : Nat} (h1 : (FloatKind.f64.format.order a 0 == some .eq) = false) (h2 : (FloatKind.f64.format.order a 0 == some .lt) = true) (hz : FR .sub 0 a z) : modB a = inB z := by
  obtain ⟨z', e⟩ := sub_valid (beq_iff_eq.1 h2)
  obtain rfl := hz _ e
  unfold modB
  rw [h1, h2, e]; rfl

def HI : Nat := 52 + 1422
theorem HI_eq : HI = 52 + 1422 := rfl

theorem lo_val : IsF 2805742567851819008 (2 ^ LO) := by
  refine ⟨false, 2 ^ 52, UU, by decide, ?_, by decide⟩
  rw [signed_eq, if_neg (by decide), LO_eq, Int.pow_add]; simp
theorem hi_val : IsF 6408622269748215808 (2 ^ HI) := by
  obtain ⟨q, hq⟩ : ∃ q : Nat, q = 1422 := ⟨_, rfl⟩
  refine ⟨false, 2 ^ 52, q, by rw [hq]; decide, ?_, by decide⟩
  rw [signed_eq, if_neg (by decide), HI_eq, ← hq, Int.pow_add]; simp

theorem order_cases {x y : Nat} {o : Ordering} (h : Ieee.double.order x y = some o) : (∃ s m e, Ieee.double.read x = .number s m e) ∨ ∃ s, Ieee.double.read x = .infinity s := by
  unfold Ieee.Format.order at h
  cases hr : Ieee.double.read x with
  | number s m e => exact .inl ⟨_, _, _, rfl⟩
  | infinity s => exact .inr ⟨_, rfl⟩
  | nan s t => rw [hr] at h; cases h

theorem inB_val {z : Nat} (h : inB z = true) : ∃ Z, IsF z Z ∧ 2 ^ LO ≤ Z ∧ Z ≤ 2 ^ HI := by
  unfold inB at h
  rw [Bool.and_eq_true, Bool.or_eq_true, Bool.or_eq_true, beq_iff_eq, beq_iff_eq, beq_iff_eq, beq_iff_eq] at h
  obtain ⟨h1, h2⟩ := h
  have hc : (∃ s m e, Ieee.double.read z = .number s m e) ∨ ∃ s, Ieee.double.read z = .infinity s := by
    rcases h1 with h1 | h1 <;> exact order_cases h1
  rcases hc with ⟨s, m, e, hr⟩ | ⟨s, hr⟩
  · obtain ⟨Z, hZ, _⟩ := isF_of_read hr
    have o1 := order_val hZ lo_val
    have o2 := order_val hZ hi_val
    refine ⟨Z, hZ, ?_, ?_⟩
    · have h1' : Ieee.double.order z 2805742567851819008 = some .gt ∨ Ieee.double.order z 2805742567851819008 = some .eq := h1
      rw [o1] at h1'
      rcases h1' with h | h
      · exact Int.le_of_lt (Int.compare_eq_gt.1 (Option.some.inj h))
      · exact Int.le_of_eq (Int.compare_eq_eq.1 (Option.some.inj h)).symm
    · have h2' : Ieee.double.order z 6408622269748215808 = some .lt ∨ Ieee.double.order z 6408622269748215808 = some .eq := h2
      rw [o2] at h2'
      rcases h2' with h | h
      · exact Int.le_of_lt (Int.compare_eq_lt.1 (Option.some.inj h))
      · exact Int.le_of_eq (Int.compare_eq_eq.1 (Option.some.inj h))
  · exfalso
    have e1 : Ieee.double.read 2805742567851819008 = .number false 4503599627370496 (-452) := by decide
    have e2 : Ieee.double.read 6408622269748215808 = .number false 4503599627370496 348 := by decide
    have h1' : (Ieee.double.read z).order (Ieee.double.read 2805742567851819008) = some .gt ∨ (Ieee.double.read z).order (Ieee.double.read 2805742567851819008) = some .eq := h1
    have h2' : (Ieee.double.read z).order (Ieee.double.read 6408622269748215808) = some .lt ∨ (Ieee.double.read z).order (Ieee.double.read 6408622269748215808) = some .eq := h2
    rw [hr, e1] at h1'
    rw [hr, e2] at h2'
    cases s <;> simp [Ieee.Datum.order] at h1' h2'

/-- A moderate float. -/
theorem modB_val {a : Nat} (h : modB a = true) : ∃ A, IsF a A ∧ Fit A ∧ A.natAbs ≤ 2 ^ HI := by
  have key : ∀ {A Z : Int}, (A = Z ∨ A = -Z) → 2 ^ LO ≤ Z → Z ≤ 2 ^ HI → 2 ^ LO ≤ A.natAbs ∧ A.natAbs ≤ 2 ^ HI := by
    intro A Z hAZ z1 z2
    have c1 := cast_pow LO
    have c2 := cast_pow HI
    have p1 := pow_pos LO
    generalize (2 : Int) ^ LO = lo at *
    generalize (2 : Int) ^ HI = hi at *
    generalize (2 : Nat) ^ LO = lo' at *
    generalize (2 : Nat) ^ HI = hi' at *
    omega
  unfold modB at h
  split at h
  · rename_i h1
    rw [beq_iff_eq] at h1
    have h1' : Ieee.double.order a 0 = some .eq := h1
    rcases order_cases h1' with ⟨s, m, e, hr⟩ | ⟨s, hr⟩
    · obtain ⟨A, hA, _⟩ := isF_of_read hr
      have o1 := order_val hA isF_zero
      rw [o1] at h1'
      have : A = 0 := Int.compare_eq_eq.1 (Option.some.inj h1')
      subst this
      exact ⟨0, hA, .inl rfl, by simp⟩
    · exfalso
      have e0 : Ieee.double.read 0 = .number false 0 (-1074) := by decide
      have h2 : (Ieee.double.read a).order (Ieee.double.read 0) = some .eq := h1'
      rw [hr, e0] at h2
      cases s <;> simp [Ieee.Datum.order] at h2
  · split at h
    · rename_i h2
      rw [beq_iff_eq] at h2
      obtain ⟨z, hz⟩ := sub_valid h2
      rw [hz] at h
      obtain ⟨Z, hZ, z1, z2⟩ := inB_val h
      have h2' : Ieee.double.order a 0 = some .lt := h2
      rcases order_cases h2' with ⟨s, m, e, hr⟩ | ⟨s, hr⟩
      · obtain ⟨A, hA, hAb⟩ := isF_of_read hr
        have hrn : rnN (0 + -A).natAbs < 2 ^ TT := by
          have e1 := rnI_rep (hA.rep)
          have e2 : (rnI A).natAbs = rnN A.natAbs := by unfold rnI; split <;> simp
          rw [Int.zero_add, Int.natAbs_neg, ← e2, e1]; exact hAb
        obtain ⟨s', m', k', hr', hA', _⟩ := hA
        have hneg : -A = Ieee.signed (!s') m' k' := by rw [hA', signed_eq, signed_eq]; cases s' <;> simp
        obtain ⟨r, er, fr⟩ := sum_val0 (dy := (Ieee.double.read a).opposite) isF_zero ⟨!s', m', k', by rw [hr']; rfl, hneg⟩ hrn
        have hzr : z = r := by
          have : floatBits .sub .f64 0 a = some r := er
          rw [hz] at this
          exact Option.some.inj this
        subst hzr
        have hA2 : IsF a A := ⟨s', m', k', hr', hA', by assumption⟩
        have eZ : Z = -A := by
          have := hZ.fun_ fr
          rw [Int.zero_add, rnI_neg, rnI_rep hA2.rep] at this
          exact this
        have hk := key (.inr (by omega : A = -Z)) z1 z2
        exact ⟨A, hA2, .inr hk.1, hk.2⟩
      · exfalso
        have e0 : Ieee.double.read 0 = .number false 0 (-1074) := by decide
        have e2 : floatBits .sub .f64 0 a = some (Ieee.double.write (.infinity (!s))) := by
          show ((Ieee.double.read 0).sum (Ieee.double.read a).opposite).map Ieee.double.write = _
          rw [hr, e0]; rfl
        rw [hz] at e2
        obtain rfl := Option.some.inj e2
        cases s
        · exact absurd h (by decide)
        · exact absurd h (by decide)
    · obtain ⟨Z, hZ, z1, z2⟩ := inB_val h
      have hk := key (.inl rfl) z1 z2
      exact ⟨Z, hZ, .inr hk.1, hk.2⟩

theorem self_eq {x : Nat} {A : Int} (h : IsF x A) : (FloatKind.f64.format.order x x == some .eq) = true := by
  have : Ieee.double.order x x = some (compare A A) := order_val h h
  show (Ieee.double.order x x == some .eq) = true
  rw [this, Int.compare_eq_eq.2 rfl]; rfl
theorem eq_of_val {x y : Nat} {A : Int} (h : IsF x A) (k : IsF y A) : (FloatKind.f64.format.order x y == some .eq) = true := by
  have : Ieee.double.order x y = some (compare A A) := order_val h k
  show (Ieee.double.order x y == some .eq) = true
  rw [this, Int.compare_eq_eq.2 rfl]; rfl

theorem mod_bounds : HI + 34 ≤ TT ∧ HI + HI ≤ 1874 + DD ∧ 1874 + 10 ≤ TT := by
  rw [HI_eq, TT_eq, DD_eq]; omega

/-- All that the four steps give at moderate floats. -/
theorem steps_mod {a b : Nat} (ha : modB a = true) (hb : modB b = true) : ∃ s t u v h l p e : Nat,
    (∀ s' t', TSR a b s' t' → s' = s ∧ t' = t) ∧ (∀ s' t', FSR a b s' t' → s' = u ∧ t' = v) ∧ (∀ s' t', SPR a s' t' → s' = h ∧ t' = l) ∧ (∀ s' t', TPR a b s' t' → s' = p ∧ t' = e) ∧
    (FloatKind.f64.format.order s s == some .eq) = true ∧ (FloatKind.f64.format.order t t == some .eq) = true ∧ (FloatKind.f64.format.order u u == some .eq) = true ∧ (FloatKind.f64.format.order v v == some .eq) = true ∧
    (FloatKind.f64.format.order h h == some .eq) = true ∧ (FloatKind.f64.format.order l l == some .eq) = true ∧ (FloatKind.f64.format.order p p == some .eq) = true ∧ (FloatKind.f64.format.order e e == some .eq) = true := by
  obtain ⟨A, iA, fA, bA⟩ := modB_val ha
  obtain ⟨B, iB, fB, bB⟩ := modB_val hb
  obtain ⟨m1, m2, m3⟩ := mod_bounds
  obtain ⟨s, t, f1, f2, _, d1⟩ := TSR.total iA iB bA bB (by omega)
  obtain ⟨u, v, T, f3, f4, _, d2⟩ := FSR.total iA iB bA bB (by omega)
  obtain ⟨h, l, H, f5, f6, _, d3⟩ := SPR.total iA fA bA m1
  obtain ⟨p, e, P, _, f7, f8, _, _, d4⟩ := TPR.total iA iB fA fB bA bB m1 m2 m3
  exact ⟨s, t, u, v, h, l, p, e, d1, d2, d3, d4, self_eq f1, self_eq f2, self_eq f3, self_eq f4, self_eq f5, self_eq f6, self_eq f7, self_eq f8⟩
end EftPure
