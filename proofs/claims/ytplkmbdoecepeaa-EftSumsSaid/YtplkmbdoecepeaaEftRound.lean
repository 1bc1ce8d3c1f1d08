/- Rounding to 53 bits over whole numbers: what 'nearest' gives for sums. -/
namespace EftPure

/-- A whole number of at most 53 bits times a power of 2. -/
def Rep (n : Int) : Prop := ∃ (m : Int) (e : Nat), n = m * 2 ^ e ∧ m.natAbs ≤ 2 ^ 53

/-- r is a number of 53 bits that is nearest to n. -/
structure IsRN (n r : Int) : Prop where
  rep : Rep r
  near : ∀ x, Rep x → (r - n).natAbs ≤ (x - n).natAbs

theorem pow_pos (e : Nat) : (0 : Int) < 2 ^ e := Int.pow_pos (by decide)

theorem pow_split {e f : Nat} (h : e ≤ f) : (2 : Int) ^ f = 2 ^ (f - e) * 2 ^ e := by
  rw [← Int.pow_add]; congr 1; omega

theorem dvd_wk {g k : Nat} {x : Int} (hgk : g ≤ k) (hx : (2 : Int) ^ k ∣ x) : (2 : Int) ^ g ∣ x := Int.dvd_trans ⟨2 ^ (k - g), by rw [pow_split hgk, Int.mul_comm]⟩ hx

theorem rep_zero : Rep 0 := ⟨0, 0, by simp, by simp⟩

theorem rep_of_dvd {n : Int} {e : Nat} (hd : (2 : Int) ^ e ∣ n) (h : n.natAbs ≤ 2 ^ 53 * 2 ^ e) : Rep n := by
  obtain ⟨m, rfl⟩ := hd
  refine ⟨m, e, Int.mul_comm _ _, ?_⟩
  have hp : 0 < 2 ^ e := Nat.two_pow_pos e
  rw [Int.natAbs_mul, Int.natAbs_pow, Nat.mul_comm] at h
  exact Nat.le_of_mul_le_mul_right h hp

theorem Rep.dvd {n : Int} (h : Rep n) : ∃ e : Nat, (2 : Int) ^ e ∣ n ∧ n.natAbs ≤ 2 ^ 53 * 2 ^ e := by
  obtain ⟨m, e, rfl, hm⟩ := h
  refine ⟨e, ⟨m, Int.mul_comm _ _⟩, ?_⟩
  rw [Int.natAbs_mul, Int.natAbs_pow]
  exact Nat.mul_le_mul_right _ hm

theorem Rep.neg {n : Int} (h : Rep n) : Rep (-n) := by
  obtain ⟨m, e, rfl, hm⟩ := h
  exact ⟨-m, e, by rw [Int.neg_mul], by simpa using hm⟩

theorem IsRN.neg {n r : Int} (h : IsRN n r) : IsRN (-n) (-r) :=
  ⟨h.rep.neg, fun x hx => by have := h.near (-x) hx.neg; omega⟩

theorem IsRN.exact {n r : Int} (h : IsRN n r) (hn : Rep n) : r = n := by
  have := h.near n hn
  omega

theorem isRN_self {n : Int} (hn : Rep n) : IsRN n n := ⟨hn, fun x _ => by omega⟩

theorem rep_pow (e : Nat) : Rep (2 ^ 53 * 2 ^ e) := ⟨2 ^ 53, e, rfl, by decide⟩
theorem rep_pow' (e : Nat) : Rep (2 ^ 52 * 2 ^ e) := ⟨2 ^ 52, e, rfl, by decide⟩

theorem pow_mono_nat {e f : Nat} (h : e ≤ f) : 2 ^ e ≤ 2 ^ f := Nat.pow_le_pow_right (by decide) h

theorem cast_pow (e : Nat) : (((2 : Nat) ^ e : Nat) : Int) = 2 ^ e := by simp

/-- What divides a number divides what it is rounded to. -/
theorem IsRN.dvd {n r : Int} {e : Nat} (h : IsRN n r) (hd : (2 : Int) ^ e ∣ n) : (2 : Int) ^ e ∣ r := by
  by_cases hn : n.natAbs ≤ 2 ^ 53 * 2 ^ e
  · rw [h.exact (rep_of_dvd hd hn)]; exact hd
  · obtain ⟨f, hf, hr⟩ := h.rep.dvd
    by_cases hfe : e ≤ f
    · exact Int.dvd_trans ⟨2 ^ (f - e), by rw [pow_split hfe, Int.mul_comm]⟩ hf
    · exfalso
      have hle : 2 ^ f ≤ 2 ^ e := pow_mono_nat (by omega)
      have hlt : 2 * 2 ^ f ≤ 2 ^ e := by
        have : 2 ^ (f + 1) ≤ 2 ^ e := pow_mono_nat (by omega)
        rw [Nat.pow_succ] at this; omega
      have hp := Nat.two_pow_pos f
      have c := cast_pow e
      by_cases hs : 0 ≤ n
      · have := h.near _ (rep_pow e)
        omega
      · have := h.near _ (rep_pow e).neg
        omega

/-- The error of a number below 2^(53+F): at most half of the unit. -/
theorem IsRN.err {n r : Int} {F : Nat} (h : IsRN n r) (hn : n.natAbs ≤ 2 ^ 53 * 2 ^ (F + 1)) : (r - n).natAbs ≤ 2 ^ F := by
  have hp : (0 : Int) < 2 ^ (F + 1) := pow_pos _
  have h2 : (2 : Int) ^ (F + 1) = 2 * 2 ^ F := by rw [Int.pow_succ]; omega
  have h3 : (2 : Nat) ^ (F + 1) = 2 * 2 ^ F := by rw [Nat.pow_succ]; omega
  have c := cast_pow F
  -- the nearest multiple
  have e1 := Int.emod_add_mul_ediv n (2 ^ (F + 1))
  have e2 := Int.emod_nonneg n (Int.ne_of_gt hp)
  have e3 := Int.emod_lt_of_pos n hp
  generalize hq : n / 2 ^ (F + 1) = q at *
  generalize ht : n % 2 ^ (F + 1) = t at *
  by_cases hlow : t ≤ 2 ^ F
  · have hb : ((2 : Int) ^ (F + 1) * q).natAbs ≤ 2 ^ 53 * 2 ^ (F + 1) := by
      by_cases h0 : 0 ≤ n
      · have hq0 : 0 ≤ 2 ^ (F + 1) * q := by
          have : 0 ≤ q := by rw [← hq]; exact Int.ediv_nonneg h0 (Int.le_of_lt hp)
          exact Int.mul_nonneg (Int.le_of_lt hp) this
        omega
      · -- negative: q·unit ≥ -2^53·unit as n ≥ -2^53·unit, t ≥ 0 and floors
        have hge : -(2 : Int) ^ 53 ≤ q := by
          rw [← hq]
          refine (Int.le_ediv_iff_mul_le hp).2 ?_
          have c2 := cast_pow (F + 1)
          omega
        have hle : q ≤ 0 := by
          rw [← hq]
          have : n / 2 ^ (F + 1) < 1 := (Int.ediv_lt_iff_lt_mul hp).2 (by omega)
          omega
        rw [Int.natAbs_mul, Int.natAbs_pow, Nat.mul_comm]
        exact Nat.mul_le_mul_right _ (by omega)
    have := h.near _ (rep_of_dvd ⟨q, rfl⟩ hb)
    omega
  · have hb : ((2 : Int) ^ (F + 1) * (q + 1)).natAbs ≤ 2 ^ 53 * 2 ^ (F + 1) := by
      have hge : -(2 : Int) ^ 53 ≤ q := by
        rw [← hq]
        refine (Int.le_ediv_iff_mul_le hp).2 ?_
        have c2 := cast_pow (F + 1)
        omega
      have hle : q < 2 ^ 53 := by
        rw [← hq]
        refine (Int.ediv_lt_iff_lt_mul hp).2 ?_
        have c2 := cast_pow (F + 1)
        by_cases hx : n = 2 ^ 53 * 2 ^ (F + 1)
        · exfalso
          rw [hx, Int.mul_emod_left] at ht
          have := pow_pos F
          omega
        · omega
      rw [Int.natAbs_mul, Int.natAbs_pow, Nat.mul_comm]
      exact Nat.mul_le_mul_right _ (by omega)
    have := h.near _ (rep_of_dvd ⟨q + 1, rfl⟩ hb)
    rw [Int.mul_add] at this
    omega

/-- Of a number above 2^(52+F) the rounded one is a multiple of 2^F. -/
theorem IsRN.unit {n r : Int} {F : Nat} (h : IsRN n r) (hn : 2 ^ 52 * 2 ^ F ≤ n.natAbs) : (2 : Int) ^ F ∣ r := by
  have c := cast_pow F
  have hr : 2 ^ 52 * 2 ^ F ≤ r.natAbs := by
    by_cases hs : 0 ≤ n
    · have := h.near _ (rep_pow' F); omega
    · have := h.near _ (rep_pow' F).neg; omega
  obtain ⟨m, e, he, hm⟩ := h.rep
  by_cases hFe : F ≤ e
  · exact ⟨m * 2 ^ (e - F), by rw [he, pow_split hFe, ← Int.mul_assoc, Int.mul_comm]⟩
  · obtain ⟨g, hg⟩ : ∃ g, F = e + 1 + g := ⟨F - e - 1, by omega⟩
    have hp : 0 < 2 ^ e := Nat.two_pow_pos e
    have h1 : r.natAbs = m.natAbs * 2 ^ e := by rw [he, Int.natAbs_mul, Int.natAbs_pow]; rfl
    have h2 : 2 ^ 52 * 2 ^ (1 + g) ≤ m.natAbs := by
      refine Nat.le_of_mul_le_mul_right (c := 2 ^ e) ?_ hp
      rw [← h1]
      refine Nat.le_trans (Nat.le_of_eq ?_) hr
      rw [hg, Nat.mul_assoc, ← Nat.pow_add]; congr 2; omega
    have hg0 : g = 0 := by
      rcases Nat.eq_zero_or_pos g with h0 | h0
      · exact h0
      · exfalso
        have : 2 ^ 2 ≤ 2 ^ (1 + g) := pow_mono_nat (by omega)
        omega
    subst hg0
    have hme : m.natAbs = 2 ^ 53 := by omega
    have hF : (2 : Int) ^ F = 2 * 2 ^ e := by rw [hg, Int.pow_succ]; omega
    rcases Int.natAbs_eq m with h3 | h3
    · exact ⟨2 ^ 52, by rw [he, h3, hme, hF]; simp only [Int.natCast_pow]; omega⟩
    · exact ⟨-2 ^ 52, by rw [he, h3, hme, hF]; simp only [Int.natCast_pow]; omega⟩

/-- The place of a number that is too long. -/
theorem place (n : Nat) (h : 2 ^ 53 < n) : ∃ F, 2 ^ 53 * 2 ^ F < n ∧ n ≤ 2 ^ 53 * 2 ^ (F + 1) := by
  have key : ∀ k, n ≤ 2 ^ 53 * 2 ^ k → ∃ F, 2 ^ 53 * 2 ^ F < n ∧ n ≤ 2 ^ 53 * 2 ^ (F + 1) := by
    intro k
    induction k with
    | zero => intro hk; exfalso; simp at hk; omega
    | succ k ih =>
      intro hk
      by_cases h1 : n ≤ 2 ^ 53 * 2 ^ k
      · exact ih h1
      · exact ⟨k, by omega, hk⟩
  refine key n ?_
  have := Nat.lt_two_pow_self (n := n)
  omega

theorem rep_small {n : Int} (h : n.natAbs ≤ 2 ^ 53) : Rep n := ⟨n, 0, by simp, h⟩

/-- What a sum loses is of 53 bits. -/
theorem err_rep {a b r : Int} (ha : Rep a) (hb : Rep b) (h : IsRN (a + b) r) : Rep (a + b - r) := by
  have key : ∀ {a b : Int} {e f : Nat}, Rep b → (2 : Int) ^ e ∣ a → a.natAbs ≤ 2 ^ 53 * 2 ^ e → (2 : Int) ^ f ∣ b → e ≤ f → IsRN (a + b) r → Rep (a + b - r) := by
    intro a b e f hb hea hea' hfb hef h
    have hd : (2 : Int) ^ e ∣ a + b := Int.dvd_add hea (Int.dvd_trans ⟨2 ^ (f - e), by rw [pow_split hef, Int.mul_comm]⟩ hfb)
    have hr := h.dvd hd
    refine rep_of_dvd (Int.dvd_sub hd hr) ?_
    have := h.near b hb
    omega
  obtain ⟨e, h1, h2⟩ := ha.dvd
  obtain ⟨f, h3, h4⟩ := hb.dvd
  by_cases hef : e ≤ f
  · exact key hb h1 h2 h3 hef h
  · have := key (a := b) (b := a) ha h3 h4 h1 (by omega) (by rwa [Int.add_comm])
    rwa [Int.add_comm b a] at this

/-- The first step of a fast sum is exact. -/
theorem fast_exact {a b s : Int} (ha : Rep a) (hb : Rep b) (hab : b.natAbs ≤ a.natAbs) (h : IsRN (a + b) s) : Rep (s - a) := by
  by_cases hn : (a + b).natAbs ≤ 2 ^ 53
  · rw [h.exact (rep_small hn)]
    rwa [show a + b - a = b by omega]
  obtain ⟨F, hF1, hF2⟩ := place _ (by omega : 2 ^ 53 < (a + b).natAbs)
  have herr := h.err hF2
  have h3 : (2 : Nat) ^ (F + 1) = 2 * 2 ^ F := by rw [Nat.pow_succ]; omega
  have hs : (2 : Int) ^ (F + 1) ∣ s := h.unit (by omega)
  obtain ⟨e, h1, h2⟩ := ha.dvd
  obtain ⟨f, h4, h5⟩ := hb.dvd
  have wk : ∀ {g k : Nat} {x : Int}, g ≤ k → (2 : Int) ^ k ∣ x → (2 : Int) ^ g ∣ x := fun hgk hx => Int.dvd_trans ⟨2 ^ (_ - _), by rw [pow_split hgk, Int.mul_comm]⟩ hx
  have heF : F ≤ e := by
    refine Classical.byContradiction fun hc => ?_
    have : 2 ^ (e + 1) ≤ 2 ^ F := pow_mono_nat (by omega)
    rw [Nat.pow_succ] at this
    omega
  by_cases he : F + 1 ≤ e
  · by_cases hf : F + 1 ≤ f
    · -- the sum is of 53 bits
      have hr : Rep (a + b) := rep_of_dvd (Int.dvd_add (wk he h1) (wk hf h4)) hF2
      rw [h.exact hr]
      rwa [show a + b - a = b by omega]
    · have hb' : b.natAbs ≤ 2 ^ 53 * 2 ^ F := Nat.le_trans h5 (Nat.mul_le_mul_left _ (pow_mono_nat (by omega)))
      refine rep_of_dvd (Int.dvd_sub hs (wk he h1)) ?_
      omega
  · obtain rfl : e = F := by omega
    have hsF : (2 : Int) ^ e ∣ s - a := Int.dvd_sub (wk (by omega) hs) h1
    by_cases hx : (s - a).natAbs ≤ 2 ^ 53 * 2 ^ e
    · exact rep_of_dvd hsF hx
    · have hb2 : b.natAbs = 2 ^ 53 * 2 ^ e := by
        obtain ⟨m, hm⟩ := hsF
        rw [hm, Int.natAbs_mul, Int.natAbs_pow] at hx
        have hp : 0 < 2 ^ e := Nat.two_pow_pos e
        have hm' : 2 ^ 53 < m.natAbs := by
          refine Classical.byContradiction fun hc => hx ?_
          show 2 ^ e * _ ≤ _
          rw [Nat.mul_comm]; exact Nat.mul_le_mul_right _ (by omega)
        have : 2 ^ e * (2 ^ 53 + 1) ≤ 2 ^ e * m.natAbs := Nat.mul_le_mul_left _ hm'
        have e4 : (s - a).natAbs = 2 ^ e * m.natAbs := by rw [hm, Int.natAbs_mul, Int.natAbs_pow]; rfl
        omega
      have ha2 : a.natAbs = 2 ^ 53 * 2 ^ e := by omega
      have hr : Rep (a + b) := by
        rcases Int.natAbs_eq a with h6 | h6 <;> rcases Int.natAbs_eq b with h7 | h7 <;> rw [h6, h7, ha2, hb2]
        · exact ⟨2 ^ 53, e + 1, by rw [Int.pow_succ]; simp; omega, by decide⟩
        · rw [show (((2 ^ 53 * 2 ^ e : Nat) : Int) + -((2 ^ 53 * 2 ^ e : Nat) : Int)) = 0 by omega]; exact rep_zero
        · rw [show (-((2 ^ 53 * 2 ^ e : Nat) : Int) + ((2 ^ 53 * 2 ^ e : Nat) : Int)) = 0 by omega]; exact rep_zero
        · exact ⟨-2 ^ 53, e + 1, by rw [Int.pow_succ]; simp; omega, by decide⟩
      rw [h.exact hr]
      rwa [show a + b - a = b by omega]

/-- Sterbenz: the difference of two near numbers is exact. -/
theorem sterbenz {x y : Int} (hx : Rep x) (hy : Rep y) (h1 : (x - y).natAbs ≤ x.natAbs) (h2 : (x - y).natAbs ≤ y.natAbs) : Rep (x - y) := by
  obtain ⟨e, a1, a2⟩ := hx.dvd
  obtain ⟨f, b1, b2⟩ := hy.dvd
  by_cases hef : e ≤ f
  · exact rep_of_dvd (Int.dvd_sub a1 (dvd_wk hef b1)) (by omega)
  · exact rep_of_dvd (Int.dvd_sub (dvd_wk (by omega) a1) b1) (by omega)

/-- The steps of a fast sum. -/
theorem fast_two_sum {a b s d t : Int} (ha : Rep a) (hb : Rep b) (hab : b.natAbs ≤ a.natAbs) (h1 : IsRN (a + b) s) (h2 : IsRN (s - a) d) (h3 : IsRN (b - d) t) : t = a + b - s := by
  have hd := h2.exact (fast_exact ha hb hab h1)
  have he := err_rep ha hb h1
  rw [hd, show b - (s - a) = a + b - s by omega] at h3
  exact h3.exact he

/-- The steps of a sum of any two. -/
theorem two_sum {a b s x y p q t : Int} (ha : Rep a) (hb : Rep b) (h1 : IsRN (a + b) s) (h2 : IsRN (s - a) x) (h3 : IsRN (s - x) y) (h4 : IsRN (a - y) p) (h5 : IsRN (b - x) q) (h6 : IsRN (p + q) t) : t = a + b - s := by
  have he := err_rep ha hb h1
  by_cases hx : x = s - a
  · have hy : y = a := by
      rw [show s - x = a by omega] at h3; exact h3.exact ha
    have hp : p = 0 := by rw [show a - y = 0 by omega] at h4; exact h4.exact rep_zero
    have hq : q = a + b - s := by rw [show b - x = a + b - s by omega] at h5; exact h5.exact he
    rw [show p + q = a + b - s by omega] at h6
    exact h6.exact he
  have hrep : ¬ Rep (s - a) := fun h => hx (h2.exact h)
  have hlt : a.natAbs < b.natAbs := by
    refine Classical.byContradiction fun hc => hrep (fast_exact ha hb (by omega) h1)
  have hsn : s ≠ a + b := fun h => hrep (by rw [h, show a + b - a = b by omega]; exact hb)
  have hnr : ¬ Rep (a + b) := fun h => hsn (h1.exact h)
  have hsa : a.natAbs ≤ s.natAbs := by
    refine Classical.byContradiction fun hc => ?_
    have n1 := h1.near a ha
    have n2 := h1.near b hb
    have n3 := h1.near _ ha.neg
    have n4 := h1.near _ hb.neg
    refine hnr ?_
    have hst := sterbenz (x := a) (y := -b) ha hb.neg (by omega) (by omega)
    rwa [show a - -b = a + b by omega] at hst
  have hy : y = s - x := by
    have hf := fast_exact (a := s) (b := -a) h1.rep ha.neg (by omega) (by rwa [show s + -a = s - a by omega])
    have : Rep (s - x) := by have := hf.neg; rwa [show -(x - s) = s - x by omega] at this
    exact h3.exact this
  have hp : p = a - s + x := by
    have hr := err_rep (a := s) (b := -a) h1.rep ha.neg (by rwa [show s + -a = s - a by omega])
    have : Rep (a - y) := by have := hr.neg; rwa [show -(s + -a - x) = a - y by omega] at this
    have := h4.exact this
    omega
  have hq : q = b - x := by
    have hn53 : 2 ^ 53 < (a + b).natAbs := by
      refine Classical.byContradiction fun hc => hnr (rep_small (by omega))
    have hc53 : 2 ^ 53 < (s - a).natAbs := by
      refine Classical.byContradiction fun hc => hrep (rep_small (by omega))
    obtain ⟨F, hF1, hF2⟩ := place _ hn53
    obtain ⟨G, hG1, hG2⟩ := place _ hc53
    have e1 := h1.err hF2
    have e2 := h2.err hG2
    have hG3 : (2 : Nat) ^ (G + 1) = 2 * 2 ^ G := by rw [Nat.pow_succ]; omega
    have hxG : (2 : Int) ^ (G + 1) ∣ x := h2.unit (by omega)
    obtain ⟨f, b1, b2⟩ := hb.dvd
    refine h5.exact ?_
    by_cases hfG : G + 1 ≤ f
    · refine rep_of_dvd (e := G + 1) (Int.dvd_sub (dvd_wk hfG b1) hxG) ?_
      have hFG : F ≤ G + 3 := by
        refine Classical.byContradiction fun hc => ?_
        have : 2 ^ (G + 4) ≤ 2 ^ F := pow_mono_nat (by omega)
        rw [Nat.pow_add] at this
        omega
      have : 2 ^ F ≤ 2 ^ (G + 3) := pow_mono_nat hFG
      rw [Nat.pow_add] at this
      omega
    · refine rep_of_dvd (e := f) (Int.dvd_sub b1 (dvd_wk (by omega) hxG)) ?_
      have hFf : F ≤ f + 1 := by
        refine Classical.byContradiction fun hc => ?_
        have : 2 ^ (f + 2) ≤ 2 ^ F := pow_mono_nat (by omega)
        rw [Nat.pow_add] at this
        omega
      have : 2 ^ F ≤ 2 ^ (f + 1) := pow_mono_nat hFf
      rw [Nat.pow_add] at this
      have hGf : G ≤ f := by
        refine Classical.byContradiction fun hc => ?_
        have : 2 ^ (f + 1) ≤ 2 ^ G := pow_mono_nat (by omega)
        rw [Nat.pow_add] at this
        omega
      have : 2 ^ G ≤ 2 ^ f := pow_mono_nat hGf
      omega
  rw [show p + q = a + b - s by omega] at h6
  exact h6.exact he

end EftPure
