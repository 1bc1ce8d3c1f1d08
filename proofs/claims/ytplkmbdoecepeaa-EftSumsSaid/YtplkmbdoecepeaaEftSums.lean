/- EftSums without the program: expansions are exact, their sign is that of their last number. -/
import Derived.Test.YtplkmbdoecepeaaEftExp
import Derived.Test.YtplkmbdoecepeaaEftPlain2
namespace EftPure
open Go
set_option linter.unusedVariables false

def Wl (l : List Nat) : Prop := ∀ x ∈ l, x < 18446744073709551616
theorem Wl.nil : Wl [] := fun x h => by cases h
theorem Wl.kept {acc : List Nat} {x : Nat} (h : Wl acc) (hx : x < 18446744073709551616) : Wl (keptL acc x) := by
  unfold keptL
  split
  · intro y hy
    rcases List.mem_append.1 hy with h1 | h1
    · exact h y h1
    · rw [List.mem_singleton.1 h1]; exact hx
  · exact h

theorem GrowR.total2 {l : List Nat} {L : List Int} (hl : IsL l L) : ∀ {q : Nat} {Q : Int} {acc : List Nat} {Acc : List Int}, IsF q Q → q < 18446744073709551616 → IsL acc Acc → Wl acc → ∀ {c : Nat}, Q.natAbs + 2 * sumAbs L ≤ 2 ^ c → c + 6 ≤ TT →
    ∃ out, Wl out ∧ IsL out (growI L Q Acc) ∧ ∀ out', GrowR l q acc out' → out' = out := by
  induction hl with
  | nil =>
    intro q Q acc Acc hq wq ha wa c _ _
    exact ⟨_, wa.kept wq, ha.kept hq, fun out' h => by cases h; rfl⟩
  | @cons x X l L hx _ ih =>
    intro q Q acc Acc hq wq ha wa c hb hc
    simp only [sumAbs] at hb
    obtain ⟨s, t, wst, f1, f2, _, det⟩ := TSR.total2 hq hx (c := c) (by omega) (by omega) hc
    obtain ⟨_, _, e3⟩ := err_le hq.rep hx.rep
    obtain ⟨out, w1, o1, o2⟩ := ih f1 wst.1 (ha.kept f2) (wa.kept wst.2) (c := c) (by omega) hc
    refine ⟨out, w1, o1, fun out' h => ?_⟩
    cases h with
    | cons ht hg =>
      obtain ⟨rfl, rfl⟩ := det _ _ ht
      exact o2 _ hg

theorem SumR.total2 {l : List Nat} {L : List Int} (hl : IsL l L) (wl : Wl l) {h : Nat} (hL : ∀ x ∈ L, x.natAbs ≤ 2 ^ h) : ∀ {acc : List Nat} {Acc : List Int} {k : Nat}, IsL acc Acc → Wl acc → sumAbs Acc ≤ 2 ^ (h + 2 * k) → h + 2 * (k + l.length) + 8 ≤ TT →
    ∃ out, Wl out ∧ IsL out (sumI L Acc) ∧ ∀ out', SumR l acc out' → out' = out := by
  induction hl with
  | nil =>
    intro acc Acc k ha wa _ _
    exact ⟨_, wa, ha, fun out' h => by cases h; rfl⟩
  | @cons x X l L hx _ ih =>
    intro acc Acc k ha wa hs ht
    have hX := hL X (by simp)
    have hh : 2 ^ h ≤ 2 ^ (h + 2 * k) := pow_mono_nat (by omega)
    have hup := pow_two_up h k
    simp only [List.length_cons] at ht
    obtain ⟨mid, wm, m1, m2⟩ := GrowR.total2 ha hx (wl _ (by simp)) .nil Wl.nil (c := h + 2 * (k + 1)) (by omega) (by omega)
    have hga := grow_abs ha.rep (q := X) (acc := []) hx.rep
    simp only [sumAbs] at hga
    obtain ⟨out, w1, o1, o2⟩ := ih (fun y hy => wl y (by simp [hy])) (fun y hy => hL y (by simp [hy])) (k := k + 1) m1 wm (by omega) (by omega)
    refine ⟨out, w1, o1, fun out' hr => ?_⟩
    cases hr with
    | cons hg hr =>
      obtain rfl := m2 _ hg
      exact o2 _ hr

theorem ScaleR.total2 {b : Nat} {B : Int} (hb : IsF b B) (mb : Mod B) {l : List Nat} {L : List Int} (hl : IsL l L) (hL : ∀ x ∈ L, Mod x) : ∀ {acc : List Nat} {Acc : List Int} {k : Nat}, IsL acc Acc → Wl acc → sumAbs Acc ≤ 2 ^ (1875 + 2 * k) → 1875 + 2 * (k + 2 * l.length) + 8 ≤ TT →
    ∃ out, Wl out ∧ IsL out (scaleI B L Acc) ∧ ∀ out', ScaleR b l acc out' → out' = out := by
  induction hl with
  | nil =>
    intro acc Acc k ha wa _ _
    exact ⟨_, wa, ha, fun out' h => by cases h; rfl⟩
  | @cons x X l L hx _ ih =>
    intro acc Acc k ha wa hs ht
    have mx := hL X (by simp)
    obtain ⟨m1, m2, m3⟩ := mod_bounds
    obtain ⟨p, e, P, wpe, hP, f1, f2, b1, b2, det⟩ := TPR.total2 hb hx mb.fit mx.fit mb.le mx.le m1 m2 m3
    obtain ⟨h, hh⟩ : ∃ h : Nat, h = 1875 := ⟨_, rfl⟩
    rw [← hh] at hs ht
    have b1' : (rnI P).natAbs ≤ 2 ^ h := le_pow b1 (by omega)
    have b2' : (P - rnI P).natAbs ≤ 2 ^ h := le_pow b2 (by omega)
    have e1 : 2 ^ h ≤ 2 ^ (h + 2 * k) := pow_mono_nat (by omega)
    have u1 := pow_two_up h k
    have u2 := pow_two_up h (k + 1)
    simp only [List.length_cons] at ht
    obtain ⟨mid, wm, g1, g2⟩ := GrowR.total2 ha f2 wpe.2 .nil Wl.nil (c := h + 2 * (k + 1)) (by omega) (by omega)
    have a1 := grow_abs ha.rep (q := P - rnI P) (acc := []) f2.rep
    simp only [sumAbs] at a1
    obtain ⟨mid2, wm2, g3, g4⟩ := GrowR.total2 g1 f1 wpe.1 .nil Wl.nil (c := h + 2 * (k + 1 + 1)) (by omega) (by omega)
    have a2 := grow_abs g1.rep (q := rnI P) (acc := []) f1.rep
    simp only [sumAbs] at a2
    obtain ⟨out, w1, o1, o2⟩ := ih (fun y hy => hL y (by simp [hy])) (k := k + 1 + 1) g3 wm2 (by rw [← hh]; omega) (by rw [← hh]; omega)
    refine ⟨out, w1, ?_, fun out' hr => ?_⟩
    · simp only [scaleI, prodI_of hP]; exact o1
    · cases hr with
      | cons hp h1 h2 hr =>
        obtain ⟨rfl, rfl⟩ := det _ _ hp
        obtain rfl := g2 _ h1
        obtain rfl := g4 _ h2
        exact o2 _ hr


def isum : List Int → Int
  | [] => 0
  | x :: l => x + isum l
theorem isum_append (l m : List Int) : isum (l ++ m) = isum l + isum m := by
  induction l with
  | nil => simp [isum]
  | cons x l ih => simp only [List.cons_append, isum, ih]; omega
theorem isum_kept (acc : List Int) (x : Int) : isum (keptI acc x) = isum acc + x := by
  unfold keptI
  split
  · rename_i h; subst h; simp
  · simp [isum_append, isum]
theorem isum_grow (L : List Int) : ∀ (q : Int) (acc : List Int), isum (growI L q acc) = isum acc + q + isum L := by
  induction L with
  | nil => intro q acc; simp only [growI, isum_kept, isum]; omega
  | cons x l ih => intro q acc; simp only [growI, ih, isum_kept, isum]; omega
theorem isum_sum (L : List Int) : ∀ (acc : List Int), isum (sumI L acc) = isum acc + isum L := by
  induction L with
  | nil => intro acc; simp [sumI, isum]
  | cons x l ih => intro acc; simp only [sumI, ih, isum_grow, isum]; omega
theorem isum_scale {b : Int} (L : List Int) (h : ∀ x ∈ L, ∃ P, b * x = P * 2 ^ DD) : ∀ (acc : List Int), isum (scaleI b L acc) * 2 ^ DD = isum acc * 2 ^ DD + isum L * b := by
  induction L with
  | nil => intro acc; simp [scaleI, isum]
  | cons x l ih =>
    intro acc
    obtain ⟨P, hP⟩ := h x (by simp)
    have e := prodI_of hP
    simp only [scaleI, ih (fun y hy => h y (by simp [hy])), isum_grow, isum, e]
    rw [show (0 : Int) + rnI P + (0 + (P - rnI P) + isum acc) = isum acc + P by omega, Int.add_mul, ← hP, Int.add_mul x, Int.mul_comm b x]
    omega

/-- The whole of the first lies below the least bit of the second. -/
def Pre (x y : Int) : Prop := ∃ k : Nat, x.natAbs < 2 ^ k ∧ (2 : Int) ^ k ∣ y
theorem pre_zero_left (y : Int) : Pre 0 y := ⟨0, by decide, by simp⟩

theorem pre_err (z : Int) : Pre (z - rnI z) (rnI z) := by
  by_cases h : z.natAbs ≤ 2 ^ 53
  · rw [rnI_rep (rep_small h), Int.sub_self]; exact pre_zero_left _
  · obtain ⟨F, h1, h2⟩ := place z.natAbs (by omega)
    have e := (isRN_rnI z).err h2
    have u := (isRN_rnI z).unit (F := F + 1) (by rw [Nat.pow_succ]; omega)
    refine ⟨F + 1, ?_, u⟩
    have : 2 ^ (F + 1) = 2 * 2 ^ F := by rw [Nat.pow_succ]; omega
    have := Nat.two_pow_pos F
    omega

theorem Pre.least {h q x : Int} (h1 : Pre h q) (h2 : Pre h x) : ∃ k : Nat, h.natAbs < 2 ^ k ∧ (2 : Int) ^ k ∣ q ∧ (2 : Int) ^ k ∣ x := by
  obtain ⟨k, a, b⟩ := h1
  obtain ⟨j, c, d⟩ := h2
  rcases Nat.le_total k j with hkj | hkj
  · exact ⟨k, a, b, dvd_wk hkj d⟩
  · exact ⟨j, c, dvd_wk hkj b, d⟩

theorem pre_step {h q x : Int} (h1 : Pre h q) (h2 : Pre h x) : Pre h (rnI (q + x)) ∧ Pre h (q + x - rnI (q + x)) := by
  obtain ⟨k, a, b, c⟩ := h1.least h2
  have d := (isRN_rnI (q + x)).dvd (Int.dvd_add b c)
  exact ⟨⟨k, a, d⟩, ⟨k, a, Int.dvd_sub (Int.dvd_add b c) d⟩⟩

theorem kept_pre {acc : List Int} {x : Int} (h : acc.Pairwise Pre) (hx : ∀ a ∈ acc, Pre a x) : (keptI acc x).Pairwise Pre := by
  unfold keptI
  split
  · exact h
  · refine List.pairwise_append.2 ⟨h, List.pairwise_singleton _ _, fun a ha b hb => ?_⟩
    rw [List.mem_singleton.1 hb]; exact hx a ha
theorem mem_kept {acc : List Int} {x a : Int} (h : a ∈ keptI acc x) : a ∈ acc ∨ a = x := by
  unfold keptI at h
  split at h
  · exact .inl h
  · rcases List.mem_append.1 h with h | h
    · exact .inl h
    · exact .inr (List.mem_singleton.1 h)

/-- Grow of an expansion is one. -/
theorem grow_pre {L : List Int} (hr : ∀ x ∈ L, Rep x) (hp : L.Pairwise Pre) : ∀ {q : Int} {acc : List Int}, Rep q → acc.Pairwise Pre → (∀ a ∈ acc, Pre a q) → (∀ a ∈ acc, ∀ x ∈ L, Pre a x) → (growI L q acc).Pairwise Pre := by
  induction L with
  | nil => intro q acc _ ha hq _; exact kept_pre ha hq
  | cons x l ih =>
    intro q acc rq ha hq hx
    obtain ⟨hxl, hl⟩ := List.pairwise_cons.1 hp
    obtain ⟨e1, _, _⟩ := err_le rq (hr x (by simp))
    refine ih (fun y hy => hr y (by simp [hy])) hl (isRN_rnI _).rep (kept_pre ha fun a h => (pre_step (hq a h) (hx a h x (by simp))).2) ?_ ?_
    · intro a h
      rcases mem_kept h with h | rfl
      · exact (pre_step (hq a h) (hx a h x (by simp))).1
      · exact pre_err _
    · intro a h y hy
      rcases mem_kept h with h | rfl
      · exact hx a h y (by simp [hy])
      · obtain ⟨k, a1, a2⟩ := hxl y hy
        exact ⟨k, by omega, a2⟩
theorem grow_rep {L : List Int} (hr : ∀ x ∈ L, Rep x) : ∀ {q : Int} {acc : List Int}, Rep q → (∀ a ∈ acc, Rep a) → ∀ a ∈ growI L q acc, Rep a := by
  induction L with
  | nil =>
    intro q acc rq ha a h
    rcases mem_kept h with h | rfl
    · exact ha a h
    · exact rq
  | cons x l ih =>
    intro q acc rq ha
    refine ih (fun y hy => hr y (by simp [hy])) (isRN_rnI _).rep ?_
    intro a h
    rcases mem_kept h with h | rfl
    · exact ha a h
    · exact err_rep rq (hr x (by simp)) (isRN_rnI _)
theorem sum_pre {L : List Int} (hr : ∀ x ∈ L, Rep x) : ∀ {acc : List Int}, (∀ a ∈ acc, Rep a) → acc.Pairwise Pre → (sumI L acc).Pairwise Pre := by
  induction L with
  | nil => intro acc _ h; exact h
  | cons x l ih =>
    intro acc ra ha
    exact ih (fun y hy => hr y (by simp [hy])) (grow_rep ra (hr x (by simp)) (by simp)) (grow_pre ra ha (hr x (by simp)) .nil (by simp) (by simp))

theorem pow_le_abs {k : Nat} {y : Int} (h : (2 : Int) ^ k ∣ y) (h0 : y ≠ 0) : 2 ^ k ≤ y.natAbs := by
  obtain ⟨m, rfl⟩ := h
  rw [Int.natAbs_mul, Int.natAbs_pow]
  have : m.natAbs ≠ 0 := fun h => h0 (by rw [Int.natAbs_eq_zero.1 h, Int.mul_zero])
  exact Nat.le_mul_of_pos_right _ (by omega)
theorem pre_add {s x y : Int} (h1 : Pre s x) (h2 : Pre s y) (h3 : Pre x y) : Pre (s + x) y := by
  obtain ⟨i, a1, a2⟩ := h2
  by_cases h0 : x = 0
  · subst h0; exact ⟨i, by rw [Int.add_zero]; exact a1, a2⟩
  obtain ⟨j, b1, b2⟩ := h1
  obtain ⟨k, c1, c2⟩ := h3
  refine ⟨k, ?_, c2⟩
  have d := pow_le_abs b2 h0
  have hjk : j ≤ k := by
    refine Classical.byContradiction fun h => ?_
    have := pow_mono_nat (show k ≤ j by omega)
    omega
  obtain ⟨m, rfl⟩ := b2
  rw [Int.natAbs_mul, Int.natAbs_pow] at c1
  have e : (2 : Nat) ^ k = 2 ^ j * 2 ^ (k - j) := by rw [← Nat.pow_add]; congr 1; omega
  have f : m.natAbs + 1 ≤ 2 ^ (k - j) := by
    rw [e] at c1
    exact Nat.lt_of_mul_lt_mul_left c1
  have g : 2 ^ j * m.natAbs + 2 ^ j ≤ 2 ^ k := by
    rw [e, ← Nat.mul_succ]
    exact Nat.mul_le_mul_left _ f
  have h2 : ((2 : Int) ^ j * m).natAbs = 2 ^ j * m.natAbs := by rw [Int.natAbs_mul, Int.natAbs_pow]; rfl
  have h3 := Int.natAbs_add_le s (2 ^ j * m)
  omega

def sgnI' (z : Int) : Int := if z < 0 then -1 else if z = 0 then 0 else 1
/-- The sign of an expansion is that of its last number. -/
theorem sign_fold : ∀ (L : List Int) (s : Int), L.Pairwise Pre → (∀ x ∈ L, Pre s x) → (∀ x ∈ L, x ≠ 0) → sgnI' (s + isum L) = match L.getLast? with
    | none => sgnI' s
    | some y => sgnI' y
  | [], s, _, _, _ => by simp [isum]
  | [x], s, _, h, h0 => by
    obtain ⟨k, a, b⟩ := h x (by simp)
    have c := pow_le_abs b (h0 x (by simp))
    rw [show s + isum [x] = s + x by simp only [isum]; omega]
    simp only [List.getLast?_singleton, sgnI']
    have := h0 x (by simp)
    rcases Int.lt_trichotomy x 0 with h | h | h
    · rw [if_pos (by omega), if_pos h]
    · exact absurd h this
    · rw [if_neg (by omega), if_neg (by omega), if_neg (by omega), if_neg this]
  | x :: y :: l, s, hp, h, h0 => by
    obtain ⟨hx, hl⟩ := List.pairwise_cons.1 hp
    have ih := sign_fold (y :: l) (s + x) hl (fun z hz => pre_add (h x (by simp)) (h z (by simp [List.mem_cons.1 hz])) (hx z hz)) (fun z hz => h0 z (by simp [List.mem_cons.1 hz]))
    rw [List.getLast?_cons_cons]
    rw [show s + isum (x :: y :: l) = s + x + isum (y :: l) by simp only [isum]; omega, ih]
    cases hg : (y :: l).getLast? with
    | none => simp at hg
    | some z => rfl
theorem sign_sum {L : List Int} (hr : ∀ x ∈ L, Rep x) : sgnI' (isum L) = match (sumI L []).getLast? with
    | none => 0
    | some X => if X < 0 then -1 else 1 := by
  have h := sign_fold (sumI L []) 0 (sum_pre hr (by simp) .nil) (fun x _ => pre_zero_left x) (mem_sumI (by simp))
  rw [Int.zero_add, isum_sum, show isum [] + isum L = isum L by simp only [isum]; omega] at h
  rw [h]
  cases hg : (sumI L []).getLast? with
  | none => rfl
  | some X =>
    have := mem_sumI (L := L) (acc := []) (by simp) X (List.mem_of_getLast? hg)
    simp [sgnI', this]
theorem isum_abs (L : List Int) : (isum L).natAbs ≤ sumAbs L := by
  induction L with
  | nil => simp [isum, sumAbs]
  | cons x l ih => simp only [isum, sumAbs]; omega

/-- All that EftSums says. -/
theorem sums_mod {l : List Nat} {b : Nat} (hl : modsB l 32 = true) (wl : Wl l) (hb : modB b = true) (wb : b < 18446744073709551616) : ∃ (L G S C : List Int) (B : Int) (g s c : List Nat), IsL l L ∧ (∀ x ∈ L, Mod x) ∧ IsF b B ∧ Mod B ∧
    IsL g G ∧ IsL s S ∧ IsL c C ∧ Wl g ∧ Wl s ∧ Wl c ∧ (∀ out, GrowR l b [] out → out = g) ∧ (∀ out, SumR l [] out → out = s) ∧ (∀ out, ScaleR b l [] out → out = c) ∧
    isum S = isum L ∧ isum G = isum L + B ∧ isum L * B = isum C * 2 ^ DD ∧ signL s = sgnI' (isum L) ∧ l.length ≤ 32 ∧ g.length ≤ 33 ∧ s.length ≤ 32 ∧ c.length ≤ 64 := by
  obtain ⟨⟨L, hL, mL⟩, hn⟩ := mods_val hl
  obtain ⟨B, hB, fB, lB⟩ := modB_val hb
  have hlen := hL.len
  have e1 := HI_eq
  have e2 := TT_eq
  have hs := sumAbs_le mL (n := 6) (by omega)
  obtain ⟨g, wg, g1, g2⟩ := GrowR.total2 hL hB wb .nil Wl.nil (c := 6 + HI + 2) (by
    have h3 : (2 : Nat) ^ (6 + HI + 2) = 4 * 2 ^ (6 + HI) := by rw [Nat.pow_add]; omega
    have h4 : 2 ^ HI ≤ 2 ^ (6 + HI) := pow_mono_nat (by omega)
    omega) (by omega)
  obtain ⟨s, ws, s1, s2⟩ := SumR.total2 hL wl (fun x hx => (mL x hx).le) (k := 0) .nil Wl.nil (by simp [sumAbs]) (by omega)
  obtain ⟨c, wc, c1, c2⟩ := ScaleR.total2 hB ⟨fB, lB⟩ hL mL (k := 0) .nil Wl.nil (Nat.zero_le _) (by omega)
  have hsg := signL_val s1 (mem_sumI (by simp))
  have k1 := growI_len L B []
  have k2 := sumI_len L []
  have k3 := scaleI_len B L []
  have n1 := g1.len
  have n2 := s1.len
  have n3 := c1.len
  simp at k1 k2 k3
  obtain ⟨m1, m2, m3⟩ := mod_bounds
  have hsc := isum_scale (b := B) L (fun x hx => by
    obtain ⟨X, iX⟩ : ∃ x', IsF x' x := by
      clear hs g1 s1 c1 hlen k1 k2 k3 n1 n2 n3 hsg g2 s2 c2 wl hn hl mL
      induction hL with
      | nil => cases hx
      | @cons y Y l' L' hy _ ih =>
        rcases List.mem_cons.1 hx with rfl | h
        · exact ⟨_, hy⟩
        · exact ih h
    obtain ⟨p, e, P, _, hP, _⟩ := TPR.total2 hB iX fB (mL x hx).fit lB (mL x hx).le m1 m2 m3
    exact ⟨P, hP⟩) []
  refine ⟨L, _, _, _, B, g, s, c, hL, mL, hB, ⟨fB, lB⟩, g1, s1, c1, wg, ws, wc, g2, s2, c2, ?_, ?_, ?_, ?_, by omega, by omega, by omega, by omega⟩
  · rw [isum_sum]; simp only [isum]; omega
  · rw [isum_grow]; simp only [isum]; omega
  · rw [hsc]; simp only [isum]; omega
  · exact hsg.2.trans (sign_sum (fun x hx => hL.rep x hx)).symm
end EftPure
