/- Expansions over whole numbers: what Grow, Sum and Scale come to at lists of floats that are not too great. -/
import Derived.Test.YtplkmbdoecepeaaEftLists
namespace EftPure
open Go

/-- Lists of floats and the whole numbers that they stand for. -/
inductive IsL : List Nat → List Int → Prop
  | nil : IsL [] []
  | cons {x : Nat} {X : Int} {l : List Nat} {L : List Int} : IsF x X → IsL l L → IsL (x :: l) (X :: L)

theorem IsL.append {l m : List Nat} {L M : List Int} (h : IsL l L) (k : IsL m M) : IsL (l ++ m) (L ++ M) := by
  induction h with
  | nil => exact k
  | cons hx _ ih => exact .cons hx ih
theorem IsL.len {l : List Nat} {L : List Int} (h : IsL l L) : l.length = L.length := by
  induction h with
  | nil => rfl
  | cons _ _ ih => simp [ih]

theorem nz_val {x : Nat} {X : Int} (h : IsF x X) : nz x = decide (X ≠ 0) := by
  have e : Ieee.double.order x 0 = some (compare X 0) := order_val h isF_zero
  have e' : FloatKind.f64.format.order x 0 = some (compare X 0) := e
  unfold nz
  rw [e']
  by_cases h0 : X = 0
  · subst h0; rfl
  · rw [decide_eq_true h0, bne_iff_ne]
    intro hc
    exact h0 (Int.compare_eq_eq.1 (Option.some.inj hc))

def keptI (acc : List Int) (x : Int) : List Int := if x = 0 then acc else acc ++ [x]
theorem IsL.kept {acc : List Nat} {Acc : List Int} {x : Nat} {X : Int} (h : IsL acc Acc) (hx : IsF x X) : IsL (keptL acc x) (keptI Acc X) := by
  unfold keptL keptI
  rw [nz_val hx]
  by_cases h0 : X = 0
  · rw [if_pos h0, if_neg (by simp [h0])]; exact h
  · rw [if_neg h0, if_pos (by simp [h0])]; exact h.append (.cons hx .nil)

def growI : List Int → Int → List Int → List Int
  | [], q, acc => keptI acc q
  | x :: l, q, acc => growI l (rnI (q + x)) (keptI acc (q + x - rnI (q + x)))
def sumI : List Int → List Int → List Int
  | [], acc => acc
  | x :: l, acc => sumI l (growI acc x [])
def prodI (b x : Int) : Int := (b * x) / 2 ^ DD
def scaleI (b : Int) : List Int → List Int → List Int
  | [], acc => acc
  | x :: l, acc => scaleI b l (growI (growI acc (prodI b x - rnI (prodI b x)) []) (rnI (prodI b x)) [])

def sumAbs : List Int → Nat
  | [] => 0
  | x :: l => x.natAbs + sumAbs l
theorem sumAbs_append (l m : List Int) : sumAbs (l ++ m) = sumAbs l + sumAbs m := by
  induction l with
  | nil => simp [sumAbs]
  | cons x l ih => simp only [List.cons_append, sumAbs, ih]; omega
theorem sumAbs_kept (acc : List Int) (x : Int) : sumAbs (keptI acc x) = sumAbs acc + x.natAbs := by
  unfold keptI
  split
  · rename_i h; subst h; simp
  · simp [sumAbs_append, sumAbs]

/-- The error is at most each of the two. -/
theorem err_le {q x : Int} (hq : Rep q) (hx : Rep x) : (q + x - rnI (q + x)).natAbs ≤ x.natAbs ∧ (q + x - rnI (q + x)).natAbs ≤ q.natAbs ∧ (rnI (q + x)).natAbs ≤ q.natAbs + 2 * x.natAbs := by
  have h1 := (isRN_rnI (q + x)).near q hq
  have h2 := (isRN_rnI (q + x)).near x hx
  omega

theorem grow_abs {L : List Int} (hL : ∀ x ∈ L, Rep x) : ∀ {q : Int} {acc : List Int}, Rep q → sumAbs (growI L q acc) ≤ sumAbs acc + q.natAbs + 3 * sumAbs L := by
  induction L with
  | nil => intro q acc _; simp only [growI, sumAbs_kept, sumAbs]; omega
  | cons x l ih =>
    intro q acc hq
    obtain ⟨e1, _, e3⟩ := err_le hq (hL x (by simp))
    have := ih (fun y hy => hL y (by simp [hy])) (q := rnI (q + x)) (acc := keptI acc (q + x - rnI (q + x))) (isRN_rnI _).rep
    simp only [growI, sumAbs]
    rw [sumAbs_kept] at this
    omega

theorem IsL.rep {l : List Nat} {L : List Int} (h : IsL l L) : ∀ x ∈ L, Rep x := by
  induction h with
  | nil => intro x hx; cases hx
  | cons hx _ ih =>
    intro y hy
    rcases List.mem_cons.1 hy with rfl | hy
    · exact hx.rep
    · exact ih y hy

theorem GrowR.total {l : List Nat} {L : List Int} (hl : IsL l L) : ∀ {q : Nat} {Q : Int} {acc : List Nat} {Acc : List Int}, IsF q Q → IsL acc Acc → ∀ {c : Nat}, Q.natAbs + 2 * sumAbs L ≤ 2 ^ c → c + 6 ≤ TT →
    ∃ out, IsL out (growI L Q Acc) ∧ ∀ out', GrowR l q acc out' → out' = out := by
  induction hl with
  | nil =>
    intro q Q acc Acc hq ha c _ _
    exact ⟨_, ha.kept hq, fun out' h => by cases h; rfl⟩
  | @cons x X l L hx _ ih =>
    intro q Q acc Acc hq ha c hb hc
    simp only [sumAbs] at hb
    obtain ⟨s, t, f1, f2, _, det⟩ := TSR.total hq hx (c := c) (by omega) (by omega) hc
    obtain ⟨_, _, e3⟩ := err_le hq.rep hx.rep
    obtain ⟨out, o1, o2⟩ := ih f1 (ha.kept f2) (c := c) (by omega) hc
    refine ⟨out, o1, fun out' h => ?_⟩
    cases h with
    | cons ht hg =>
      obtain ⟨rfl, rfl⟩ := det _ _ ht
      exact o2 _ hg

theorem pow_two_up (h k : Nat) : (2 : Nat) ^ (h + 2 * (k + 1)) = 4 * 2 ^ (h + 2 * k) := by
  rw [show h + 2 * (k + 1) = h + 2 * k + 2 by omega, Nat.pow_add]; omega

theorem SumR.total {l : List Nat} {L : List Int} (hl : IsL l L) {h : Nat} (hL : ∀ x ∈ L, x.natAbs ≤ 2 ^ h) : ∀ {acc : List Nat} {Acc : List Int} {k : Nat}, IsL acc Acc → sumAbs Acc ≤ 2 ^ (h + 2 * k) → h + 2 * (k + l.length) + 8 ≤ TT →
    ∃ out, IsL out (sumI L Acc) ∧ ∀ out', SumR l acc out' → out' = out := by
  induction hl with
  | nil =>
    intro acc Acc k ha _ _
    exact ⟨_, ha, fun out' h => by cases h; rfl⟩
  | @cons x X l L hx _ ih =>
    intro acc Acc k ha hs ht
    have hX := hL X (by simp)
    have hh : 2 ^ h ≤ 2 ^ (h + 2 * k) := pow_mono_nat (by omega)
    have hup := pow_two_up h k
    simp only [List.length_cons] at ht
    obtain ⟨mid, m1, m2⟩ := GrowR.total ha hx .nil (c := h + 2 * (k + 1)) (by omega) (by omega)
    have hga := grow_abs ha.rep (q := X) (acc := []) hx.rep
    simp only [sumAbs] at hga
    obtain ⟨out, o1, o2⟩ := ih (fun y hy => hL y (by simp [hy])) (k := k + 1) m1 (by omega) (by omega)
    refine ⟨out, o1, fun out' hr => ?_⟩
    cases hr with
    | cons hg hr =>
      obtain rfl := m2 _ hg
      exact o2 _ hr

/-- A moderate float's whole number. -/
structure Mod (X : Int) : Prop where
  fit : Fit X
  le : X.natAbs ≤ 2 ^ HI

theorem prodI_of {b x P : Int} (h : b * x = P * 2 ^ DD) : prodI b x = P := by
  unfold prodI
  rw [h]
  exact Int.mul_ediv_cancel _ (Int.ne_of_gt (pow_pos DD))

theorem ScaleR.total {b : Nat} {B : Int} (hb : IsF b B) (mb : Mod B) {l : List Nat} {L : List Int} (hl : IsL l L) (hL : ∀ x ∈ L, Mod x) : ∀ {acc : List Nat} {Acc : List Int} {k : Nat}, IsL acc Acc → sumAbs Acc ≤ 2 ^ (1875 + 2 * k) → 1875 + 2 * (k + 2 * l.length) + 8 ≤ TT →
    ∃ out, IsL out (scaleI B L Acc) ∧ ∀ out', ScaleR b l acc out' → out' = out := by
  induction hl with
  | nil =>
    intro acc Acc k ha _ _
    exact ⟨_, ha, fun out' h => by cases h; rfl⟩
  | @cons x X l L hx _ ih =>
    intro acc Acc k ha hs ht
    have mx := hL X (by simp)
    obtain ⟨m1, m2, m3⟩ := mod_bounds
    obtain ⟨p, e, P, hP, f1, f2, b1, b2, det⟩ := TPR.total hb hx mb.fit mx.fit mb.le mx.le m1 m2 m3
    obtain ⟨h, hh⟩ : ∃ h : Nat, h = 1875 := ⟨_, rfl⟩
    rw [← hh] at hs ht
    have b1' : (rnI P).natAbs ≤ 2 ^ h := le_pow b1 (by omega)
    have b2' : (P - rnI P).natAbs ≤ 2 ^ h := le_pow b2 (by omega)
    have e1 : 2 ^ h ≤ 2 ^ (h + 2 * k) := pow_mono_nat (by omega)
    have u1 := pow_two_up h k
    have u2 := pow_two_up h (k + 1)
    simp only [List.length_cons] at ht
    obtain ⟨mid, g1, g2⟩ := GrowR.total ha f2 .nil (c := h + 2 * (k + 1)) (by omega) (by omega)
    have a1 := grow_abs ha.rep (q := P - rnI P) (acc := []) f2.rep
    simp only [sumAbs] at a1
    obtain ⟨mid2, g3, g4⟩ := GrowR.total g1 f1 .nil (c := h + 2 * (k + 1 + 1)) (by omega) (by omega)
    have a2 := grow_abs g1.rep (q := rnI P) (acc := []) f1.rep
    simp only [sumAbs] at a2
    obtain ⟨out, o1, o2⟩ := ih (fun y hy => hL y (by simp [hy])) (k := k + 1 + 1) g3 (by rw [← hh]; omega) (by rw [← hh]; omega)
    refine ⟨out, ?_, fun out' hr => ?_⟩
    · simp only [scaleI, prodI_of hP]; exact o1
    · cases hr with
      | cons hp h1 h2 hr =>
        obtain ⟨rfl, rfl⟩ := det _ _ hp
        obtain rfl := g2 _ h1
        obtain rfl := g4 _ h2
        exact o2 _ hr

theorem sameB_self {l : List Nat} {L : List Int} (h : IsL l L) : sameB l l = true := by
  induction h with
  | nil => rfl
  | cons hx _ ih => rw [sameB, self_eq hx, ih]; rfl

theorem mem_growI {L : List Int} : ∀ {q : Int} {acc : List Int}, (∀ x ∈ acc, x ≠ 0) → ∀ x ∈ growI L q acc, x ≠ 0 := by
  have kept : ∀ {acc : List Int} {q : Int}, (∀ x ∈ acc, x ≠ 0) → ∀ x ∈ keptI acc q, x ≠ 0 := by
    intro acc q ha x hx
    unfold keptI at hx
    split at hx
    · exact ha x hx
    · rcases List.mem_append.1 hx with h | h
      · exact ha x h
      · rw [List.mem_singleton.1 h]; assumption
  induction L with
  | nil => intro q acc ha; exact kept ha
  | cons y l ih => intro q acc ha; exact ih (kept ha)
theorem mem_sumI {L : List Int} : ∀ {acc : List Int}, (∀ x ∈ acc, x ≠ 0) → ∀ x ∈ sumI L acc, x ≠ 0 := by
  induction L with
  | nil => intro acc ha; exact ha
  | cons y l ih => intro acc _; exact ih (mem_growI (by simp))

theorem last_isL {l : List Nat} {L : List Int} (h : IsL l L) {x : Nat} (hx : l.getLast? = some x) : ∃ X, IsF x X ∧ L.getLast? = some X := by
  induction h with
  | nil => cases hx
  | @cons y Y l L hy hl ih =>
    cases hl with
    | nil => simp at hx ⊢; exact hx ▸ hy
    | @cons z Z l' L' hz hl' =>
      rw [List.getLast?_cons_cons] at hx ⊢
      exact ih hx

/-- The sign of a list is that of its last number. -/
theorem signL_val {l : List Nat} {L : List Int} (h : IsL l L) (h0 : ∀ x ∈ L, x ≠ 0) : signL l = signL' l ∧ signL l = match L.getLast? with
    | none => 0
    | some X => if X < 0 then -1 else 1 := by
  unfold signL signL'
  cases hx : l.getLast? with
  | none =>
    have : l = [] := List.getLast?_eq_none_iff.1 hx
    subst this
    cases h
    exact ⟨rfl, rfl⟩
  | some x =>
    obtain ⟨X, hX, hL⟩ := last_isL h hx
    have hne := h0 X (List.mem_of_getLast? hL)
    have e : FloatKind.f64.format.order x 0 = some (compare X 0) := order_val hX isF_zero
    rw [hL]
    dsimp only
    rw [e]
    rcases Int.lt_trichotomy X 0 with h | h | h
    · rw [Int.compare_eq_lt.2 h]; simp [h]
    · exact absurd h hne
    · rw [Int.compare_eq_gt.2 h]
      have : ¬ X < 0 := by omega
      simp [this]

theorem mods_val {l : List Nat} {n : Int} (h : modsB l n = true) : (∃ L, IsL l L ∧ ∀ x ∈ L, Mod x) ∧ (l.length : Int) ≤ n := by
  unfold modsB at h
  rw [Bool.and_eq_true] at h
  refine ⟨?_, of_decide_eq_true h.2⟩
  have h1 := List.all_eq_true.1 h.1
  clear h
  induction l with
  | nil => exact ⟨[], .nil, by simp⟩
  | cons x l ih =>
    obtain ⟨L, hL, hm⟩ := ih (fun y hy => h1 y (by simp [hy]))
    obtain ⟨X, hX, f, b⟩ := modB_val (h1 x (by simp))
    refine ⟨X :: L, .cons hX hL, fun y hy => ?_⟩
    rcases List.mem_cons.1 hy with rfl | hy
    · exact ⟨f, b⟩
    · exact hm y hy

theorem sumAbs_le {L : List Int} (hL : ∀ x ∈ L, Mod x) {n : Nat} (hn : L.length ≤ 2 ^ n) : sumAbs L ≤ 2 ^ (n + HI) := by
  have key : sumAbs L ≤ L.length * 2 ^ HI := by
    clear hn
    induction L with
    | nil => simp [sumAbs]
    | cons x l ih =>
      have h1 := (hL x (by simp)).le
      have h2 := ih (fun y hy => hL y (by simp [hy]))
      simp only [sumAbs, List.length_cons, Nat.add_mul]
      omega
  rw [Nat.pow_add]
  exact Nat.le_trans key (Nat.mul_le_mul_right _ hn)

/-- All that the lists' functions give at moderate lists. -/
theorem lists_mod {l : List Nat} {b : Nat} (hl : modsB l 64 = true) (hb : modB b = true) : ∃ (L : List Int) (B : Int) (g s : List Nat), IsL l L ∧ (∀ x ∈ L, Mod x) ∧ IsF b B ∧ Mod B ∧
    IsL g (growI L B []) ∧ (∀ out, GrowR l b [] out → out = g) ∧ IsL s (sumI L []) ∧ (∀ out, SumR l [] out → out = s) ∧
    sameB g g = true ∧ sameB s s = true ∧ signL s = signL' s ∧ (l.length ≤ 32 → ∃ c, IsL c (scaleI B L []) ∧ (∀ out, ScaleR b l [] out → out = c) ∧ sameB c c = true) := by
  obtain ⟨⟨L, hL, mL⟩, hn⟩ := mods_val hl
  obtain ⟨B, hB, fB, lB⟩ := modB_val hb
  have hlen := hL.len
  have e1 := HI_eq
  have e2 := TT_eq
  have hs := sumAbs_le mL (n := 6) (by omega)
  obtain ⟨g, g1, g2⟩ := GrowR.total hL hB .nil (c := 6 + HI + 2) (by
    have h3 : (2 : Nat) ^ (6 + HI + 2) = 4 * 2 ^ (6 + HI) := by rw [Nat.pow_add]; omega
    have h4 : 2 ^ HI ≤ 2 ^ (6 + HI) := pow_mono_nat (by omega)
    omega) (by omega)
  obtain ⟨s, s1, s2⟩ := SumR.total hL (fun x hx => (mL x hx).le) (k := 0) .nil (by simp [sumAbs]) (by omega)
  have hsg := signL_val s1 (mem_sumI (by simp))
  refine ⟨L, B, g, s, hL, mL, hB, ⟨fB, lB⟩, g1, g2, s1, s2, sameB_self g1, sameB_self s1, hsg.1, fun h32 => ?_⟩
  obtain ⟨c, c1, c2⟩ := ScaleR.total hB ⟨fB, lB⟩ hL mL (k := 0) .nil (Nat.zero_le _) (by omega)
  exact ⟨c, c1, c2, sameB_self c1⟩
theorem growI_len (L : List Int) : ∀ (q : Int) (acc : List Int), (growI L q acc).length ≤ acc.length + L.length + 1 := by
  have kept : ∀ (acc : List Int) (q : Int), (keptI acc q).length ≤ acc.length + 1 := by
    intro acc q; unfold keptI; split <;> simp
  induction L with
  | nil => intro q acc; exact kept acc q
  | cons x l ih =>
    intro q acc
    have h1 := ih (rnI (q + x)) (keptI acc (q + x - rnI (q + x)))
    have h2 := kept acc (q + x - rnI (q + x))
    simp only [growI, List.length_cons]
    omega
theorem sumI_len (L : List Int) : ∀ (acc : List Int), (sumI L acc).length ≤ acc.length + L.length := by
  induction L with
  | nil => intro acc; simp [sumI]
  | cons x l ih =>
    intro acc
    have h1 := ih (growI acc x [])
    have h2 := growI_len acc x []
    simp only [sumI, List.length_cons]
    simp at h2
    omega
theorem scaleI_len (b : Int) (L : List Int) : ∀ (acc : List Int), (scaleI b L acc).length ≤ acc.length + 2 * L.length := by
  induction L with
  | nil => intro acc; simp [scaleI]
  | cons x l ih =>
    intro acc
    have h1 := ih (growI (growI acc (prodI b x - rnI (prodI b x)) []) (rnI (prodI b x)) [])
    have h2 := growI_len acc (prodI b x - rnI (prodI b x)) []
    have h3 := growI_len (growI acc (prodI b x - rnI (prodI b x)) []) (rnI (prodI b x)) []
    simp only [scaleI, List.length_cons]
    simp at h2 h3
    omega
theorem grow_len {l g : List Nat} {L : List Int} {b : Nat} {B : Int} (hl : IsL l L) (_ : IsF b B) (hn : (l.length : Int) ≤ 64) (hg : IsL g (growI L B [])) : g.length ≤ 9223372036854775807 := by
  have h1 := growI_len L B []
  have h2 := hl.len
  have h3 := hg.len
  simp at h1
  omega
theorem sum_len {l s : List Nat} {L : List Int} (hl : IsL l L) (hn : (l.length : Int) ≤ 64) (hs : IsL s (sumI L [])) : s.length ≤ 9223372036854775807 := by
  have h1 := sumI_len L []
  have h2 := hl.len
  have h3 := hs.len
  simp at h1
  omega
theorem scale_len {l s : List Nat} {L : List Int} {B : Int} (hl : IsL l L) (hn : (l.length : Int) ≤ 64) (hs : IsL s (scaleI B L [])) : s.length ≤ 9223372036854775807 := by
  have h1 := scaleI_len B L []
  have h2 := hl.len
  have h3 := hs.len
  simp at h1
  omega
end EftPure
