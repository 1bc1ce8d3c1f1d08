/- Natural numbers as lists of 64-bit words, the lowest first: plain arithmetic, no program. -/
namespace Limb

def nv : List Nat → Nat
  | [] => 0
  | x :: l => x + 2 ^ 64 * nv l
def Wf (l : List Nat) : Prop := ∀ x ∈ l, x < 2 ^ 64

theorem Wf.nil : Wf [] := by intro x hx; cases hx
theorem Wf.cons {x : Nat} {l : List Nat} (hx : x < 2 ^ 64) (hl : Wf l) : Wf (x :: l) := by
  intro y hy
  rcases List.mem_cons.1 hy with rfl | hy
  · exact hx
  · exact hl y hy
theorem Wf.append {a b : List Nat} (ha : Wf a) (hb : Wf b) : Wf (a ++ b) := by
  intro x hx
  rcases List.mem_append.1 hx with h | h
  · exact ha x h
  · exact hb x h
theorem Wf.snoc {a : List Nat} {x : Nat} (ha : Wf a) (hx : x < 2 ^ 64) : Wf (a ++ [x]) := ha.append (.cons hx .nil)
theorem Wf.take {l : List Nat} (h : Wf l) (n : Nat) : Wf (l.take n) := fun x hx => h x (List.mem_of_mem_take hx)
theorem Wf.drop {l : List Nat} (h : Wf l) (n : Nat) : Wf (l.drop n) := fun x hx => h x (List.mem_of_mem_drop hx)
theorem Wf.get {l : List Nat} (h : Wf l) {i x : Nat} (hi : l[i]? = some x) : x < 2 ^ 64 := h x (List.mem_of_getElem? hi)
theorem Wf.set {l : List Nat} (h : Wf l) {i x : Nat} (hx : x < 2 ^ 64) : Wf (l.set i x) := by
  intro y hy
  rcases List.mem_or_eq_of_mem_set hy with h1 | rfl
  · exact h y h1
  · exact hx
theorem Wf.replicate (n : Nat) : Wf (List.replicate n 0) := by
  intro x hx
  rw [List.eq_of_mem_replicate hx]; decide

theorem pw (n : Nat) : (2 : Nat) ^ (64 * (n + 1)) = 2 ^ 64 * 2 ^ (64 * n) := by rw [← Nat.pow_add]; congr 1; omega

theorem nv_append (a b : List Nat) : nv (a ++ b) = nv a + 2 ^ (64 * a.length) * nv b := by
  induction a with
  | nil => simp [nv]
  | cons x a ih =>
    simp only [List.cons_append, nv, ih, List.length_cons, pw]
    rw [Nat.mul_add, Nat.mul_assoc]; omega
theorem nv_lt {l : List Nat} (h : Wf l) : nv l < 2 ^ (64 * l.length) := by
  induction l with
  | nil => simp [nv]
  | cons x l ih =>
    have h1 := ih (fun y hy => h y (by simp [hy]))
    have h2 := h x (by simp)
    simp only [nv, List.length_cons, pw]
    have h3 : 2 ^ 64 * (nv l + 1) ≤ 2 ^ 64 * 2 ^ (64 * l.length) := Nat.mul_le_mul_left _ h1
    omega
theorem nv_replicate (n : Nat) : nv (List.replicate n 0) = 0 := by
  induction n with
  | zero => rfl
  | succ n ih => simp [List.replicate_succ, nv, ih]
theorem nv_zeros {l : List Nat} (h : ∀ x ∈ l, x = 0) : nv l = 0 := by
  induction l with
  | nil => rfl
  | cons x l ih => simp only [nv]; rw [ih (fun y hy => h y (by simp [hy])), h x (by simp)]
theorem nv_snoc (l : List Nat) (x : Nat) : nv (l ++ [x]) = nv l + 2 ^ (64 * l.length) * x := by rw [nv_append]; simp [nv]

/-- A word of a list, 0 beyond it. -/
def wd (l : List Nat) (i : Nat) : Nat := l[i]?.getD 0
theorem wd_of {l : List Nat} {i x : Nat} (h : l[i]? = some x) : wd l i = x := by unfold wd; rw [h]; rfl
theorem wd_ge {l : List Nat} {i : Nat} (h : l.length ≤ i) : wd l i = 0 := by unfold wd; rw [List.getElem?_eq_none h]; rfl
theorem wd_lt {l : List Nat} (h : Wf l) (i : Nat) : wd l i < 2 ^ 64 := by
  unfold wd
  cases hx : l[i]? with
  | none => decide
  | some x => exact h.get hx
theorem nv_take_succ (l : List Nat) (i : Nat) : nv (l.take (i + 1)) = nv (l.take i) + 2 ^ (64 * i) * wd l i := by
  by_cases h : i < l.length
  · rw [List.take_succ_eq_append_getElem h, nv_snoc, List.length_take, Nat.min_eq_left (by omega)]
    unfold wd; rw [List.getElem?_eq_getElem h]; rfl
  · rw [wd_ge (by omega), List.take_of_length_le (by omega), List.take_of_length_le (by omega)]; omega
theorem nv_take_all {l : List Nat} {n : Nat} (h : l.length ≤ n) : nv (l.take n) = nv l := by rw [List.take_of_length_le h]
theorem nv_split (l : List Nat) (n : Nat) : nv l = nv (l.take n) + 2 ^ (64 * n) * nv (l.drop n) := by
  by_cases h : n ≤ l.length
  · conv => lhs; rw [← List.take_append_drop n l]
    rw [nv_append, List.length_take, Nat.min_eq_left h]
  · rw [List.take_of_length_le (by omega), List.drop_eq_nil_of_le (by omega)]; simp [nv]
theorem nv_take_lt {l : List Nat} (h : Wf l) (n : Nat) : nv (l.take n) < 2 ^ (64 * n) := by
  refine Nat.lt_of_lt_of_le (nv_lt (h.take n)) (Nat.pow_le_pow_right (by decide) ?_)
  rw [List.length_take]; omega
theorem nv_drop {l : List Nat} (h : Wf l) (n : Nat) : nv (l.drop n) = nv l / 2 ^ (64 * n) := by
  rw [nv_split l n, Nat.add_mul_div_left _ _ (Nat.two_pow_pos _), Nat.div_eq_of_lt (nv_take_lt h n), Nat.zero_add]
theorem nv_take {l : List Nat} (h : Wf l) (n : Nat) : nv (l.take n) = nv l % 2 ^ (64 * n) := by
  rw [nv_split l n, Nat.add_mul_mod_self_left, Nat.mod_eq_of_lt (nv_take_lt h n)]
theorem nv_drop_succ {l : List Nat} {i : Nat} (h : i < l.length) : nv (l.drop i) = wd l i + 2 ^ 64 * nv (l.drop (i + 1)) := by
  rw [List.drop_eq_getElem_cons h]
  unfold wd; rw [List.getElem?_eq_getElem h]; rfl
theorem wd_eq {l : List Nat} (h : Wf l) (i : Nat) : wd l i = nv l / 2 ^ (64 * i) % 2 ^ 64 := by
  by_cases hi : i < l.length
  · rw [← nv_drop h, nv_drop_succ hi, Nat.add_mul_mod_self_left, Nat.mod_eq_of_lt (wd_lt h i)]
  · have : nv l < 2 ^ (64 * i) := Nat.lt_of_lt_of_le (nv_lt h) (Nat.pow_le_pow_right (by decide) (by omega))
    rw [wd_ge (by omega), Nat.div_eq_of_lt this]

/-- A number's words, none of them a 0 at the end. -/
def limbs (n : Nat) : List Nat := if n = 0 then [] else n % 2 ^ 64 :: limbs (n / 2 ^ 64)
termination_by n
decreasing_by exact Nat.div_lt_self (by omega) (by decide)

theorem limbs_zero : limbs 0 = [] := by rw [limbs]; simp
theorem limbs_pos {n : Nat} (h : n ≠ 0) : limbs n = n % 2 ^ 64 :: limbs (n / 2 ^ 64) := by rw [limbs]; simp [h]
theorem nv_limbs (n : Nat) : nv (limbs n) = n := by
  induction n using Nat.strongRecOn with
  | _ n ih =>
    by_cases h : n = 0
    · subst h; rw [limbs_zero]; rfl
    · rw [limbs_pos h]; simp only [nv]
      rw [ih _ (Nat.div_lt_self (by omega) (by decide))]
      exact Nat.mod_add_div n (2 ^ 64)
theorem wf_limbs (n : Nat) : Wf (limbs n) := by
  induction n using Nat.strongRecOn with
  | _ n ih =>
    by_cases h : n = 0
    · subst h; rw [limbs_zero]; exact .nil
    · rw [limbs_pos h]; exact .cons (Nat.mod_lt _ (by decide)) (ih _ (Nat.div_lt_self (by omega) (by decide)))
theorem limbs_eq_nil {n : Nat} : limbs n = [] ↔ n = 0 := by
  constructor
  · intro h; have := nv_limbs n; rw [h] at this; exact this.symm
  · rintro rfl; exact limbs_zero
theorem limbs_last (n : Nat) {x : Nat} (h : (limbs n).getLast? = some x) : x ≠ 0 := by
  induction n using Nat.strongRecOn with
  | _ n ih =>
    by_cases h0 : n = 0
    · subst h0; rw [limbs_zero] at h; cases h
    · rw [limbs_pos h0] at h
      by_cases h1 : n / 2 ^ 64 = 0
      · rw [h1, limbs_zero] at h
        simp at h
        have := Nat.mod_add_div n (2 ^ 64)
        omega
      · rw [limbs_pos h1, List.getLast?_cons_cons, ← limbs_pos h1] at h
        exact ih _ (Nat.div_lt_self (by omega) (by decide)) h
/-- A list without a 0 at its end is its number's. -/
theorem limbs_nv {l : List Nat} (h : Wf l) (hl : ∀ x, l.getLast? = some x → x ≠ 0) : limbs (nv l) = l := by
  induction l with
  | nil => exact limbs_zero
  | cons x l ih =>
    have hx := h x (by simp)
    have hw : Wf l := fun y hy => h y (by simp [hy])
    have hne : nv (x :: l) ≠ 0 := by
      intro h0
      simp only [nv] at h0
      have hl0 : nv l = 0 := by omega
      cases l with
      | nil => exact hl x rfl (by omega)
      | cons y l' =>
        have := ih hw (fun z hz => hl z (by rw [List.getLast?_cons_cons]; exact hz))
        rw [hl0, limbs_zero] at this
        cases this
    rw [limbs_pos hne]
    have e1 : nv (x :: l) % 2 ^ 64 = x := by simp only [nv]; rw [Nat.add_mul_mod_self_left, Nat.mod_eq_of_lt hx]
    have e2 : nv (x :: l) / 2 ^ 64 = nv l := by simp only [nv]; rw [Nat.add_mul_div_left _ _ (by decide), Nat.div_eq_of_lt hx, Nat.zero_add]
    rw [e1, e2]
    cases l with
    | nil => simp only [nv]; rw [limbs_zero]
    | cons y l' => rw [ih hw (fun z hz => hl z (by rw [List.getLast?_cons_cons]; exact hz))]
/-- Cutting the words 0 off the end. -/
theorem limbs_take {l : List Nat} (h : Wf l) {n : Nat} (hn : n ≤ l.length) (hz : ∀ j x, n ≤ j → l[j]? = some x → x = 0) (hl : 0 < n → ∃ x, l[n - 1]? = some x ∧ x ≠ 0) : limbs (nv l) = l.take n := by
  have e : nv l = nv (l.take n) := by
    rw [nv_split l n, nv_zeros (l := l.drop n)]
    · omega
    · intro x hx
      obtain ⟨i, hi, rfl⟩ := List.mem_iff_getElem.1 hx
      rw [List.getElem_drop]
      exact hz (n + i) _ (by omega) (List.getElem?_eq_getElem _)
  rw [e]
  refine limbs_nv (h.take n) ?_
  intro x hx
  by_cases h0 : n = 0
  · subst h0; simp at hx
  · obtain ⟨y, hy, hne⟩ := hl (by omega)
    rw [List.getLast?_eq_getElem?, List.length_take, Nat.min_eq_left hn, List.getElem?_take_of_lt (by omega), hy] at hx
    cases hx; exact hne
theorem limbs_len_le {n k : Nat} (h : n < 2 ^ (64 * k)) : (limbs n).length ≤ k := by
  induction k generalizing n with
  | zero => simp at h; subst h; simp [limbs_zero]
  | succ k ih =>
    by_cases h0 : n = 0
    · subst h0; simp [limbs_zero]
    · rw [limbs_pos h0, List.length_cons]
      have : n / 2 ^ 64 < 2 ^ (64 * k) := (Nat.div_lt_iff_lt_mul (by decide)).2 (by rw [pw, Nat.mul_comm] at h; exact h)
      have := ih this
      omega
theorem limbs_nv_len {l : List Nat} (h : Wf l) : (limbs (nv l)).length ≤ l.length := limbs_len_le (nv_lt h)
theorem limbs_ge {n k : Nat} (h : k < (limbs n).length) : 2 ^ (64 * k) ≤ n := by
  refine Classical.byContradiction fun hc => ?_
  have := limbs_len_le (n := n) (k := k) (by omega)
  omega
theorem limbs_one {n : Nat} (h0 : n ≠ 0) (h : n < 2 ^ 64) : limbs n = [n] := by
  rw [limbs_pos h0, Nat.mod_eq_of_lt h, Nat.div_eq_of_lt h, limbs_zero]
theorem limbs_inj {a b : Nat} (h : limbs a = limbs b) : a = b := by rw [← nv_limbs a, h, nv_limbs]

/-- How many bits a number has. -/
def bl (n : Nat) : Nat := if n = 0 then 0 else n.log2 + 1
theorem bl_zero : bl 0 = 0 := rfl
theorem bl_pos {n : Nat} (h : n ≠ 0) : bl n = n.log2 + 1 := by unfold bl; rw [if_neg h]
theorem bl_lt (n : Nat) : n < 2 ^ bl n := by
  unfold bl
  split
  · rename_i h; subst h; decide
  · exact Nat.lt_log2_self
theorem bl_le {n : Nat} (h : n ≠ 0) : 2 ^ (bl n - 1) ≤ n := by
  rw [bl_pos h]; exact Nat.log2_self_le h
theorem bl_eq {n k : Nat} (h1 : 2 ^ k ≤ n) (h2 : n < 2 ^ (k + 1)) : bl n = k + 1 := by
  have h0 : n ≠ 0 := by have := Nat.two_pow_pos k; omega
  rw [bl_pos h0, (Nat.log2_eq_iff h0).2 ⟨h1, h2⟩]
theorem bl_le_iff {n k : Nat} : bl n ≤ k ↔ n < 2 ^ k := by
  constructor
  · intro h; exact Nat.lt_of_lt_of_le (bl_lt n) (Nat.pow_le_pow_right (by decide) h)
  · intro h
    by_cases h0 : n = 0
    · subst h0; simp [bl_zero]
    · have := bl_le h0
      have h3 : bl n - 1 < k := (Nat.pow_lt_pow_iff_right (by decide)).1 (Nat.lt_of_le_of_lt this h)
      omega
theorem bl_mul_pow {n : Nat} (h : n ≠ 0) (k : Nat) : bl (n * 2 ^ k) = bl n + k := by
  have hp := Nat.two_pow_pos k
  have h1 := bl_le h
  have h2 := bl_lt n
  have h3 : 0 < bl n := by rw [bl_pos h]; omega
  have := bl_eq (n := n * 2 ^ k) (k := bl n - 1 + k) (by rw [Nat.pow_add]; exact Nat.mul_le_mul_right _ h1) (by
    rw [show bl n - 1 + k + 1 = bl n + k by omega, Nat.pow_add]; exact Nat.mul_lt_mul_of_pos_right h2 hp)
  omega
/-- The words' count and the last word's bits. -/
theorem bl_words {l : List Nat} (h : Wf l) {x : Nat} (hx : l.getLast? = some x) (h0 : x ≠ 0) : bl (nv l) = 64 * (l.length - 1) + bl x := by
  obtain ⟨l', rfl⟩ := List.getLast?_eq_some_iff.1 hx
  have hw : Wf l' := fun y hy => h y (by simp [hy])
  have hlt := nv_lt hw
  rw [nv_snoc]
  have h1 := bl_le h0
  have h2 := bl_lt x
  have h3 : 0 < bl x := by rw [bl_pos h0]; omega
  have key := bl_eq (n := nv l' + 2 ^ (64 * l'.length) * x) (k := 64 * l'.length + (bl x - 1)) (by
      rw [Nat.pow_add]
      have := Nat.mul_le_mul_left (2 ^ (64 * l'.length)) h1
      omega) (by
      rw [show 64 * l'.length + (bl x - 1) + 1 = 64 * l'.length + bl x by omega, Nat.pow_add]
      have := Nat.mul_le_mul_left (2 ^ (64 * l'.length)) (show x + 1 ≤ 2 ^ bl x by omega)
      rw [Nat.mul_add] at this
      omega)
  rw [key]
  simp
  omega

/-- How many bits 0 a number ends with; 0 of 0. -/
def tz (n : Nat) : Nat := if n = 0 then 0 else if n % 2 = 1 then 0 else tz (n / 2) + 1
termination_by n
decreasing_by omega
theorem tz_zero : tz 0 = 0 := by rw [tz]; simp
theorem tz_odd {n : Nat} (h : n % 2 = 1) : tz n = 0 := by
  rw [tz, if_pos h]
  split <;> rfl
theorem tz_even {n : Nat} (h0 : n ≠ 0) (h : n % 2 = 0) : tz n = tz (n / 2) + 1 := by rw [tz]; simp [h0, h]
theorem tz_spec (n : Nat) (h0 : n ≠ 0) : n = n / 2 ^ tz n * 2 ^ tz n ∧ n / 2 ^ tz n % 2 = 1 := by
  induction n using Nat.strongRecOn with
  | _ n ih =>
    by_cases h : n % 2 = 1
    · rw [tz_odd h]; simp [h]
    · have h' : n % 2 = 0 := by omega
      obtain ⟨h1, h2⟩ := ih (n / 2) (by omega) (by omega)
      rw [tz_even h0 h', Nat.pow_succ, Nat.mul_comm (2 ^ tz (n / 2)) 2, ← Nat.div_div_eq_div_mul]
      refine ⟨?_, h2⟩
      rw [← Nat.mul_assoc, Nat.mul_comm (n / 2 / 2 ^ tz (n / 2)) 2, Nat.mul_assoc, ← h1]
      omega
theorem tz_eq {n k m : Nat} (h : n = m * 2 ^ k) (hm : m % 2 = 1) : tz n = k ∧ n / 2 ^ tz n = m := by
  induction k generalizing n with
  | zero =>
    simp at h
    subst h
    rw [tz_odd hm]; simp
  | succ k ih =>
    have hp := Nat.two_pow_pos k
    have h0 : n ≠ 0 := by rw [h]; exact Nat.mul_ne_zero (by omega) (by have := Nat.two_pow_pos (k + 1); omega)
    have h2 : n = 2 * (m * 2 ^ k) := by rw [h, Nat.pow_succ, Nat.mul_comm 2, Nat.mul_assoc]
    have h3 : n / 2 = m * 2 ^ k := by omega
    obtain ⟨e1, e2⟩ := ih h3
    rw [tz_even h0 (by omega), e1]
    refine ⟨rfl, ?_⟩
    rw [h]
    exact Nat.mul_div_cancel _ (Nat.two_pow_pos _)
theorem tz_mul_pow {n : Nat} (h : n ≠ 0) (k : Nat) : tz (n * 2 ^ k) = tz n + k ∧ n * 2 ^ k / 2 ^ tz (n * 2 ^ k) = n / 2 ^ tz n := by
  obtain ⟨h1, h2⟩ := tz_spec n h
  refine tz_eq ?_ h2
  rw [Nat.pow_add, ← Nat.mul_assoc, ← h1]
/-- The first bit that is 1. -/
theorem tz_of_bits {n k : Nat} (h1 : n / 2 ^ k % 2 = 1) (h2 : ∀ j, j < k → n / 2 ^ j % 2 = 0) : tz n = k := by
  have hd : n % 2 ^ k = 0 := by
    clear h1
    induction k with
    | zero => simp [Nat.mod_one]
    | succ k ih =>
      have h3 := ih (fun j hj => h2 j (by omega))
      have h4 := h2 k (by omega)
      rw [Nat.mod_pow_succ, h3, h4]
      simp
  refine (tz_eq (m := n / 2 ^ k) ?_ h1).1
  have := Nat.div_add_mod n (2 ^ k)
  rw [Nat.mul_comm] at this
  omega
theorem tz_lt_bl {n : Nat} (h : n ≠ 0) : tz n < bl n := by
  obtain ⟨h1, h2⟩ := tz_spec n h
  refine Classical.byContradiction fun hc => ?_
  have h3 : n < 2 ^ tz n := Nat.lt_of_lt_of_le (bl_lt n) (Nat.pow_le_pow_right (by decide) (by omega))
  rw [Nat.div_eq_of_lt h3] at h2
  omega
/-- A bit of a list. -/
theorem bit_wd {l : List Nat} (h : Wf l) (i : Nat) : wd l (i / 64) / 2 ^ (i % 64) % 2 = nv l / 2 ^ i % 2 := by
  rw [wd_eq h]
  have e : i = 64 * (i / 64) + i % 64 := by omega
  have e2 : nv l / 2 ^ i = nv l / 2 ^ (64 * (i / 64)) / 2 ^ (i % 64) := by
    rw [Nat.div_div_eq_div_mul, ← Nat.pow_add, ← e]
  rw [e2]
  generalize nv l / 2 ^ (64 * (i / 64)) = m
  have hr : i % 64 < 64 := Nat.mod_lt _ (by decide)
  generalize i % 64 = r at hr
  -- the word's own bit
  have e3 : (2 : Nat) ^ 64 = 2 ^ r * 2 ^ (64 - r) := by rw [← Nat.pow_add]; congr 1; omega
  rw [e3, Nat.mod_mul_right_div_self]
  obtain ⟨q, hq⟩ : ∃ q, 64 - r = q + 1 := ⟨63 - r, by omega⟩
  rw [hq, Nat.pow_succ, Nat.mul_comm (2 ^ q) 2, Nat.mod_mul_right_mod]
theorem bl_half {n : Nat} (h : 0 < n) : bl n = bl (n / 2) + 1 := by
  by_cases h1 : n = 1
  · subst h1; decide
  · have h2 : n / 2 ≠ 0 := by omega
    have e := bl_le h2
    have e2 := bl_lt (n / 2)
    have e3 : 0 < bl (n / 2) := by rw [bl_pos h2]; omega
    have := bl_eq (n := n) (k := bl (n / 2)) (by
      have h3 : (2 : Nat) ^ bl (n / 2) = 2 * 2 ^ (bl (n / 2) - 1) := by
        rw [← Nat.pow_succ', show (bl (n / 2) - 1).succ = bl (n / 2) by omega]
      omega) (by rw [Nat.pow_succ]; omega)
    exact this
theorem nv_drop_step (l : List Nat) (i : Nat) : nv (l.drop i) = wd l i + 2 ^ 64 * nv (l.drop (i + 1)) := by
  by_cases h : i < l.length
  · exact nv_drop_succ h
  · rw [wd_ge (by omega), List.drop_eq_nil_of_le (by omega), List.drop_eq_nil_of_le (by omega)]; rfl
/-- How two numbers stand to each other. -/
def cmpN (a b : Nat) : Int := if a < b then -1 else if b < a then 1 else 0
theorem cmp_split {a b : List Nat} (ha : Wf a) {i : Nat} (he : nv (a.drop (i + 1)) = nv (b.drop (i + 1))) (h : wd a i < wd b i) : nv a < nv b := by
  have h1 := nv_take_lt ha i
  have h2 := nv_drop_step a i
  have h3 := nv_drop_step b i
  rw [nv_split a i, nv_split b i]
  have h4 : nv (a.drop i) + 1 ≤ nv (b.drop i) := by omega
  have h5 := Nat.mul_le_mul_left (2 ^ (64 * i)) h4
  rw [Nat.mul_add] at h5
  omega
theorem cmp_lt {a b : List Nat} (ha : Wf a) {i : Nat} (he : nv (a.drop (i + 1)) = nv (b.drop (i + 1))) (h : wd a i < wd b i) : cmpN (nv a) (nv b) = -1 := by
  unfold cmpN; rw [if_pos (cmp_split ha he h)]
theorem cmp_gt {a b : List Nat} (hb : Wf b) {i : Nat} (he : nv (a.drop (i + 1)) = nv (b.drop (i + 1))) (h : wd b i < wd a i) : cmpN (nv a) (nv b) = 1 := by
  have := cmp_split hb he.symm h
  unfold cmpN; rw [if_neg (by omega), if_pos this]
/-- A step of a sum. -/
theorem add_step {A acc X Y i s c c' x y : Nat} (hacc : acc + 2 ^ (64 * i) * c = X + Y) (hs : s + 2 ^ 64 * c' = x + y + c) (hA : A = acc + 2 ^ (64 * i) * s) :
    A + 2 ^ (64 * (i + 1)) * c' = X + 2 ^ (64 * i) * x + (Y + 2 ^ (64 * i) * y) := by
  rw [pw, hA]
  generalize 2 ^ (64 * i) = p at *
  have : p * (s + 2 ^ 64 * c') = p * (x + y + c) := by rw [hs]
  grind
/-- A step of a difference. -/
theorem sub_step {A acc X Y i s c c' x y : Nat} (hacc : acc + Y = X + 2 ^ (64 * i) * c) (hs : s + y + c = x + 2 ^ 64 * c') (hA : A = acc + 2 ^ (64 * i) * s) :
    A + (Y + 2 ^ (64 * i) * y) = X + 2 ^ (64 * i) * x + 2 ^ (64 * (i + 1)) * c' := by
  rw [pw, hA]
  generalize 2 ^ (64 * i) = p at *
  have : p * (s + y + c) = p * (x + 2 ^ 64 * c') := by rw [hs]
  grind
theorem nv_set {l : List Nat} {i : Nat} (h : i < l.length) (x : Nat) : nv (l.set i x) + 2 ^ (64 * i) * wd l i = nv l + 2 ^ (64 * i) * x := by
  induction l generalizing i with
  | nil => simp at h
  | cons y l ih =>
    cases i with
    | zero => simp only [List.set_cons_zero, nv, wd]; simp; omega
    | succ i =>
      have := ih (i := i) (by simpa using h)
      have e : wd (y :: l) (i + 1) = wd l i := by simp [wd]
      rw [List.set_cons_succ, e, pw]
      simp only [nv]
      generalize 2 ^ (64 * i) = p at *
      grind
theorem wd_set_ne {l : List Nat} {i j : Nat} (h : i ≠ j) (x : Nat) : wd (l.set i x) j = wd l j := by
  unfold wd; rw [List.getElem?_set_ne h]
theorem wd_small {l : List Nat} (h : Wf l) {k : Nat} (hl : nv l < 2 ^ (64 * k)) {j : Nat} (hj : k ≤ j) : wd l j = 0 := by
  rw [wd_eq h, Nat.div_eq_of_lt (Nat.lt_of_lt_of_le hl (Nat.pow_le_pow_right (by decide) (by omega)))]
/-- A step of a row of a product. -/
theorem mul_step {o o' S M x y cy cy' w0 t : Nat} {i j : Nat} (h : o + 2 ^ (64 * (i + j)) * cy = S + 2 ^ (64 * i) * (x * M)) (hs : o' + 2 ^ (64 * (i + j)) * w0 = o + 2 ^ (64 * (i + j)) * t) (ht : t + 2 ^ 64 * cy' = w0 + x * y + cy) :
    o' + 2 ^ (64 * (i + (j + 1))) * cy' = S + 2 ^ (64 * i) * (x * (M + 2 ^ (64 * j) * y)) := by
  rw [show 64 * (i + (j + 1)) = 64 + (64 * i + 64 * j) by omega, Nat.pow_add, Nat.pow_add]
  rw [show 64 * (i + j) = 64 * i + 64 * j by omega, Nat.pow_add] at h hs
  generalize 2 ^ (64 * i) = p at *
  generalize 2 ^ (64 * j) = q at *
  have h2 : p * q * (t + 2 ^ 64 * cy') = p * q * (w0 + x * y + cy) := by rw [ht]
  grind
theorem mul_row {o o' S A B x cy : Nat} {i n : Nat} (h : o + 2 ^ (64 * (i + n)) * cy = S + 2 ^ (64 * i) * (x * B)) (hS : S = A * B) (ho : o' = o + 2 ^ (64 * (i + n)) * cy) : o' = (A + 2 ^ (64 * i) * x) * B := by
  rw [ho, h, hS]; grind
/-- A word moved up: what stays, what goes over. -/
theorem shl_word {x k cy : Nat} (hx : x < 2 ^ 64) (hk : k ≤ 63) (hcy : cy < 2 ^ k) :
    (x * 2 ^ k % 2 ^ 64) ||| cy = x * 2 ^ k % 2 ^ 64 + cy ∧ x * 2 ^ k % 2 ^ 64 + cy < 2 ^ 64 ∧ x * 2 ^ k / 2 ^ 64 = x / 2 ^ (64 - k) ∧ x / 2 ^ (64 - k) < 2 ^ k := by
  have e : (2 : Nat) ^ 64 = 2 ^ (64 - k) * 2 ^ k := by rw [← Nat.pow_add]; congr 1; omega
  have e1 : x * 2 ^ k % 2 ^ 64 = (x % 2 ^ (64 - k)) * 2 ^ k := by rw [e, Nat.mul_mod_mul_right]
  have hp := Nat.two_pow_pos k
  have h1 : x % 2 ^ (64 - k) < 2 ^ (64 - k) := Nat.mod_lt _ (Nat.two_pow_pos _)
  refine ⟨?_, ?_, ?_, ?_⟩
  · rw [e1, ← Nat.shiftLeft_eq, ← Nat.shiftLeft_add_eq_or_of_lt hcy]
  · rw [e1, e]
    have := Nat.mul_le_mul_right (2 ^ k) (show x % 2 ^ (64 - k) + 1 ≤ 2 ^ (64 - k) from h1)
    rw [Nat.add_mul] at this
    omega
  · rw [e, Nat.mul_div_mul_right _ _ hp]
  · rw [Nat.div_lt_iff_lt_mul (Nat.two_pow_pos _), Nat.mul_comm, ← e]; exact hx
theorem shl_step {A acc cy cy' t x S q i k : Nat} (h : acc + 2 ^ (64 * (q + i)) * cy = 2 ^ (64 * q) * (2 ^ k * S)) (ht : t + 2 ^ 64 * cy' = x * 2 ^ k + cy) (hA : A = acc + 2 ^ (64 * (q + i)) * t) :
    A + 2 ^ (64 * (q + (i + 1))) * cy' = 2 ^ (64 * q) * (2 ^ k * (S + 2 ^ (64 * i) * x)) := by
  rw [hA, show 64 * (q + (i + 1)) = 64 + (64 * q + 64 * i) by omega, Nat.pow_add, Nat.pow_add]
  rw [show 64 * (q + i) = 64 * q + 64 * i by omega, Nat.pow_add] at h ⊢
  generalize 2 ^ (64 * q) = Q at *
  generalize 2 ^ (64 * i) = I at *
  generalize 2 ^ k = K at *
  have h2 : Q * I * (t + 2 ^ 64 * cy') = Q * I * (x * K + cy) := by rw [ht]
  grind
theorem up_word (x k : Nat) (hk : k ≤ 64) : x * 2 ^ (64 - k) % 2 ^ 64 = (x % 2 ^ k) * 2 ^ (64 - k) := by
  have e : (2 : Nat) ^ 64 = 2 ^ k * 2 ^ (64 - k) := by rw [← Nat.pow_add]; congr 1; omega
  rw [e, Nat.mul_mod_mul_right]
/-- A word moved down, and what comes from the next one. -/
theorem shr_word {x y k : Nat} (hx : x < 2 ^ 64) (hk : k ≤ 64) :
    (x / 2 ^ k) ||| (y * 2 ^ (64 - k) % 2 ^ 64) = (x + 2 ^ 64 * y) / 2 ^ k % 2 ^ 64 := by
  have e : (2 : Nat) ^ 64 = 2 ^ k * 2 ^ (64 - k) := by rw [← Nat.pow_add]; congr 1; omega
  have hp := Nat.two_pow_pos k
  have hq := Nat.two_pow_pos (64 - k)
  have hx1 : x / 2 ^ k < 2 ^ (64 - k) := by rw [Nat.div_lt_iff_lt_mul hp, Nat.mul_comm, ← e]; exact hx
  rw [up_word y k hk, Nat.or_comm, ← Nat.shiftLeft_eq, ← Nat.shiftLeft_add_eq_or_of_lt hx1, Nat.shiftLeft_eq]
  have e2 : (x + 2 ^ 64 * y) / 2 ^ k = x / 2 ^ k + 2 ^ (64 - k) * y := by
    rw [e, Nat.mul_assoc, Nat.add_mul_div_left _ _ hp]
  rw [e2, show (2 : Nat) ^ 64 = 2 ^ (64 - k) * 2 ^ k by rw [e, Nat.mul_comm], Nat.mod_mul, Nat.add_mul_mod_self_left, Nat.mod_eq_of_lt hx1, Nat.add_mul_div_left _ _ hq, Nat.div_eq_of_lt hx1, Nat.zero_add]
  rw [Nat.mul_comm (y % 2 ^ k)]; omega
theorem nv_down {l : List Nat} (h : Wf l) (q j k : Nat) : (wd l (q + j) + 2 ^ 64 * wd l (q + j + 1)) / 2 ^ k % 2 ^ 64 = nv l / 2 ^ (64 * q + k) / 2 ^ (64 * j) % 2 ^ 64 ∨ 64 < k := by
  by_cases hk : 64 < k
  · exact .inr hk
  refine .inl ?_
  have e : nv l / 2 ^ (64 * q + k) / 2 ^ (64 * j) = nv (l.drop (q + j)) / 2 ^ k := by
    rw [nv_drop h, Nat.div_div_eq_div_mul, Nat.div_div_eq_div_mul, ← Nat.pow_add, ← Nat.pow_add]
    congr 2; omega
  rw [e, nv_drop_step l (q + j), nv_drop_step l (q + j + 1)]
  generalize wd l (q + j) = x
  generalize wd l (q + j + 1) = y
  generalize nv (l.drop (q + j + 1 + 1)) = z
  have e2 : (2 : Nat) ^ 64 = 2 ^ k * 2 ^ (64 - k) := by rw [← Nat.pow_add]; congr 1; omega
  have e3 : x + 2 ^ 64 * (y + 2 ^ 64 * z) = (x + 2 ^ 64 * y) + 2 ^ k * (2 ^ (64 - k) * 2 ^ 64 * z) := by
    rw [Nat.mul_add, ← Nat.mul_assoc (2 ^ k), ← Nat.mul_assoc (2 ^ k), ← e2, ← Nat.mul_assoc]; omega
  rw [e3, Nat.add_mul_div_left _ _ (Nat.two_pow_pos k), show 2 ^ (64 - k) * 2 ^ 64 * z = 2 ^ 64 * (2 ^ (64 - k) * z) by rw [Nat.mul_comm (2 ^ (64 - k)), Nat.mul_assoc], Nat.add_mul_mod_self_left]
theorem mod_words (V j : Nat) : V % 2 ^ (64 * (j + 1)) = V % 2 ^ (64 * j) + 2 ^ (64 * j) * (V / 2 ^ (64 * j) % 2 ^ 64) := by
  rw [pw, Nat.mul_comm, Nat.mod_mul]
theorem mod_down {l : List Nat} (h : Wf l) (q k : Nat) (hk : k ≤ 64) : nv l % 2 ^ (64 * q + k) = nv (l.take q) + 2 ^ (64 * q) * (wd l q % 2 ^ k) := by
  rw [Nat.pow_add, Nat.mod_mul, ← nv_take h, ← nv_drop h, nv_drop_step l q]
  have e2 : (2 : Nat) ^ 64 = 2 ^ k * 2 ^ (64 - k) := by rw [← Nat.pow_add]; congr 1; omega
  rw [e2, Nat.mul_assoc, Nat.add_mul_mod_self_left]
end Limb
