/- Part 6 of the library of this claim: what the program and the document compute, as contracts of their functions. -/
import Derived.Test.YtgpjplelgffocaaDoorR5
import Derived.KernelRfl
namespace Go.Proofs.YtgpjplelgffocaaDoor
open Go.RowKit Go.Proofs.YtgpjplelgffocaaDoorW.PrintWords Limb
set_option linter.unusedVariables false
set_option linter.unusedSimpArgs false

/-- What ulpref04.To is asked of. -/
def PreT (v t : Int) : Prop := cman v < 18446744073709551616 ∧ -32768 ≤ cexp v t ∧ cexp v t ≤ 32768 ∧ (v ≠ 0 → -1022 ≤ cexp v t + bl (cman v) - 1)
theorem to_any {u : Value} {v t : Int} {w : World} (h : CDy w u v t) (p : PreT v t) :
    Calls Tryd.prog 15 #[u] w fun en w' => en = .returned (.tuple #[.int .u64 (((toF v t).getD 0 : Nat) : Int), .bool (toF v t).isSome]) ∧ Below w.heap.size w w' := by
  obtain ⟨p1, p2, p3, p4⟩ := p
  by_cases hz : v = 0
  · have he : toF v t = some 0 := if_pos hz
    rw [he]
    exact to_zero h hz p2 p3
  · exact to_some h hz p1 (p4 hz) p2 p3

theorem valI_join {s : Bool} {E F : Nat} (h1 : 1 ≤ E) (h2 : E ≤ 2046) (hF : F < 4503599627370496) : joinW s E F < 18446744073709551616 ∧ finB (joinW s E F) = true ∧ valI (joinW s E F) = sgn s ((4503599627370496 + F) * 2 ^ (E - 1)) := by
  have e0 : joinW s E F % 9223372036854775808 = E * 4503599627370496 + F := by
    unfold joinW; cases s
    · rw [if_neg (by decide)]; omega
    · rw [if_pos rfl]; omega
  have e1 : joinW s E F / 4503599627370496 % 2048 = E := by
    unfold joinW; cases s
    · rw [if_neg (by decide)]; omega
    · rw [if_pos rfl]; omega
  have e2 : joinW s E F % 4503599627370496 = F := by
    unfold joinW; cases s
    · rw [if_neg (by decide)]; omega
    · rw [if_pos rfl]; omega
  have e3 : decide (9223372036854775808 ≤ joinW s E F) = s := by
    unfold joinW; cases s
    · rw [if_neg (by decide)]; exact decide_eq_false (by omega)
    · rw [if_pos rfl]; exact decide_eq_true (by omega)
  have e4 : joinW s E F < 18446744073709551616 := by
    unfold joinW; cases s
    · rw [if_neg (by decide)]; omega
    · rw [if_pos rfl]; omega
  refine ⟨e4, ?_, ?_⟩
  · unfold finB; rw [e0]; exact decide_eq_true (by omega)
  · unfold valI; rw [e1, e2, e3, if_neg (by omega)]
theorem toF_some {v t : Int} {y : Nat} (ht : -1074 ≤ t) (p : PreT v t) (h : toF v t = some y) :
    y < 18446744073709551616 ∧ finB y = true ∧ fromV y = v * 2 ^ (t + 1074).toNat ∧ (v ≠ 0 → bl (cman v) ≤ 53) := by
  obtain ⟨p1, p2, p3, p4⟩ := p
  unfold toF at h
  by_cases hz : v = 0
  · rw [if_pos hz] at h
    obtain rfl := Option.some.inj h
    subst hz
    refine ⟨by decide, by decide, ?_, fun h => absurd rfl h⟩
    rw [Int.zero_mul]
    kernel_rfl
  · rw [if_neg hz] at h
    split at h
    · rename_i hc
      obtain ⟨hN, hT⟩ := hc
      have hL := p4 hz
      obtain rfl := Option.some.inj h
      have hm0 : cman v ≠ 0 := fun h0 => hz (cman_eq_zero.1 h0)
      obtain ⟨q1, q2⟩ := pow_word hm0 hN
      obtain ⟨j, f1, f2, -⟩ := of_form (e := t) hz
      obtain ⟨g1, g2, g3⟩ := valI_join (s := cneg v) (E := (cexp v t + bl (cman v) + 1022).toNat) (F := cman v * 2 ^ (53 - bl (cman v)) - 4503599627370496) (by omega) (by omega) (by omega)
      refine ⟨g1, g2, ?_, fun _ => hN⟩
      unfold fromV
      rw [if_pos g2, g3, show 4503599627370496 + (cman v * 2 ^ (53 - bl (cman v)) - 4503599627370496) = cman v * 2 ^ (53 - bl (cman v)) by omega]
      have e1 : v * 2 ^ (t + 1074).toNat = sgn (cneg v) (cman v * 2 ^ (j + (t + 1074).toNat)) := by
        rw [Nat.pow_add, ← Nat.mul_assoc, sgn_pow _ _ (t + 1074).toNat, ← f2]
      rw [e1, Nat.mul_assoc, ← Nat.pow_add]
      congr 3
      omega
    · cases h
theorem toF_small {n : Int} (h1 : -1023 ≤ n) (h2 : n ≤ 1023) : PreT n 0 ∧ (toF n 0).isSome = true := by
  have hb : bl n.natAbs ≤ 10 := bl_le_iff.2 (show n.natAbs < 1024 by omega)
  have hc : cman n < 1024 := Nat.lt_of_le_of_lt (cman_le n) (by omega)
  have hc2 : bl (cman n) ≤ 10 := bl_le_iff.2 hc
  by_cases hz : n = 0
  · subst hz
    refine ⟨⟨by omega, by decide, by decide, fun h => absurd rfl h⟩, rfl⟩
  · have ht := top_form (e := 0) hz
    obtain ⟨j, f1, -, f3⟩ := of_form (e := 0) hz
    have hj : j < bl n.natAbs := by rw [f3]; exact tz_lt_bl (by omega)
    refine ⟨⟨by omega, by omega, by omega, fun _ => by omega⟩, ?_⟩
    unfold toF
    rw [if_neg hz, if_pos ⟨by omega, by omega⟩]
    rfl
theorem pre_of {v t : Int} (hb : bl v.natAbs ≤ 2000) (h1 : -1022 ≤ t) (h2 : t ≤ 0) (hc : cman v < 2 ^ 54) : PreT v t := by
  have hc2 : cman v < 18446744073709551616 := Nat.lt_of_lt_of_le hc (by decide)
  by_cases hz : v = 0
  · subst hz
    exact ⟨hc2, by rw [cexp_zero]; decide, by rw [cexp_zero]; decide, fun h => absurd rfl h⟩
  · have ht := top_form (e := t) hz
    obtain ⟨j, f1, -, f3⟩ := of_form (e := t) hz
    have hj : j < bl v.natAbs := by rw [f3]; exact tz_lt_bl (by omega)
    exact ⟨hc2, by omega, by omega, fun _ => by omega⟩

theorem pre_zero : PreT 0 0 := ⟨by rw [cman_zero]; decide, by decide, by decide, fun h => absurd rfl h⟩
theorem bl_of {v : Int} {m k : Nat} (h : v.natAbs < 2 ^ m) (hm : m ≤ k) : bl v.natAbs ≤ k := Nat.le_trans (bl_le_iff.2 h) hm
/-- What a whole number's power is, in the table's way. -/
theorem small_times {M n lo hi : Int} (hM : 0 < M) : smallF M (n * M) lo hi = if lo ≤ n ∧ n ≤ hi then some n else none := by
  unfold smallF
  have e1 : n * M % M = 0 := Int.mul_emod_left n M
  have e2 : n * M / M = n := Int.mul_ediv_cancel n (Int.ne_of_gt hM)
  rw [e1, e2]
  by_cases h : lo ≤ n ∧ n ≤ hi
  · rw [if_pos h, if_pos ⟨rfl, Int.mul_le_mul_of_nonneg_right h.1 (Int.le_of_lt hM), Int.mul_le_mul_of_nonneg_right h.2 (Int.le_of_lt hM)⟩]
  · rw [if_neg h, if_neg (fun q => h ⟨Int.le_of_mul_le_mul_right q.2.1 hM, Int.le_of_mul_le_mul_right q.2.2 hM⟩)]
theorem log2_pow {k : Nat} {n : Int} (h : (k : Int) = n + 1074) : log2F (2 ^ k) = some (n, 0) := by
  unfold log2F
  rw [if_pos (cman_pow k)]
  have h1 := cexp_mul 1 (-1074) k
  rw [Int.one_mul] at h1
  rw [h1]
  have h2 : cexp 1 (-1074 + (k : Int)) = -1074 + k := by
    unfold cexp
    rw [if_neg (by decide), show tz (1 : Int).natAbs = 0 from tz_odd (by decide)]
    omega
  rw [h2, show -1074 + (k : Int) = n by omega]
theorem tenI_lt {i j : Nat} (h : j < i) : tenI j < tenI i := by
  unfold tenI
  have h1 : (10 : Nat) ^ j < 10 ^ i := Nat.pow_lt_pow_right (by decide) h
  have h2 : ((10 ^ j : Nat) : Int) < ((10 ^ i : Nat) : Int) := Int.ofNat_lt.2 h1
  rw [Int.natCast_pow, Int.natCast_pow] at h2
  exact h2
theorem logF_ten {M : Int} {i most : Nat} (hM : 0 < M) (hi : i < most + 1) : logF M most (tenI i * M) = some ((i : Int), 0) := by
  refine log_some hi (fun j hj h => ?_) rfl
  have := Int.eq_of_mul_eq_mul_right (Int.ne_of_gt hM) h
  have h2 := tenI_lt hj
  omega

theorem dom_all {f x : Nat} (hf : f = 2 ∨ f = 3 ∨ f = 5 ∨ f = 6) (hx : finB x = true) : exE f x = 0 ∧ exO f x = caseG f (fromV x) := by
  have hd : domF f x = true := by
    unfold domF
    rw [hx]
    rcases hf with rfl | rfl | rfl | rfl <;> rfl
  have hi : isF f = true := by rcases hf with rfl | rfl | rfl | rfl <;> rfl
  unfold exE exO
  rw [if_pos hi, if_pos hd, if_pos ⟨hi, hd⟩]
  exact ⟨rfl, rfl⟩
theorem dom_log {f y : Nat} {m : Int} (hf : (f = 8 ∧ m = 0) ∨ (f = 9 ∧ m = 0) ∨ (f = 11 ∧ m = 1) ∨ (f = 12 ∧ m = 1)) (hy : finB y = true) (h0 : 0 < fromV y + m * 2 ^ 1074) : exE f y = 0 ∧ exO f y = caseG f (fromV y) := by
  have hd : domF f y = true := by
    unfold domF insideF
    rw [hy]
    rcases hf with ⟨rfl, rfl⟩ | ⟨rfl, rfl⟩ | ⟨rfl, rfl⟩ | ⟨rfl, rfl⟩
    · rw [if_pos (by decide), decide_eq_true (show 0 < fromV y by omega)]; rfl
    · rw [if_pos (by decide), decide_eq_true (show 0 < fromV y by omega)]; rfl
    · rw [if_neg (by decide), if_pos (by decide), decide_eq_true (show -1 * 2 ^ 1074 < fromV y by generalize (2 : Int) ^ 1074 = M at *; omega)]; rfl
    · rw [if_neg (by decide), if_pos (by decide), decide_eq_true (show -1 * 2 ^ 1074 < fromV y by generalize (2 : Int) ^ 1074 = M at *; omega)]; rfl
  have hi : isF f = true := by rcases hf with ⟨rfl, -⟩ | ⟨rfl, -⟩ | ⟨rfl, -⟩ | ⟨rfl, -⟩ <;> rfl
  unfold exE exO
  rw [if_pos hi, if_pos hd, if_pos ⟨hi, hd⟩]
  exact ⟨rfl, rfl⟩
theorem M_pos : (0 : Int) < 2 ^ 1074 := Int.pow_pos (by decide)
/-- 2^n, and 2^n less 1, in the unit of all floats. -/
theorem powV_unit {n less : Int} (h : -1022 ≤ n) : (powV n less).1 * 2 ^ ((powV n less).2 + 1074).toNat + less * 2 ^ 1074 = 2 ^ (n + 1074).toNat := by
  unfold powV
  simp only
  have e1 : (2 : Int) ^ (n - min n 0).toNat * 2 ^ (min n 0 + 1074).toNat = 2 ^ (n + 1074).toNat := by rw [← Int.pow_add]; congr 1; omega
  have e2 : (2 : Int) ^ (-(min n 0)).toNat * 2 ^ (min n 0 + 1074).toNat = 2 ^ 1074 := by rw [← Int.pow_add]; congr 1; omega
  rw [Int.sub_mul, e1, Int.mul_assoc, e2]
  generalize (2 : Int) ^ (n + 1074).toNat = A
  generalize (2 : Int) ^ 1074 = B
  omega
theorem back_2 {n : Int} {x : Nat} (h1 : -1022 ≤ n) (h2 : n ≤ 1023) (hx : finB x = true) (hv : fromV x = n * 2 ^ 1074) :
    exE 2 x = 0 ∧ PreT ((exO 2 x).getD (0, 0)).1 ((exO 2 x).getD (0, 0)).2 ∧ ∀ y, (exO 2 x).isSome = true → toF ((exO 2 x).getD (0, 0)).1 ((exO 2 x).getD (0, 0)).2 = some y → y < 18446744073709551616 ∧ exE 8 y = 0 ∧ exO 8 y = some (n, 0) := by
  obtain ⟨e1, e2⟩ := dom_all (f := 2) (by decide) hx
  have e3 : exO 2 x = some (powV n 0) := by
    rw [e2, hv]
    show (smallF (2 ^ 1074) (n * 2 ^ 1074) (-16384) 16384).map _ = _
    rw [small_times M_pos, if_pos ⟨by omega, by omega⟩]
    rfl
  have hp : PreT (powV n 0).1 (powV n 0).2 := by
    refine pre_of ?_ ?_ ?_ (few_ex e3)
    · unfold powV
      rw [Int.zero_mul, Int.sub_zero]
      exact bl_of (sm_pow _) (by omega)
    · unfold powV; simp only; omega
    · unfold powV; simp only; omega
  refine ⟨e1, by rw [e3]; exact hp, fun y _ hy => ?_⟩
  rw [e3] at hy
  have ht : -1074 ≤ (powV n 0).2 := by unfold powV; simp only; omega
  obtain ⟨g1, g2, g3, -⟩ := toF_some ht hp hy
  have hu := powV_unit (less := 0) h1
  rw [← g3] at hu
  obtain ⟨k1, k2⟩ := dom_log (f := 8) (m := 0) (by decide) g2 (by rw [hu]; exact Int.pow_pos (by decide))
  refine ⟨g1, k1, k2.trans ?_⟩
  show log2F (fromV y + 0 * 2 ^ 1074) = _
  rw [hu]
  exact log2_pow (by omega)
theorem back_5 {n : Int} {x : Nat} (h1 : -1022 ≤ n) (h2 : n ≤ 1023) (hx : finB x = true) (hv : fromV x = n * 2 ^ 1074) :
    exE 5 x = 0 ∧ PreT ((exO 5 x).getD (0, 0)).1 ((exO 5 x).getD (0, 0)).2 ∧ ∀ y, (exO 5 x).isSome = true → toF ((exO 5 x).getD (0, 0)).1 ((exO 5 x).getD (0, 0)).2 = some y → y < 18446744073709551616 ∧ exE 11 y = 0 ∧ exO 11 y = some (n, 0) := by
  obtain ⟨e1, e2⟩ := dom_all (f := 5) (by decide) hx
  by_cases hn : -54 ≤ n ∧ n ≤ 54
  · have e3 : exO 5 x = some (powV n 1) := by
      rw [e2, hv]
      show (smallF (2 ^ 1074) (n * 2 ^ 1074) (-54) 54).map _ = _
      rw [small_times M_pos, if_pos hn]
      rfl
    have hp : PreT (powV n 1).1 (powV n 1).2 := by
      refine pre_of ?_ ?_ ?_ (few_ex e3)
      · unfold powV
        rw [Int.one_mul]
        exact bl_of (sm_sub (n := 100) (sm_le (sm_pow _) (by omega)) (sm_le (sm_pow _) (by omega))) (by decide)
      · unfold powV; simp only; omega
      · unfold powV; simp only; omega
    refine ⟨e1, by rw [e3]; exact hp, fun y _ hy => ?_⟩
    rw [e3] at hy
    have ht : -1074 ≤ (powV n 1).2 := by unfold powV; simp only; omega
    obtain ⟨g1, g2, g3, -⟩ := toF_some ht hp hy
    have hu := powV_unit (less := 1) h1
    rw [← g3] at hu
    obtain ⟨k1, k2⟩ := dom_log (f := 11) (m := 1) (by decide) g2 (by rw [hu]; exact Int.pow_pos (by decide))
    refine ⟨g1, k1, k2.trans ?_⟩
    show log2F (fromV y + 1 * 2 ^ 1074) = _
    rw [hu]
    exact log2_pow (by omega)
  · have e3 : exO 5 x = none := by
      rw [e2, hv]
      show (smallF (2 ^ 1074) (n * 2 ^ 1074) (-54) 54).map _ = _
      rw [small_times M_pos, if_neg hn]
      rfl
    rw [e3]
    exact ⟨e1, pre_zero, fun y h => by cases h⟩
theorem ten_23 : ¬ bl (cman (10 ^ 23)) ≤ 53 := by
  have h : cman (10 ^ 23) = 11920928955078125 := by
    have q := cman_mul 11920928955078125 23
    rw [show (11920928955078125 : Int) * 2 ^ 23 = 10 ^ 23 by decide] at q
    rw [q]
    unfold cman
    rw [show tz (11920928955078125 : Int).natAbs = 0 from tz_odd (by decide)]
    rfl
  rw [h]
  intro hb
  exact absurd (bl_le_iff.1 hb) (by decide)
theorem back_3 {n : Int} {x : Nat} (h1 : -1022 ≤ n) (h2 : n ≤ 1023) (hx : finB x = true) (hv : fromV x = n * 2 ^ 1074) :
    exE 3 x = 0 ∧ PreT ((exO 3 x).getD (0, 0)).1 ((exO 3 x).getD (0, 0)).2 ∧ ∀ y, (exO 3 x).isSome = true → toF ((exO 3 x).getD (0, 0)).1 ((exO 3 x).getD (0, 0)).2 = some y → y < 18446744073709551616 ∧ exE 9 y = 0 ∧ exO 9 y = some (n, 0) := by
  obtain ⟨e1, e2⟩ := dom_all (f := 3) (by decide) hx
  by_cases hn : 0 ≤ n ∧ n ≤ 23
  · have e3 : exO 3 x = some (tenI n.toNat - 0, 0) := by
      rw [e2, hv]
      show (smallF (2 ^ 1074) (n * 2 ^ 1074) 0 23).map _ = _
      rw [small_times M_pos, if_pos hn]
      rfl
    rw [Int.sub_zero] at e3
    have hp : PreT (tenI n.toNat) 0 := pre_of (bl_of (tenI_small (by omega)) (by decide)) (by decide) (by decide) (few_ex e3)
    rw [e3]
    refine ⟨e1, hp, fun y _ hy => ?_⟩
    obtain ⟨g1, g2, g3, g4⟩ := toF_some (v := tenI n.toNat) (t := 0) (by decide) hp hy
    have hpos : 0 < tenI n.toNat := Int.pow_pos (by decide)
    have h23 : n.toNat < 22 + 1 := by
      refine Classical.byContradiction fun hc => ?_
      have h3 : n.toNat = 23 := by omega
      rw [h3] at g4 hpos
      exact ten_23 (g4 (Int.ne_of_gt hpos))
    rw [show ((0 : Int) + 1074).toNat = 1074 from rfl] at g3
    obtain ⟨k1, k2⟩ := dom_log (f := 9) (m := 0) (by decide) g2 (by rw [g3, Int.zero_mul, Int.add_zero]; exact Int.mul_pos hpos M_pos)
    refine ⟨g1, k1, k2.trans ?_⟩
    show logF (2 ^ 1074) 22 (fromV y + 0 * 2 ^ 1074) = _
    rw [g3, Int.zero_mul, Int.add_zero, logF_ten M_pos h23, Int.toNat_of_nonneg hn.1]
  · have e3 : exO 3 x = none := by
      rw [e2, hv]
      show (smallF (2 ^ 1074) (n * 2 ^ 1074) 0 23).map _ = _
      rw [small_times M_pos, if_neg hn]
      rfl
    rw [e3]
    exact ⟨e1, pre_zero, fun y h => by cases h⟩
theorem back_6 {n : Int} {x : Nat} (h1 : -1022 ≤ n) (h2 : n ≤ 1023) (hx : finB x = true) (hv : fromV x = n * 2 ^ 1074) :
    exE 6 x = 0 ∧ PreT ((exO 6 x).getD (0, 0)).1 ((exO 6 x).getD (0, 0)).2 ∧ ∀ y, (exO 6 x).isSome = true → toF ((exO 6 x).getD (0, 0)).1 ((exO 6 x).getD (0, 0)).2 = some y → y < 18446744073709551616 ∧ exE 12 y = 0 ∧ exO 12 y = some (n, 0) := by
  obtain ⟨e1, e2⟩ := dom_all (f := 6) (by decide) hx
  by_cases hn : 0 ≤ n ∧ n ≤ 16
  · have e3 : exO 6 x = some (tenI n.toNat - 1, 0) := by
      rw [e2, hv]
      show (smallF (2 ^ 1074) (n * 2 ^ 1074) 0 16).map _ = _
      rw [small_times M_pos, if_pos hn]
      rfl
    have hp : PreT (tenI n.toNat - 1) 0 := pre_of (bl_of (sm_sub (tenI_small (by omega)) (sm_le (n := 1) (m := 300) (by decide) (by decide))) (by decide)) (by decide) (by decide) (few_ex e3)
    rw [e3]
    refine ⟨e1, hp, fun y _ hy => ?_⟩
    obtain ⟨g1, g2, g3, g4⟩ := toF_some (v := tenI n.toNat - 1) (t := 0) (by decide) hp hy
    have hpos : 0 < tenI n.toNat := Int.pow_pos (by decide)
    rw [show ((0 : Int) + 1074).toNat = 1074 from rfl] at g3
    have hu : fromV y + 1 * 2 ^ 1074 = tenI n.toNat * 2 ^ 1074 := by rw [g3, ← Int.add_mul]; congr 1; omega
    obtain ⟨k1, k2⟩ := dom_log (f := 12) (m := 1) (by decide) g2 (by rw [hu]; exact Int.mul_pos hpos M_pos)
    refine ⟨g1, k1, k2.trans ?_⟩
    show logF (2 ^ 1074) 16 (fromV y + 1 * 2 ^ 1074) = _
    rw [hu, logF_ten M_pos (by omega), Int.toNat_of_nonneg hn.1]
  · have e3 : exO 6 x = none := by
      rw [e2, hv]
      show (smallF (2 ^ 1074) (n * 2 ^ 1074) 0 16).map _ = _
      rw [small_times M_pos, if_neg hn]
      rfl
    rw [e3]
    exact ⟨e1, pre_zero, fun y h => by cases h⟩
end Go.Proofs.YtgpjplelgffocaaDoor

namespace Go.Proofs.YtgpjplelgffocaaDoor
open Go.RowKit Go.Proofs.YtgpjplelgffocaaDoorW.PrintWords Limb
set_option linter.unusedVariables false
set_option linter.unusedSimpArgs false

set_option maxRecDepth 100000 in
set_option maxHeartbeats 8000000 in
theorem back_out (n : Int) (h : n < -1022 ∨ 1023 < n) (w : World) (hT : TabAt 0 Lib.deBruijn64tab w) :
    Calls Tryd.prog 5 #[.int .i64 n] w fun en w' => en = .returned (.bool true) ∧ Below w.heap.size w w' := by
  have HT := Aside0.mk hT
  have BEL := Aside0.mk (BelN.zero w)
  clear hT
  obtain ⟨g1, hg1⟩ : ∃ q, q = decide (n < (-1022 : Int)) := ⟨_, rfl⟩
  obtain ⟨g2, hg2⟩ : ∃ q, q = decide ((1023 : Int) < n) := ⟨_, rfl⟩
  have HG : g1 = true ∨ (g1 = false ∧ g2 = true) := by
    rcases h with h | h
    · exact .inl (by rw [hg1]; exact decide_eq_true h)
    · exact .inr ⟨by rw [hg1]; exact decide_eq_false (by omega), by rw [hg2]; exact decide_eq_true h⟩
  have hd1 : decide (n < (-1022 : Int)) = g1 := hg1.symm
  have hd2 : decide ((1023 : Int) < n) = g2 := hg2.symm
  clear hg1 hg2 h
  go_enter Tryd.func5, Tryd.ntmps5
  go_wp2_with fail
  go_at_call 9
  refine (lives_any _ (tab_below HT.out BEL.out.1)).mono ?_
  rintro en1 w1 ⟨rfl, hb⟩
  replace BEL := Aside0.mk (BEL.out.next hb)
  clear hb
  rcases HG with rfl | ⟨rfl, rfl⟩
  all_goals (
    go_wp2_with fail
    go_at_call 9
    refine (lives_any _ (tab_below HT.out BEL.out.1)).mono ?_
    rintro en2 w2 ⟨rfl, hb⟩
    replace BEL := Aside0.mk (BEL.out.next hb)
    clear hb
    go_wp2_with fail
    go_ret
    exact ⟨rfl, BEL.out.1⟩)

def BackP (f0 f1 x : Nat) (n : Int) : Prop := exE f0 x = 0 ∧ PreT ((exO f0 x).getD (0, 0)).1 ((exO f0 x).getD (0, 0)).2 ∧ ∀ y, (exO f0 x).isSome = true → toF ((exO f0 x).getD (0, 0)).1 ((exO f0 x).getD (0, 0)).2 = some y → y < 18446744073709551616 ∧ exE f1 y = 0 ∧ exO f1 y = some (n, 0)
theorem exact_pair {f0 f1 x : Nat} {n : Int} (h : BackP f0 f1 x n) (hf : f0 < 256) (hx : x < 18446744073709551616) : ∃ (s : Bool) (z t : Int), PreT z t ∧ (s = true → ∀ y, toF z t = some y → y < 18446744073709551616 ∧ exE f1 y = 0 ∧ exO f1 y = some (n, 0)) ∧
    ∀ W : World, (TabAt 0 Lib.deBruijn64tab W) → Calls Tryd.prog 11 #[.int .u8 f0, .int .u64 (x : Int)] W fun en w' => ∃ v', en = .returned (.tuple #[v', .bool s, .int .i64 0]) ∧ PDy w' W.heap.size v' z t ∧ Below W.heap.size W w' :=
  ⟨_, _, _, h.2.1, fun h1 y h2 => h.2.2 y h1 h2, fun W ht => by have q := exact_any f0 x hf hx W ht; rw [h.1] at q; exact q⟩
theorem exact_back {f1 y : Nat} {n : Int} (hf : f1 < 256) (h : y < 18446744073709551616 ∧ exE f1 y = 0 ∧ exO f1 y = some (n, 0)) (W : World) (ht : TabAt 0 Lib.deBruijn64tab W) :
    Calls Tryd.prog 11 #[.int .u8 f1, .int .u64 (y : Int)] W fun en w' => ∃ v', en = .returned (.tuple #[v', .bool true, .int .i64 0]) ∧ PDy w' W.heap.size v' n 0 ∧ Below W.heap.size W w' := by
  have q := exact_any f1 y hf h.1 W ht
  rw [h.2.1, h.2.2] at q
  exact q
set_option maxRecDepth 100000 in
set_option maxHeartbeats 8000000 in
theorem back_in (n : Int) (h1 : -1022 ≤ n) (h2 : n ≤ 1023) (u : World) (hT : TabAt 0 Lib.deBruijn64tab u) :
    Calls Tryd.prog 5 #[.int .i64 n] u fun en w' => en = .returned (.bool true) ∧ Below u.heap.size u w' := by
  have HTU := Aside0.mk hT
  clear hT
  have hd1 : decide (n < (-1022 : Int)) = false := decide_eq_false (by omega)
  have hd2 : decide ((1023 : Int) < n) = false := decide_eq_false (by omega)
  have QI := Aside0.mk (fun (W : World) => dint_any n W (by omega) (by omega))
  have OKN := Aside0.mk (ok_small (v := n) (e := 0) (by omega) (by decide) (by decide))
  have QOr := Aside0.mk (fun (W : World) (a b : Value) (ha : CDy W a n 0) (hb : CDy W b n 0) => (by
    have q := dorder_any ha hb OKN.out OKN.out
    rw [Int.sub_self, show sgnI 0 = 0 from rfl] at q
    exact q : Calls Tryd.prog 16 #[a, b] W fun en w' => en = .returned (.int .i64 0) ∧ Below W.heap.size W w'))
  obtain ⟨X, hX, QT, b1, b2, b3, b4⟩ : ∃ X : Nat, X < 18446744073709551616 ∧ Aside0 (∀ (W : World) (a : Value), CDy W a n 0 → Calls Tryd.prog 15 #[a] W fun en w' => en = .returned (.tuple #[.int .u64 (X : Int), .bool true]) ∧ Below W.heap.size W w') ∧ BackP 2 8 X n ∧ BackP 3 9 X n ∧ BackP 5 11 X n ∧ BackP 6 12 X n := by
    obtain ⟨p, hs⟩ := toF_small (n := n) (by omega) h2
    obtain ⟨X, hX⟩ := Option.isSome_iff_exists.1 hs
    obtain ⟨x1, x2, x3, -⟩ := toF_some (by decide) p hX
    rw [show ((0 : Int) + 1074).toNat = 1074 from rfl] at x3
    refine ⟨X, x1, ⟨fun W a ha => ?_⟩, back_2 h1 h2 x2 x3, back_3 h1 h2 x2 x3, back_5 h1 h2 x2 x3, back_6 h1 h2 x2 x3⟩
    have q := to_any ha p
    rw [hX] at q
    exact q
  obtain ⟨s0, z0, t0, p0, nx0, E0⟩ := exact_pair b1 (by decide) hX
  obtain ⟨s1, z1, t1, p1, nx1, E1⟩ := exact_pair b2 (by decide) hX
  obtain ⟨s2, z2, t2, p2, nx2, E2⟩ := exact_pair b3 (by decide) hX
  obtain ⟨s3, z3, t3, p3, nx3, E3⟩ := exact_pair b4 (by decide) hX
  have Q0 := Aside0.mk (And.intro p0 (And.intro nx0 E0))
  have Q1 := Aside0.mk (And.intro p1 (And.intro nx1 E1))
  have Q2 := Aside0.mk (And.intro p2 (And.intro nx2 E2))
  have Q3 := Aside0.mk (And.intro p3 (And.intro nx3 E3))
  clear h1 h2 hX b1 b2 b3 b4 p0 p1 p2 p3 nx0 nx1 nx2 nx3 E0 E1 E2 E3
  go_enter Tryd.func5, Tryd.ntmps5
  go_wp2_with fail
  go_at_call 9
  refine (lives_any _ HTU.out).mono ?_
  rintro en0 w ⟨rfl, hb⟩
  have HT := Aside0.mk (tab_below HTU.out hb)
  have HU := Aside0.mk hb
  clear hb HTU
  have BEL : Aside0 (BelN w 5 (((((w.alloc (.cells #[.int .u8 2, .int .u8 8] 22)).alloc (.cells #[.int .u8 3, .int .u8 9] 22)).alloc (.cells #[.int .u8 5, .int .u8 11] 22)).alloc (.cells #[.int .u8 6, .int .u8 12] 22)).alloc (.cells #[.slice (some ⟨w.heap.size, 0, none⟩) 2 2, .slice (some ⟨w.heap.size + 1, 0, none⟩) 2 2, .slice (some ⟨w.heap.size + 1 + 1, 0, none⟩) 2 2, .slice (some ⟨w.heap.size + 1 + 1 + 1, 0, none⟩) 2 2] 37))) := ⟨((((((BelN.zero w).alloc _).alloc _).alloc _).alloc _).alloc _).less (by decide)⟩
  have B0 : Aside0 ((((((w.alloc (.cells #[.int .u8 2, .int .u8 8] 22)).alloc (.cells #[.int .u8 3, .int .u8 9] 22)).alloc (.cells #[.int .u8 5, .int .u8 11] 22)).alloc (.cells #[.int .u8 6, .int .u8 12] 22)).alloc (.cells #[.slice (some ⟨w.heap.size, 0, none⟩) 2 2, .slice (some ⟨w.heap.size + 1, 0, none⟩) 2 2, .slice (some ⟨w.heap.size + 1 + 1, 0, none⟩) 2 2, .slice (some ⟨w.heap.size + 1 + 1 + 1, 0, none⟩) 2 2] 37)).heap[w.heap.size]? = some (.cells #[.int .u8 2, .int .u8 8] 22 (0, 0))) := ⟨by have h := blk_new w (.cells #[.int .u8 2, .int .u8 8] 22); exact blk_alloc (blk_alloc (blk_alloc (blk_alloc (h) _) _) _) _⟩
  have B1 : Aside0 ((((((w.alloc (.cells #[.int .u8 2, .int .u8 8] 22)).alloc (.cells #[.int .u8 3, .int .u8 9] 22)).alloc (.cells #[.int .u8 5, .int .u8 11] 22)).alloc (.cells #[.int .u8 6, .int .u8 12] 22)).alloc (.cells #[.slice (some ⟨w.heap.size, 0, none⟩) 2 2, .slice (some ⟨w.heap.size + 1, 0, none⟩) 2 2, .slice (some ⟨w.heap.size + 1 + 1, 0, none⟩) 2 2, .slice (some ⟨w.heap.size + 1 + 1 + 1, 0, none⟩) 2 2] 37)).heap[w.heap.size + 1]? = some (.cells #[.int .u8 3, .int .u8 9] 22 (0, 0))) := ⟨by have h := blk_new (w.alloc (.cells #[.int .u8 2, .int .u8 8] 22)) (.cells #[.int .u8 3, .int .u8 9] 22); rw [size_alloc'] at h; exact blk_alloc (blk_alloc (blk_alloc (h) _) _) _⟩
  have B2 : Aside0 ((((((w.alloc (.cells #[.int .u8 2, .int .u8 8] 22)).alloc (.cells #[.int .u8 3, .int .u8 9] 22)).alloc (.cells #[.int .u8 5, .int .u8 11] 22)).alloc (.cells #[.int .u8 6, .int .u8 12] 22)).alloc (.cells #[.slice (some ⟨w.heap.size, 0, none⟩) 2 2, .slice (some ⟨w.heap.size + 1, 0, none⟩) 2 2, .slice (some ⟨w.heap.size + 1 + 1, 0, none⟩) 2 2, .slice (some ⟨w.heap.size + 1 + 1 + 1, 0, none⟩) 2 2] 37)).heap[w.heap.size + 1 + 1]? = some (.cells #[.int .u8 5, .int .u8 11] 22 (0, 0))) := ⟨by have h := blk_new ((w.alloc (.cells #[.int .u8 2, .int .u8 8] 22)).alloc (.cells #[.int .u8 3, .int .u8 9] 22)) (.cells #[.int .u8 5, .int .u8 11] 22); rw [size_alloc', size_alloc'] at h; exact blk_alloc (blk_alloc (h) _) _⟩
  have B3 : Aside0 ((((((w.alloc (.cells #[.int .u8 2, .int .u8 8] 22)).alloc (.cells #[.int .u8 3, .int .u8 9] 22)).alloc (.cells #[.int .u8 5, .int .u8 11] 22)).alloc (.cells #[.int .u8 6, .int .u8 12] 22)).alloc (.cells #[.slice (some ⟨w.heap.size, 0, none⟩) 2 2, .slice (some ⟨w.heap.size + 1, 0, none⟩) 2 2, .slice (some ⟨w.heap.size + 1 + 1, 0, none⟩) 2 2, .slice (some ⟨w.heap.size + 1 + 1 + 1, 0, none⟩) 2 2] 37)).heap[w.heap.size + 1 + 1 + 1]? = some (.cells #[.int .u8 6, .int .u8 12] 22 (0, 0))) := ⟨by have h := blk_new (((w.alloc (.cells #[.int .u8 2, .int .u8 8] 22)).alloc (.cells #[.int .u8 3, .int .u8 9] 22)).alloc (.cells #[.int .u8 5, .int .u8 11] 22)) (.cells #[.int .u8 6, .int .u8 12] 22); rw [size_alloc', size_alloc', size_alloc'] at h; exact blk_alloc (h) _⟩
  have BO : Aside0 ((((((w.alloc (.cells #[.int .u8 2, .int .u8 8] 22)).alloc (.cells #[.int .u8 3, .int .u8 9] 22)).alloc (.cells #[.int .u8 5, .int .u8 11] 22)).alloc (.cells #[.int .u8 6, .int .u8 12] 22)).alloc (.cells #[.slice (some ⟨w.heap.size, 0, none⟩) 2 2, .slice (some ⟨w.heap.size + 1, 0, none⟩) 2 2, .slice (some ⟨w.heap.size + 1 + 1, 0, none⟩) 2 2, .slice (some ⟨w.heap.size + 1 + 1 + 1, 0, none⟩) 2 2] 37)).heap[w.heap.size + 1 + 1 + 1 + 1]? = some (.cells #[.slice (some ⟨w.heap.size, 0, none⟩) 2 2, .slice (some ⟨w.heap.size + 1, 0, none⟩) 2 2, .slice (some ⟨w.heap.size + 1 + 1, 0, none⟩) 2 2, .slice (some ⟨w.heap.size + 1 + 1 + 1, 0, none⟩) 2 2] 37 (0, 0))) := ⟨by have h := blk_new ((((w.alloc (.cells #[.int .u8 2, .int .u8 8] 22)).alloc (.cells #[.int .u8 3, .int .u8 9] 22)).alloc (.cells #[.int .u8 5, .int .u8 11] 22)).alloc (.cells #[.int .u8 6, .int .u8 12] 22)) (.cells #[.slice (some ⟨w.heap.size, 0, none⟩) 2 2, .slice (some ⟨w.heap.size + 1, 0, none⟩) 2 2, .slice (some ⟨w.heap.size + 1 + 1, 0, none⟩) 2 2, .slice (some ⟨w.heap.size + 1 + 1 + 1, 0, none⟩) 2 2] 37); rw [size_alloc', size_alloc', size_alloc', size_alloc'] at h; exact h⟩
  go_wp2_with fail
  go_at_call 14
  refine (QI.out _).mono ?_
  rintro en1 w1 ⟨v1, rfl, hr, hb⟩
  replace BEL := Aside0.mk (BEL.out.next hb)
  replace B0 := Aside0.mk (blk_below B0.out hb)
  replace B1 := Aside0.mk (blk_below B1.out hb)
  replace B2 := Aside0.mk (blk_below B2.out hb)
  replace B3 := Aside0.mk (blk_below B3.out hb)
  replace BO := Aside0.mk (blk_below BO.out hb)
  have PW := Aside0.mk hr
  obtain ⟨b1, A1, n1, c1, x1, rfl⟩ := hr.ex
  clear hr hb
  have BELo := BEL
  go_wp2_with (replace BEL := Aside0.mk ((BEL.out.alloc (.cells #[.bool false, .slice none 0 0, .int .i64 0] 27)).less (j := 5) (by omega)); have HN := Aside0.mk (blk_new w1 (.cells #[.bool false, .slice none 0 0, .int .i64 0] 27)); have L_B0 := lt_blk B0.out; replace B0 := Aside0.mk (blk_alloc B0.out (.cells #[.bool false, .slice none 0 0, .int .i64 0] 27)); have L_B1 := lt_blk B1.out; replace B1 := Aside0.mk (blk_alloc B1.out (.cells #[.bool false, .slice none 0 0, .int .i64 0] 27)); have L_B2 := lt_blk B2.out; replace B2 := Aside0.mk (blk_alloc B2.out (.cells #[.bool false, .slice none 0 0, .int .i64 0] 27)); have L_B3 := lt_blk B3.out; replace B3 := Aside0.mk (blk_alloc B3.out (.cells #[.bool false, .slice none 0 0, .int .i64 0] 27)); have L_BO := lt_blk BO.out; replace BO := Aside0.mk (blk_alloc BO.out (.cells #[.bool false, .slice none 0 0, .int .i64 0] 27)); replace PW := Aside0.mk (PW.out.below (below_alloc (Below.refl _ _) (.cells #[.bool false, .slice none 0 0, .int .i64 0] 27))); ((with_reducible refine gate_store (p := 4) rfl ?_); go_must (refine store_box 27 4 (.tmp 33) rfl rfl rfl (g := w1.heap.size) (e := 27) (.agg #[.bool b1, .slice A1 n1 c1, .int .i64 x1]) ([.bool b1, .slice A1 n1 c1, .int .i64 x1]) rfl rfl rfl info_dyad ?b1 HN.out rfl ?_; (case b1 => intro q hq; simp at hq; rcases hq with rfl | rfl | rfl <;> rfl); intro wb hbx hgx; have HX := Aside0.mk hbx; have HG := Aside0.mk hgx; clear hbx hgx)); replace PW := Aside0.mk (PW.out.grown_box HN.out (by decide) HG.out); have LB_XW := BELo.out.2; replace BEL := Aside0.mk (BEL.out.grown HG.out (Nat.le_trans (Nat.le_add_right _ _) LB_XW)); replace B0 := Aside0.mk (blk_grown B0.out HG.out (Nat.ne_of_lt L_B0)); replace B1 := Aside0.mk (blk_grown B1.out HG.out (Nat.ne_of_lt L_B1)); replace B2 := Aside0.mk (blk_grown B2.out HG.out (Nat.ne_of_lt L_B2)); replace B3 := Aside0.mk (blk_grown B3.out HG.out (Nat.ne_of_lt L_B3)); replace BO := Aside0.mk (blk_grown BO.out HG.out (Nat.ne_of_lt L_BO)); have NE_B0_XW := Aside0.mk (Nat.ne_of_lt L_B0); have NE_B1_XW := Aside0.mk (Nat.ne_of_lt L_B1); have NE_B2_XW := Aside0.mk (Nat.ne_of_lt L_B2); have NE_B3_XW := Aside0.mk (Nat.ne_of_lt L_B3); have NE_BO_XW := Aside0.mk (Nat.ne_of_lt L_BO); clear L_B0; clear L_B1; clear L_B2; clear L_B3; clear L_BO; have LL_XW := Aside0.mk LB_XW; clear LB_XW; have XW := HX; clear HG HN HX; obtain ⟨q0, q0'⟩ := box_cell XW.out 0 rfl; obtain ⟨q1, q1'⟩ := box_cell XW.out 1 rfl; obtain ⟨q2, q2'⟩ := box_cell XW.out 2 rfl)
  clear q0 q0' q1 q1' q2 q2'
  go_at_call 15
  refine (QT.out _ _ PW.out.c).mono ?_
  rintro en2 w2 ⟨rfl, hb⟩
  replace BEL := Aside0.mk (BEL.out.next hb)
  replace B0 := Aside0.mk (blk_below B0.out hb)
  replace B1 := Aside0.mk (blk_below B1.out hb)
  replace B2 := Aside0.mk (blk_below B2.out hb)
  replace B3 := Aside0.mk (blk_below B3.out hb)
  replace BO := Aside0.mk (blk_below BO.out hb)
  replace XW := Aside0.mk (blk_below XW.out hb)
  replace PW := Aside0.mk (PW.out.below hb)
  clear hb
  go_wp2_with fail
  replace PW := Aside0.mk (PW.out.lower (Nat.zero_le _))
  go_loopw [41] (fun v41 wr => ∃ k : Nat, v41 = .int .i64 k ∧ k ≤ 4 ∧ Aside0 (BelN w 5 wr) ∧ Aside0 (wr.heap[w.heap.size]? = some (.cells #[.int .u8 2, .int .u8 8] 22 (0, 0))) ∧ Aside0 (wr.heap[w.heap.size + 1]? = some (.cells #[.int .u8 3, .int .u8 9] 22 (0, 0))) ∧ Aside0 (wr.heap[w.heap.size + 1 + 1]? = some (.cells #[.int .u8 5, .int .u8 11] 22 (0, 0))) ∧ Aside0 (wr.heap[w.heap.size + 1 + 1 + 1]? = some (.cells #[.int .u8 6, .int .u8 12] 22 (0, 0))) ∧ Aside0 (wr.heap[w.heap.size + 1 + 1 + 1 + 1]? = some (.cells #[.slice (some ⟨w.heap.size, 0, none⟩) 2 2, .slice (some ⟨w.heap.size + 1, 0, none⟩) 2 2, .slice (some ⟨w.heap.size + 1 + 1, 0, none⟩) 2 2, .slice (some ⟨w.heap.size + 1 + 1 + 1, 0, none⟩) 2 2] 37 (0, 0))) ∧ Aside0 (wr.heap[w1.heap.size]? = some (.cells #[.bool b1, .slice A1 n1 c1, .int .i64 x1] 27 (0, 0))) ∧ Aside0 (RDy wr 0 (.agg #[.bool b1, .slice A1 n1 c1, .int .i64 x1]) n 0)) (fun v41 _ => 4 - (intOf v41).toNat)
  case atStart => exact ⟨0, rfl, by decide, BEL, B0, B1, B2, B3, BO, XW, PW⟩
  case round =>
    clear BELo BEL B0 B1 B2 B3 BO XW PW
    obtain ⟨k, rfl, hk, BEL, B0, B1, B2, B3, BO, XW, PW⟩ := hrel
    obtain rfl | rfl | rfl | rfl | rfl : k = 0 ∨ k = 1 ∨ k = 2 ∨ k = 3 ∨ k = 4 := by omega
    · have hq := Aside0.mk True.intro
      obtain ⟨hp, hn, he⟩ := Q0.out
      have HP := Aside0.mk hp
      have HN := Aside0.mk hn
      have HEX := Aside0.mk he
      clear hp hn he Q0 Q1 Q2 Q3 hk hq
      obtain ⟨qo, qo'⟩ := box_cell BO.out 0 rfl
      obtain ⟨q3, q3'⟩ := box_cell B0.out 0 rfl
      obtain ⟨q4, q4'⟩ := box_cell B0.out 1 rfl
      go_wp2_with fail
      clear qo qo' q3 q3' q4 q4'
      go_at_call 11
      refine (HEX.out _ (tab_below HT.out BEL.out.1)).mono ?_
      rintro en3 w3 ⟨v3, rfl, hr, hb⟩
      replace BEL := Aside0.mk (BEL.out.next hb)
      replace B0 := Aside0.mk (blk_below B0.out hb)
      replace B1 := Aside0.mk (blk_below B1.out hb)
      replace B2 := Aside0.mk (blk_below B2.out hb)
      replace B3 := Aside0.mk (blk_below B3.out hb)
      replace BO := Aside0.mk (blk_below BO.out hb)
      replace XW := Aside0.mk (blk_below XW.out hb)
      replace PW := Aside0.mk (PW.out.below hb)
      have PD := Aside0.mk hr
      obtain ⟨b3, A3, n3, c3, x3, rfl⟩ := hr.ex
      clear hr hb
      have BELo := BEL
      go_wp2_with (replace BEL := Aside0.mk ((BEL.out.alloc (.cells #[.bool false, .slice none 0 0, .int .i64 0] 27)).less (j := 5) (by omega)); have HN := Aside0.mk (blk_new w3 (.cells #[.bool false, .slice none 0 0, .int .i64 0] 27)); have L_B0 := lt_blk B0.out; replace B0 := Aside0.mk (blk_alloc B0.out (.cells #[.bool false, .slice none 0 0, .int .i64 0] 27)); have L_B1 := lt_blk B1.out; replace B1 := Aside0.mk (blk_alloc B1.out (.cells #[.bool false, .slice none 0 0, .int .i64 0] 27)); have L_B2 := lt_blk B2.out; replace B2 := Aside0.mk (blk_alloc B2.out (.cells #[.bool false, .slice none 0 0, .int .i64 0] 27)); have L_B3 := lt_blk B3.out; replace B3 := Aside0.mk (blk_alloc B3.out (.cells #[.bool false, .slice none 0 0, .int .i64 0] 27)); have L_BO := lt_blk BO.out; replace BO := Aside0.mk (blk_alloc BO.out (.cells #[.bool false, .slice none 0 0, .int .i64 0] 27)); have L_XW := lt_blk XW.out; replace XW := Aside0.mk (blk_alloc XW.out (.cells #[.bool false, .slice none 0 0, .int .i64 0] 27)); replace PW := Aside0.mk (PW.out.below (below_alloc (Below.refl _ _) (.cells #[.bool false, .slice none 0 0, .int .i64 0] 27))); replace PD := Aside0.mk (PD.out.below (below_alloc (Below.refl _ _) (.cells #[.bool false, .slice none 0 0, .int .i64 0] 27))); ((with_reducible refine gate_store (p := 9) rfl ?_); go_must (refine store_box 27 9 (.tmp 51) rfl rfl rfl (g := w3.heap.size) (e := 27) (.agg #[.bool b3, .slice A3 n3 c3, .int .i64 x3]) ([.bool b3, .slice A3 n3 c3, .int .i64 x3]) rfl rfl rfl info_dyad ?b1 HN.out rfl ?_; (case b1 => intro q hq; simp at hq; rcases hq with rfl | rfl | rfl <;> rfl); intro wb hbx hgx; have HX := Aside0.mk hbx; have HG := Aside0.mk hgx; clear hbx hgx)); replace PW := Aside0.mk (PW.out.grown_box HN.out (by decide) HG.out); replace PD := Aside0.mk (PD.out.grown_box HN.out (by decide) HG.out); have LB_XD := BELo.out.2; replace BEL := Aside0.mk (BEL.out.grown HG.out (Nat.le_trans (Nat.le_add_right _ _) LB_XD)); replace B0 := Aside0.mk (blk_grown B0.out HG.out (Nat.ne_of_lt L_B0)); replace B1 := Aside0.mk (blk_grown B1.out HG.out (Nat.ne_of_lt L_B1)); replace B2 := Aside0.mk (blk_grown B2.out HG.out (Nat.ne_of_lt L_B2)); replace B3 := Aside0.mk (blk_grown B3.out HG.out (Nat.ne_of_lt L_B3)); replace BO := Aside0.mk (blk_grown BO.out HG.out (Nat.ne_of_lt L_BO)); replace XW := Aside0.mk (blk_grown XW.out HG.out (Nat.ne_of_lt L_XW)); have NE_B0_XD := Aside0.mk (Nat.ne_of_lt L_B0); have NE_B1_XD := Aside0.mk (Nat.ne_of_lt L_B1); have NE_B2_XD := Aside0.mk (Nat.ne_of_lt L_B2); have NE_B3_XD := Aside0.mk (Nat.ne_of_lt L_B3); have NE_BO_XD := Aside0.mk (Nat.ne_of_lt L_BO); have NE_XW_XD := Aside0.mk (Nat.ne_of_lt L_XW); clear L_B0; clear L_B1; clear L_B2; clear L_B3; clear L_BO; clear L_XW; have LL_XD := Aside0.mk LB_XD; clear LB_XD; have XD := HX; clear HG HN HX; obtain ⟨q5, q5'⟩ := box_cell XD.out 0 rfl; obtain ⟨q6, q6'⟩ := box_cell XD.out 1 rfl; obtain ⟨q7, q7'⟩ := box_cell XD.out 2 rfl)
      clear q5 q5' q6 q6' q7 q7'
      go_at_call 15
      refine (to_any PD.out.c HP.out).mono ?_
      rintro en4 w4 ⟨rfl, hb⟩
      replace BEL := Aside0.mk (BEL.out.next hb)
      replace B0 := Aside0.mk (blk_below B0.out hb)
      replace B1 := Aside0.mk (blk_below B1.out hb)
      replace B2 := Aside0.mk (blk_below B2.out hb)
      replace B3 := Aside0.mk (blk_below B3.out hb)
      replace BO := Aside0.mk (blk_below BO.out hb)
      replace XW := Aside0.mk (blk_below XW.out hb)
      replace XD := Aside0.mk (blk_below XD.out hb)
      replace PW := Aside0.mk (PW.out.below hb)
      replace PD := Aside0.mk (PD.out.below hb)
      clear hb
      cases s0
      case false =>
        go_wp2_with fail
        go_roundw
        case rel => exact ⟨1, rfl, by decide, BEL, B0, B1, B2, B3, BO, XW, PW⟩
        case measure => simp [intOf]
      case true =>
        cases hto : toF z0 t0 with
        | none =>
          clear hto
          go_wp2_with fail
          go_roundw
          case rel => exact ⟨1, rfl, by decide, BEL, B0, B1, B2, B3, BO, XW, PW⟩
          case measure => simp [intOf]
        | some y =>
          have HY := Aside0.mk (HN.out rfl y hto)
          clear hto
          obtain ⟨q8, q8'⟩ := box_cell B0.out 0 rfl
          obtain ⟨q9, q9'⟩ := box_cell B0.out 1 rfl
          go_wp2_with fail
          clear q8 q8' q9 q9'
          go_at_call 11
          refine (exact_back (by decide) HY.out _ (tab_below HT.out BEL.out.1)).mono ?_
          rintro en5 w5 ⟨v5, rfl, hr, hb⟩
          replace BEL := Aside0.mk (BEL.out.next hb)
          replace B0 := Aside0.mk (blk_below B0.out hb)
          replace B1 := Aside0.mk (blk_below B1.out hb)
          replace B2 := Aside0.mk (blk_below B2.out hb)
          replace B3 := Aside0.mk (blk_below B3.out hb)
          replace BO := Aside0.mk (blk_below BO.out hb)
          replace XW := Aside0.mk (blk_below XW.out hb)
          replace XD := Aside0.mk (blk_below XD.out hb)
          replace PW := Aside0.mk (PW.out.below hb)
          replace PD := Aside0.mk (PD.out.below hb)
          have PE := Aside0.mk hr
          obtain ⟨b5, A5, n5, c5, x5, rfl⟩ := hr.ex
          clear hr hb
          have BELo := BEL
          go_wp2_with (replace BEL := Aside0.mk ((BEL.out.alloc (.cells #[.bool false, .slice none 0 0, .int .i64 0] 27)).less (j := 5) (by omega)); have HN := Aside0.mk (blk_new w5 (.cells #[.bool false, .slice none 0 0, .int .i64 0] 27)); have L_B0 := lt_blk B0.out; replace B0 := Aside0.mk (blk_alloc B0.out (.cells #[.bool false, .slice none 0 0, .int .i64 0] 27)); have L_B1 := lt_blk B1.out; replace B1 := Aside0.mk (blk_alloc B1.out (.cells #[.bool false, .slice none 0 0, .int .i64 0] 27)); have L_B2 := lt_blk B2.out; replace B2 := Aside0.mk (blk_alloc B2.out (.cells #[.bool false, .slice none 0 0, .int .i64 0] 27)); have L_B3 := lt_blk B3.out; replace B3 := Aside0.mk (blk_alloc B3.out (.cells #[.bool false, .slice none 0 0, .int .i64 0] 27)); have L_BO := lt_blk BO.out; replace BO := Aside0.mk (blk_alloc BO.out (.cells #[.bool false, .slice none 0 0, .int .i64 0] 27)); have L_XW := lt_blk XW.out; replace XW := Aside0.mk (blk_alloc XW.out (.cells #[.bool false, .slice none 0 0, .int .i64 0] 27)); have L_XD := lt_blk XD.out; replace XD := Aside0.mk (blk_alloc XD.out (.cells #[.bool false, .slice none 0 0, .int .i64 0] 27)); replace PW := Aside0.mk (PW.out.below (below_alloc (Below.refl _ _) (.cells #[.bool false, .slice none 0 0, .int .i64 0] 27))); replace PD := Aside0.mk (PD.out.below (below_alloc (Below.refl _ _) (.cells #[.bool false, .slice none 0 0, .int .i64 0] 27))); replace PE := Aside0.mk (PE.out.below (below_alloc (Below.refl _ _) (.cells #[.bool false, .slice none 0 0, .int .i64 0] 27))); ((with_reducible refine gate_store (p := 14) rfl ?_); go_must (refine store_box 27 14 (.tmp 73) rfl rfl rfl (g := w5.heap.size) (e := 27) (.agg #[.bool b5, .slice A5 n5 c5, .int .i64 x5]) ([.bool b5, .slice A5 n5 c5, .int .i64 x5]) rfl rfl rfl info_dyad ?b1 HN.out rfl ?_; (case b1 => intro q hq; simp at hq; rcases hq with rfl | rfl | rfl <;> rfl); intro wb hbx hgx; have HX := Aside0.mk hbx; have HG := Aside0.mk hgx; clear hbx hgx)); replace PW := Aside0.mk (PW.out.grown_box HN.out (by decide) HG.out); replace PD := Aside0.mk (PD.out.grown_box HN.out (by decide) HG.out); replace PE := Aside0.mk (PE.out.grown_box HN.out (by decide) HG.out); have LB_XE := BELo.out.2; replace BEL := Aside0.mk (BEL.out.grown HG.out (Nat.le_trans (Nat.le_add_right _ _) LB_XE)); replace B0 := Aside0.mk (blk_grown B0.out HG.out (Nat.ne_of_lt L_B0)); replace B1 := Aside0.mk (blk_grown B1.out HG.out (Nat.ne_of_lt L_B1)); replace B2 := Aside0.mk (blk_grown B2.out HG.out (Nat.ne_of_lt L_B2)); replace B3 := Aside0.mk (blk_grown B3.out HG.out (Nat.ne_of_lt L_B3)); replace BO := Aside0.mk (blk_grown BO.out HG.out (Nat.ne_of_lt L_BO)); replace XW := Aside0.mk (blk_grown XW.out HG.out (Nat.ne_of_lt L_XW)); replace XD := Aside0.mk (blk_grown XD.out HG.out (Nat.ne_of_lt L_XD)); have NE_B0_XE := Aside0.mk (Nat.ne_of_lt L_B0); have NE_B1_XE := Aside0.mk (Nat.ne_of_lt L_B1); have NE_B2_XE := Aside0.mk (Nat.ne_of_lt L_B2); have NE_B3_XE := Aside0.mk (Nat.ne_of_lt L_B3); have NE_BO_XE := Aside0.mk (Nat.ne_of_lt L_BO); have NE_XW_XE := Aside0.mk (Nat.ne_of_lt L_XW); have NE_XD_XE := Aside0.mk (Nat.ne_of_lt L_XD); clear L_B0; clear L_B1; clear L_B2; clear L_B3; clear L_BO; clear L_XW; clear L_XD; have LL_XE := Aside0.mk LB_XE; clear LB_XE; have XE := HX; clear HG HN HX; obtain ⟨q10, q10'⟩ := box_cell XE.out 0 rfl; obtain ⟨q11, q11'⟩ := box_cell XE.out 1 rfl; obtain ⟨q12, q12'⟩ := box_cell XE.out 2 rfl; obtain ⟨q13, q13'⟩ := box_cell XW.out 0 rfl; obtain ⟨q14, q14'⟩ := box_cell XW.out 1 rfl; obtain ⟨q15, q15'⟩ := box_cell XW.out 2 rfl)
          clear q10 q10' q11 q11' q12 q12' q13 q13' q14 q14' q15 q15'
          go_at_call 16
          refine (QOr.out _ _ _ PE.out.c PW.out.c).mono ?_
          rintro en6 w6 ⟨rfl, hb⟩
          replace BEL := Aside0.mk (BEL.out.next hb)
          replace B0 := Aside0.mk (blk_below B0.out hb)
          replace B1 := Aside0.mk (blk_below B1.out hb)
          replace B2 := Aside0.mk (blk_below B2.out hb)
          replace B3 := Aside0.mk (blk_below B3.out hb)
          replace BO := Aside0.mk (blk_below BO.out hb)
          replace XW := Aside0.mk (blk_below XW.out hb)
          replace XD := Aside0.mk (blk_below XD.out hb)
          replace XE := Aside0.mk (blk_below XE.out hb)
          replace PW := Aside0.mk (PW.out.below hb)
          replace PD := Aside0.mk (PD.out.below hb)
          replace PE := Aside0.mk (PE.out.below hb)
          clear hb
          go_wp2_with fail
          go_roundw
          case rel => exact ⟨1, rfl, by decide, BEL, B0, B1, B2, B3, BO, XW, PW⟩
          case measure => simp [intOf]
    · have hq := Aside0.mk True.intro
      obtain ⟨hp, hn, he⟩ := Q1.out
      have HP := Aside0.mk hp
      have HN := Aside0.mk hn
      have HEX := Aside0.mk he
      clear hp hn he Q0 Q1 Q2 Q3 hk hq
      obtain ⟨qo, qo'⟩ := box_cell BO.out 1 rfl
      obtain ⟨q3, q3'⟩ := box_cell B1.out 0 rfl
      obtain ⟨q4, q4'⟩ := box_cell B1.out 1 rfl
      go_wp2_with fail
      clear qo qo' q3 q3' q4 q4'
      go_at_call 11
      refine (HEX.out _ (tab_below HT.out BEL.out.1)).mono ?_
      rintro en3 w3 ⟨v3, rfl, hr, hb⟩
      replace BEL := Aside0.mk (BEL.out.next hb)
      replace B0 := Aside0.mk (blk_below B0.out hb)
      replace B1 := Aside0.mk (blk_below B1.out hb)
      replace B2 := Aside0.mk (blk_below B2.out hb)
      replace B3 := Aside0.mk (blk_below B3.out hb)
      replace BO := Aside0.mk (blk_below BO.out hb)
      replace XW := Aside0.mk (blk_below XW.out hb)
      replace PW := Aside0.mk (PW.out.below hb)
      have PD := Aside0.mk hr
      obtain ⟨b3, A3, n3, c3, x3, rfl⟩ := hr.ex
      clear hr hb
      have BELo := BEL
      go_wp2_with (replace BEL := Aside0.mk ((BEL.out.alloc (.cells #[.bool false, .slice none 0 0, .int .i64 0] 27)).less (j := 5) (by omega)); have HN := Aside0.mk (blk_new w3 (.cells #[.bool false, .slice none 0 0, .int .i64 0] 27)); have L_B0 := lt_blk B0.out; replace B0 := Aside0.mk (blk_alloc B0.out (.cells #[.bool false, .slice none 0 0, .int .i64 0] 27)); have L_B1 := lt_blk B1.out; replace B1 := Aside0.mk (blk_alloc B1.out (.cells #[.bool false, .slice none 0 0, .int .i64 0] 27)); have L_B2 := lt_blk B2.out; replace B2 := Aside0.mk (blk_alloc B2.out (.cells #[.bool false, .slice none 0 0, .int .i64 0] 27)); have L_B3 := lt_blk B3.out; replace B3 := Aside0.mk (blk_alloc B3.out (.cells #[.bool false, .slice none 0 0, .int .i64 0] 27)); have L_BO := lt_blk BO.out; replace BO := Aside0.mk (blk_alloc BO.out (.cells #[.bool false, .slice none 0 0, .int .i64 0] 27)); have L_XW := lt_blk XW.out; replace XW := Aside0.mk (blk_alloc XW.out (.cells #[.bool false, .slice none 0 0, .int .i64 0] 27)); replace PW := Aside0.mk (PW.out.below (below_alloc (Below.refl _ _) (.cells #[.bool false, .slice none 0 0, .int .i64 0] 27))); replace PD := Aside0.mk (PD.out.below (below_alloc (Below.refl _ _) (.cells #[.bool false, .slice none 0 0, .int .i64 0] 27))); ((with_reducible refine gate_store (p := 9) rfl ?_); go_must (refine store_box 27 9 (.tmp 51) rfl rfl rfl (g := w3.heap.size) (e := 27) (.agg #[.bool b3, .slice A3 n3 c3, .int .i64 x3]) ([.bool b3, .slice A3 n3 c3, .int .i64 x3]) rfl rfl rfl info_dyad ?b1 HN.out rfl ?_; (case b1 => intro q hq; simp at hq; rcases hq with rfl | rfl | rfl <;> rfl); intro wb hbx hgx; have HX := Aside0.mk hbx; have HG := Aside0.mk hgx; clear hbx hgx)); replace PW := Aside0.mk (PW.out.grown_box HN.out (by decide) HG.out); replace PD := Aside0.mk (PD.out.grown_box HN.out (by decide) HG.out); have LB_XD := BELo.out.2; replace BEL := Aside0.mk (BEL.out.grown HG.out (Nat.le_trans (Nat.le_add_right _ _) LB_XD)); replace B0 := Aside0.mk (blk_grown B0.out HG.out (Nat.ne_of_lt L_B0)); replace B1 := Aside0.mk (blk_grown B1.out HG.out (Nat.ne_of_lt L_B1)); replace B2 := Aside0.mk (blk_grown B2.out HG.out (Nat.ne_of_lt L_B2)); replace B3 := Aside0.mk (blk_grown B3.out HG.out (Nat.ne_of_lt L_B3)); replace BO := Aside0.mk (blk_grown BO.out HG.out (Nat.ne_of_lt L_BO)); replace XW := Aside0.mk (blk_grown XW.out HG.out (Nat.ne_of_lt L_XW)); have NE_B0_XD := Aside0.mk (Nat.ne_of_lt L_B0); have NE_B1_XD := Aside0.mk (Nat.ne_of_lt L_B1); have NE_B2_XD := Aside0.mk (Nat.ne_of_lt L_B2); have NE_B3_XD := Aside0.mk (Nat.ne_of_lt L_B3); have NE_BO_XD := Aside0.mk (Nat.ne_of_lt L_BO); have NE_XW_XD := Aside0.mk (Nat.ne_of_lt L_XW); clear L_B0; clear L_B1; clear L_B2; clear L_B3; clear L_BO; clear L_XW; have LL_XD := Aside0.mk LB_XD; clear LB_XD; have XD := HX; clear HG HN HX; obtain ⟨q5, q5'⟩ := box_cell XD.out 0 rfl; obtain ⟨q6, q6'⟩ := box_cell XD.out 1 rfl; obtain ⟨q7, q7'⟩ := box_cell XD.out 2 rfl)
      clear q5 q5' q6 q6' q7 q7'
      go_at_call 15
      refine (to_any PD.out.c HP.out).mono ?_
      rintro en4 w4 ⟨rfl, hb⟩
      replace BEL := Aside0.mk (BEL.out.next hb)
      replace B0 := Aside0.mk (blk_below B0.out hb)
      replace B1 := Aside0.mk (blk_below B1.out hb)
      replace B2 := Aside0.mk (blk_below B2.out hb)
      replace B3 := Aside0.mk (blk_below B3.out hb)
      replace BO := Aside0.mk (blk_below BO.out hb)
      replace XW := Aside0.mk (blk_below XW.out hb)
      replace XD := Aside0.mk (blk_below XD.out hb)
      replace PW := Aside0.mk (PW.out.below hb)
      replace PD := Aside0.mk (PD.out.below hb)
      clear hb
      cases s1
      case false =>
        go_wp2_with fail
        go_roundw
        case rel => exact ⟨2, rfl, by decide, BEL, B0, B1, B2, B3, BO, XW, PW⟩
        case measure => simp [intOf]
      case true =>
        cases hto : toF z1 t1 with
        | none =>
          clear hto
          go_wp2_with fail
          go_roundw
          case rel => exact ⟨2, rfl, by decide, BEL, B0, B1, B2, B3, BO, XW, PW⟩
          case measure => simp [intOf]
        | some y =>
          have HY := Aside0.mk (HN.out rfl y hto)
          clear hto
          obtain ⟨q8, q8'⟩ := box_cell B1.out 0 rfl
          obtain ⟨q9, q9'⟩ := box_cell B1.out 1 rfl
          go_wp2_with fail
          clear q8 q8' q9 q9'
          go_at_call 11
          refine (exact_back (by decide) HY.out _ (tab_below HT.out BEL.out.1)).mono ?_
          rintro en5 w5 ⟨v5, rfl, hr, hb⟩
          replace BEL := Aside0.mk (BEL.out.next hb)
          replace B0 := Aside0.mk (blk_below B0.out hb)
          replace B1 := Aside0.mk (blk_below B1.out hb)
          replace B2 := Aside0.mk (blk_below B2.out hb)
          replace B3 := Aside0.mk (blk_below B3.out hb)
          replace BO := Aside0.mk (blk_below BO.out hb)
          replace XW := Aside0.mk (blk_below XW.out hb)
          replace XD := Aside0.mk (blk_below XD.out hb)
          replace PW := Aside0.mk (PW.out.below hb)
          replace PD := Aside0.mk (PD.out.below hb)
          have PE := Aside0.mk hr
          obtain ⟨b5, A5, n5, c5, x5, rfl⟩ := hr.ex
          clear hr hb
          have BELo := BEL
          go_wp2_with (replace BEL := Aside0.mk ((BEL.out.alloc (.cells #[.bool false, .slice none 0 0, .int .i64 0] 27)).less (j := 5) (by omega)); have HN := Aside0.mk (blk_new w5 (.cells #[.bool false, .slice none 0 0, .int .i64 0] 27)); have L_B0 := lt_blk B0.out; replace B0 := Aside0.mk (blk_alloc B0.out (.cells #[.bool false, .slice none 0 0, .int .i64 0] 27)); have L_B1 := lt_blk B1.out; replace B1 := Aside0.mk (blk_alloc B1.out (.cells #[.bool false, .slice none 0 0, .int .i64 0] 27)); have L_B2 := lt_blk B2.out; replace B2 := Aside0.mk (blk_alloc B2.out (.cells #[.bool false, .slice none 0 0, .int .i64 0] 27)); have L_B3 := lt_blk B3.out; replace B3 := Aside0.mk (blk_alloc B3.out (.cells #[.bool false, .slice none 0 0, .int .i64 0] 27)); have L_BO := lt_blk BO.out; replace BO := Aside0.mk (blk_alloc BO.out (.cells #[.bool false, .slice none 0 0, .int .i64 0] 27)); have L_XW := lt_blk XW.out; replace XW := Aside0.mk (blk_alloc XW.out (.cells #[.bool false, .slice none 0 0, .int .i64 0] 27)); have L_XD := lt_blk XD.out; replace XD := Aside0.mk (blk_alloc XD.out (.cells #[.bool false, .slice none 0 0, .int .i64 0] 27)); replace PW := Aside0.mk (PW.out.below (below_alloc (Below.refl _ _) (.cells #[.bool false, .slice none 0 0, .int .i64 0] 27))); replace PD := Aside0.mk (PD.out.below (below_alloc (Below.refl _ _) (.cells #[.bool false, .slice none 0 0, .int .i64 0] 27))); replace PE := Aside0.mk (PE.out.below (below_alloc (Below.refl _ _) (.cells #[.bool false, .slice none 0 0, .int .i64 0] 27))); ((with_reducible refine gate_store (p := 14) rfl ?_); go_must (refine store_box 27 14 (.tmp 73) rfl rfl rfl (g := w5.heap.size) (e := 27) (.agg #[.bool b5, .slice A5 n5 c5, .int .i64 x5]) ([.bool b5, .slice A5 n5 c5, .int .i64 x5]) rfl rfl rfl info_dyad ?b1 HN.out rfl ?_; (case b1 => intro q hq; simp at hq; rcases hq with rfl | rfl | rfl <;> rfl); intro wb hbx hgx; have HX := Aside0.mk hbx; have HG := Aside0.mk hgx; clear hbx hgx)); replace PW := Aside0.mk (PW.out.grown_box HN.out (by decide) HG.out); replace PD := Aside0.mk (PD.out.grown_box HN.out (by decide) HG.out); replace PE := Aside0.mk (PE.out.grown_box HN.out (by decide) HG.out); have LB_XE := BELo.out.2; replace BEL := Aside0.mk (BEL.out.grown HG.out (Nat.le_trans (Nat.le_add_right _ _) LB_XE)); replace B0 := Aside0.mk (blk_grown B0.out HG.out (Nat.ne_of_lt L_B0)); replace B1 := Aside0.mk (blk_grown B1.out HG.out (Nat.ne_of_lt L_B1)); replace B2 := Aside0.mk (blk_grown B2.out HG.out (Nat.ne_of_lt L_B2)); replace B3 := Aside0.mk (blk_grown B3.out HG.out (Nat.ne_of_lt L_B3)); replace BO := Aside0.mk (blk_grown BO.out HG.out (Nat.ne_of_lt L_BO)); replace XW := Aside0.mk (blk_grown XW.out HG.out (Nat.ne_of_lt L_XW)); replace XD := Aside0.mk (blk_grown XD.out HG.out (Nat.ne_of_lt L_XD)); have NE_B0_XE := Aside0.mk (Nat.ne_of_lt L_B0); have NE_B1_XE := Aside0.mk (Nat.ne_of_lt L_B1); have NE_B2_XE := Aside0.mk (Nat.ne_of_lt L_B2); have NE_B3_XE := Aside0.mk (Nat.ne_of_lt L_B3); have NE_BO_XE := Aside0.mk (Nat.ne_of_lt L_BO); have NE_XW_XE := Aside0.mk (Nat.ne_of_lt L_XW); have NE_XD_XE := Aside0.mk (Nat.ne_of_lt L_XD); clear L_B0; clear L_B1; clear L_B2; clear L_B3; clear L_BO; clear L_XW; clear L_XD; have LL_XE := Aside0.mk LB_XE; clear LB_XE; have XE := HX; clear HG HN HX; obtain ⟨q10, q10'⟩ := box_cell XE.out 0 rfl; obtain ⟨q11, q11'⟩ := box_cell XE.out 1 rfl; obtain ⟨q12, q12'⟩ := box_cell XE.out 2 rfl; obtain ⟨q13, q13'⟩ := box_cell XW.out 0 rfl; obtain ⟨q14, q14'⟩ := box_cell XW.out 1 rfl; obtain ⟨q15, q15'⟩ := box_cell XW.out 2 rfl)
          clear q10 q10' q11 q11' q12 q12' q13 q13' q14 q14' q15 q15'
          go_at_call 16
          refine (QOr.out _ _ _ PE.out.c PW.out.c).mono ?_
          rintro en6 w6 ⟨rfl, hb⟩
          replace BEL := Aside0.mk (BEL.out.next hb)
          replace B0 := Aside0.mk (blk_below B0.out hb)
          replace B1 := Aside0.mk (blk_below B1.out hb)
          replace B2 := Aside0.mk (blk_below B2.out hb)
          replace B3 := Aside0.mk (blk_below B3.out hb)
          replace BO := Aside0.mk (blk_below BO.out hb)
          replace XW := Aside0.mk (blk_below XW.out hb)
          replace XD := Aside0.mk (blk_below XD.out hb)
          replace XE := Aside0.mk (blk_below XE.out hb)
          replace PW := Aside0.mk (PW.out.below hb)
          replace PD := Aside0.mk (PD.out.below hb)
          replace PE := Aside0.mk (PE.out.below hb)
          clear hb
          go_wp2_with fail
          go_roundw
          case rel => exact ⟨2, rfl, by decide, BEL, B0, B1, B2, B3, BO, XW, PW⟩
          case measure => simp [intOf]
    · have hq := Aside0.mk True.intro
      obtain ⟨hp, hn, he⟩ := Q2.out
      have HP := Aside0.mk hp
      have HN := Aside0.mk hn
      have HEX := Aside0.mk he
      clear hp hn he Q0 Q1 Q2 Q3 hk hq
      obtain ⟨qo, qo'⟩ := box_cell BO.out 2 rfl
      obtain ⟨q3, q3'⟩ := box_cell B2.out 0 rfl
      obtain ⟨q4, q4'⟩ := box_cell B2.out 1 rfl
      go_wp2_with fail
      clear qo qo' q3 q3' q4 q4'
      go_at_call 11
      refine (HEX.out _ (tab_below HT.out BEL.out.1)).mono ?_
      rintro en3 w3 ⟨v3, rfl, hr, hb⟩
      replace BEL := Aside0.mk (BEL.out.next hb)
      replace B0 := Aside0.mk (blk_below B0.out hb)
      replace B1 := Aside0.mk (blk_below B1.out hb)
      replace B2 := Aside0.mk (blk_below B2.out hb)
      replace B3 := Aside0.mk (blk_below B3.out hb)
      replace BO := Aside0.mk (blk_below BO.out hb)
      replace XW := Aside0.mk (blk_below XW.out hb)
      replace PW := Aside0.mk (PW.out.below hb)
      have PD := Aside0.mk hr
      obtain ⟨b3, A3, n3, c3, x3, rfl⟩ := hr.ex
      clear hr hb
      have BELo := BEL
      go_wp2_with (replace BEL := Aside0.mk ((BEL.out.alloc (.cells #[.bool false, .slice none 0 0, .int .i64 0] 27)).less (j := 5) (by omega)); have HN := Aside0.mk (blk_new w3 (.cells #[.bool false, .slice none 0 0, .int .i64 0] 27)); have L_B0 := lt_blk B0.out; replace B0 := Aside0.mk (blk_alloc B0.out (.cells #[.bool false, .slice none 0 0, .int .i64 0] 27)); have L_B1 := lt_blk B1.out; replace B1 := Aside0.mk (blk_alloc B1.out (.cells #[.bool false, .slice none 0 0, .int .i64 0] 27)); have L_B2 := lt_blk B2.out; replace B2 := Aside0.mk (blk_alloc B2.out (.cells #[.bool false, .slice none 0 0, .int .i64 0] 27)); have L_B3 := lt_blk B3.out; replace B3 := Aside0.mk (blk_alloc B3.out (.cells #[.bool false, .slice none 0 0, .int .i64 0] 27)); have L_BO := lt_blk BO.out; replace BO := Aside0.mk (blk_alloc BO.out (.cells #[.bool false, .slice none 0 0, .int .i64 0] 27)); have L_XW := lt_blk XW.out; replace XW := Aside0.mk (blk_alloc XW.out (.cells #[.bool false, .slice none 0 0, .int .i64 0] 27)); replace PW := Aside0.mk (PW.out.below (below_alloc (Below.refl _ _) (.cells #[.bool false, .slice none 0 0, .int .i64 0] 27))); replace PD := Aside0.mk (PD.out.below (below_alloc (Below.refl _ _) (.cells #[.bool false, .slice none 0 0, .int .i64 0] 27))); ((with_reducible refine gate_store (p := 9) rfl ?_); go_must (refine store_box 27 9 (.tmp 51) rfl rfl rfl (g := w3.heap.size) (e := 27) (.agg #[.bool b3, .slice A3 n3 c3, .int .i64 x3]) ([.bool b3, .slice A3 n3 c3, .int .i64 x3]) rfl rfl rfl info_dyad ?b1 HN.out rfl ?_; (case b1 => intro q hq; simp at hq; rcases hq with rfl | rfl | rfl <;> rfl); intro wb hbx hgx; have HX := Aside0.mk hbx; have HG := Aside0.mk hgx; clear hbx hgx)); replace PW := Aside0.mk (PW.out.grown_box HN.out (by decide) HG.out); replace PD := Aside0.mk (PD.out.grown_box HN.out (by decide) HG.out); have LB_XD := BELo.out.2; replace BEL := Aside0.mk (BEL.out.grown HG.out (Nat.le_trans (Nat.le_add_right _ _) LB_XD)); replace B0 := Aside0.mk (blk_grown B0.out HG.out (Nat.ne_of_lt L_B0)); replace B1 := Aside0.mk (blk_grown B1.out HG.out (Nat.ne_of_lt L_B1)); replace B2 := Aside0.mk (blk_grown B2.out HG.out (Nat.ne_of_lt L_B2)); replace B3 := Aside0.mk (blk_grown B3.out HG.out (Nat.ne_of_lt L_B3)); replace BO := Aside0.mk (blk_grown BO.out HG.out (Nat.ne_of_lt L_BO)); replace XW := Aside0.mk (blk_grown XW.out HG.out (Nat.ne_of_lt L_XW)); have NE_B0_XD := Aside0.mk (Nat.ne_of_lt L_B0); have NE_B1_XD := Aside0.mk (Nat.ne_of_lt L_B1); have NE_B2_XD := Aside0.mk (Nat.ne_of_lt L_B2); have NE_B3_XD := Aside0.mk (Nat.ne_of_lt L_B3); have NE_BO_XD := Aside0.mk (Nat.ne_of_lt L_BO); have NE_XW_XD := Aside0.mk (Nat.ne_of_lt L_XW); clear L_B0; clear L_B1; clear L_B2; clear L_B3; clear L_BO; clear L_XW; have LL_XD := Aside0.mk LB_XD; clear LB_XD; have XD := HX; clear HG HN HX; obtain ⟨q5, q5'⟩ := box_cell XD.out 0 rfl; obtain ⟨q6, q6'⟩ := box_cell XD.out 1 rfl; obtain ⟨q7, q7'⟩ := box_cell XD.out 2 rfl)
      clear q5 q5' q6 q6' q7 q7'
      go_at_call 15
      refine (to_any PD.out.c HP.out).mono ?_
      rintro en4 w4 ⟨rfl, hb⟩
      replace BEL := Aside0.mk (BEL.out.next hb)
      replace B0 := Aside0.mk (blk_below B0.out hb)
      replace B1 := Aside0.mk (blk_below B1.out hb)
      replace B2 := Aside0.mk (blk_below B2.out hb)
      replace B3 := Aside0.mk (blk_below B3.out hb)
      replace BO := Aside0.mk (blk_below BO.out hb)
      replace XW := Aside0.mk (blk_below XW.out hb)
      replace XD := Aside0.mk (blk_below XD.out hb)
      replace PW := Aside0.mk (PW.out.below hb)
      replace PD := Aside0.mk (PD.out.below hb)
      clear hb
      cases s2
      case false =>
        go_wp2_with fail
        go_roundw
        case rel => exact ⟨3, rfl, by decide, BEL, B0, B1, B2, B3, BO, XW, PW⟩
        case measure => simp [intOf]
      case true =>
        cases hto : toF z2 t2 with
        | none =>
          clear hto
          go_wp2_with fail
          go_roundw
          case rel => exact ⟨3, rfl, by decide, BEL, B0, B1, B2, B3, BO, XW, PW⟩
          case measure => simp [intOf]
        | some y =>
          have HY := Aside0.mk (HN.out rfl y hto)
          clear hto
          obtain ⟨q8, q8'⟩ := box_cell B2.out 0 rfl
          obtain ⟨q9, q9'⟩ := box_cell B2.out 1 rfl
          go_wp2_with fail
          clear q8 q8' q9 q9'
          go_at_call 11
          refine (exact_back (by decide) HY.out _ (tab_below HT.out BEL.out.1)).mono ?_
          rintro en5 w5 ⟨v5, rfl, hr, hb⟩
          replace BEL := Aside0.mk (BEL.out.next hb)
          replace B0 := Aside0.mk (blk_below B0.out hb)
          replace B1 := Aside0.mk (blk_below B1.out hb)
          replace B2 := Aside0.mk (blk_below B2.out hb)
          replace B3 := Aside0.mk (blk_below B3.out hb)
          replace BO := Aside0.mk (blk_below BO.out hb)
          replace XW := Aside0.mk (blk_below XW.out hb)
          replace XD := Aside0.mk (blk_below XD.out hb)
          replace PW := Aside0.mk (PW.out.below hb)
          replace PD := Aside0.mk (PD.out.below hb)
          have PE := Aside0.mk hr
          obtain ⟨b5, A5, n5, c5, x5, rfl⟩ := hr.ex
          clear hr hb
          have BELo := BEL
          go_wp2_with (replace BEL := Aside0.mk ((BEL.out.alloc (.cells #[.bool false, .slice none 0 0, .int .i64 0] 27)).less (j := 5) (by omega)); have HN := Aside0.mk (blk_new w5 (.cells #[.bool false, .slice none 0 0, .int .i64 0] 27)); have L_B0 := lt_blk B0.out; replace B0 := Aside0.mk (blk_alloc B0.out (.cells #[.bool false, .slice none 0 0, .int .i64 0] 27)); have L_B1 := lt_blk B1.out; replace B1 := Aside0.mk (blk_alloc B1.out (.cells #[.bool false, .slice none 0 0, .int .i64 0] 27)); have L_B2 := lt_blk B2.out; replace B2 := Aside0.mk (blk_alloc B2.out (.cells #[.bool false, .slice none 0 0, .int .i64 0] 27)); have L_B3 := lt_blk B3.out; replace B3 := Aside0.mk (blk_alloc B3.out (.cells #[.bool false, .slice none 0 0, .int .i64 0] 27)); have L_BO := lt_blk BO.out; replace BO := Aside0.mk (blk_alloc BO.out (.cells #[.bool false, .slice none 0 0, .int .i64 0] 27)); have L_XW := lt_blk XW.out; replace XW := Aside0.mk (blk_alloc XW.out (.cells #[.bool false, .slice none 0 0, .int .i64 0] 27)); have L_XD := lt_blk XD.out; replace XD := Aside0.mk (blk_alloc XD.out (.cells #[.bool false, .slice none 0 0, .int .i64 0] 27)); replace PW := Aside0.mk (PW.out.below (below_alloc (Below.refl _ _) (.cells #[.bool false, .slice none 0 0, .int .i64 0] 27))); replace PD := Aside0.mk (PD.out.below (below_alloc (Below.refl _ _) (.cells #[.bool false, .slice none 0 0, .int .i64 0] 27))); replace PE := Aside0.mk (PE.out.below (below_alloc (Below.refl _ _) (.cells #[.bool false, .slice none 0 0, .int .i64 0] 27))); ((with_reducible refine gate_store (p := 14) rfl ?_); go_must (refine store_box 27 14 (.tmp 73) rfl rfl rfl (g := w5.heap.size) (e := 27) (.agg #[.bool b5, .slice A5 n5 c5, .int .i64 x5]) ([.bool b5, .slice A5 n5 c5, .int .i64 x5]) rfl rfl rfl info_dyad ?b1 HN.out rfl ?_; (case b1 => intro q hq; simp at hq; rcases hq with rfl | rfl | rfl <;> rfl); intro wb hbx hgx; have HX := Aside0.mk hbx; have HG := Aside0.mk hgx; clear hbx hgx)); replace PW := Aside0.mk (PW.out.grown_box HN.out (by decide) HG.out); replace PD := Aside0.mk (PD.out.grown_box HN.out (by decide) HG.out); replace PE := Aside0.mk (PE.out.grown_box HN.out (by decide) HG.out); have LB_XE := BELo.out.2; replace BEL := Aside0.mk (BEL.out.grown HG.out (Nat.le_trans (Nat.le_add_right _ _) LB_XE)); replace B0 := Aside0.mk (blk_grown B0.out HG.out (Nat.ne_of_lt L_B0)); replace B1 := Aside0.mk (blk_grown B1.out HG.out (Nat.ne_of_lt L_B1)); replace B2 := Aside0.mk (blk_grown B2.out HG.out (Nat.ne_of_lt L_B2)); replace B3 := Aside0.mk (blk_grown B3.out HG.out (Nat.ne_of_lt L_B3)); replace BO := Aside0.mk (blk_grown BO.out HG.out (Nat.ne_of_lt L_BO)); replace XW := Aside0.mk (blk_grown XW.out HG.out (Nat.ne_of_lt L_XW)); replace XD := Aside0.mk (blk_grown XD.out HG.out (Nat.ne_of_lt L_XD)); have NE_B0_XE := Aside0.mk (Nat.ne_of_lt L_B0); have NE_B1_XE := Aside0.mk (Nat.ne_of_lt L_B1); have NE_B2_XE := Aside0.mk (Nat.ne_of_lt L_B2); have NE_B3_XE := Aside0.mk (Nat.ne_of_lt L_B3); have NE_BO_XE := Aside0.mk (Nat.ne_of_lt L_BO); have NE_XW_XE := Aside0.mk (Nat.ne_of_lt L_XW); have NE_XD_XE := Aside0.mk (Nat.ne_of_lt L_XD); clear L_B0; clear L_B1; clear L_B2; clear L_B3; clear L_BO; clear L_XW; clear L_XD; have LL_XE := Aside0.mk LB_XE; clear LB_XE; have XE := HX; clear HG HN HX; obtain ⟨q10, q10'⟩ := box_cell XE.out 0 rfl; obtain ⟨q11, q11'⟩ := box_cell XE.out 1 rfl; obtain ⟨q12, q12'⟩ := box_cell XE.out 2 rfl; obtain ⟨q13, q13'⟩ := box_cell XW.out 0 rfl; obtain ⟨q14, q14'⟩ := box_cell XW.out 1 rfl; obtain ⟨q15, q15'⟩ := box_cell XW.out 2 rfl)
          clear q10 q10' q11 q11' q12 q12' q13 q13' q14 q14' q15 q15'
          go_at_call 16
          refine (QOr.out _ _ _ PE.out.c PW.out.c).mono ?_
          rintro en6 w6 ⟨rfl, hb⟩
          replace BEL := Aside0.mk (BEL.out.next hb)
          replace B0 := Aside0.mk (blk_below B0.out hb)
          replace B1 := Aside0.mk (blk_below B1.out hb)
          replace B2 := Aside0.mk (blk_below B2.out hb)
          replace B3 := Aside0.mk (blk_below B3.out hb)
          replace BO := Aside0.mk (blk_below BO.out hb)
          replace XW := Aside0.mk (blk_below XW.out hb)
          replace XD := Aside0.mk (blk_below XD.out hb)
          replace XE := Aside0.mk (blk_below XE.out hb)
          replace PW := Aside0.mk (PW.out.below hb)
          replace PD := Aside0.mk (PD.out.below hb)
          replace PE := Aside0.mk (PE.out.below hb)
          clear hb
          go_wp2_with fail
          go_roundw
          case rel => exact ⟨3, rfl, by decide, BEL, B0, B1, B2, B3, BO, XW, PW⟩
          case measure => simp [intOf]
    · have hq := Aside0.mk True.intro
      obtain ⟨hp, hn, he⟩ := Q3.out
      have HP := Aside0.mk hp
      have HN := Aside0.mk hn
      have HEX := Aside0.mk he
      clear hp hn he Q0 Q1 Q2 Q3 hk hq
      obtain ⟨qo, qo'⟩ := box_cell BO.out 3 rfl
      obtain ⟨q3, q3'⟩ := box_cell B3.out 0 rfl
      obtain ⟨q4, q4'⟩ := box_cell B3.out 1 rfl
      go_wp2_with fail
      clear qo qo' q3 q3' q4 q4'
      go_at_call 11
      refine (HEX.out _ (tab_below HT.out BEL.out.1)).mono ?_
      rintro en3 w3 ⟨v3, rfl, hr, hb⟩
      replace BEL := Aside0.mk (BEL.out.next hb)
      replace B0 := Aside0.mk (blk_below B0.out hb)
      replace B1 := Aside0.mk (blk_below B1.out hb)
      replace B2 := Aside0.mk (blk_below B2.out hb)
      replace B3 := Aside0.mk (blk_below B3.out hb)
      replace BO := Aside0.mk (blk_below BO.out hb)
      replace XW := Aside0.mk (blk_below XW.out hb)
      replace PW := Aside0.mk (PW.out.below hb)
      have PD := Aside0.mk hr
      obtain ⟨b3, A3, n3, c3, x3, rfl⟩ := hr.ex
      clear hr hb
      have BELo := BEL
      go_wp2_with (replace BEL := Aside0.mk ((BEL.out.alloc (.cells #[.bool false, .slice none 0 0, .int .i64 0] 27)).less (j := 5) (by omega)); have HN := Aside0.mk (blk_new w3 (.cells #[.bool false, .slice none 0 0, .int .i64 0] 27)); have L_B0 := lt_blk B0.out; replace B0 := Aside0.mk (blk_alloc B0.out (.cells #[.bool false, .slice none 0 0, .int .i64 0] 27)); have L_B1 := lt_blk B1.out; replace B1 := Aside0.mk (blk_alloc B1.out (.cells #[.bool false, .slice none 0 0, .int .i64 0] 27)); have L_B2 := lt_blk B2.out; replace B2 := Aside0.mk (blk_alloc B2.out (.cells #[.bool false, .slice none 0 0, .int .i64 0] 27)); have L_B3 := lt_blk B3.out; replace B3 := Aside0.mk (blk_alloc B3.out (.cells #[.bool false, .slice none 0 0, .int .i64 0] 27)); have L_BO := lt_blk BO.out; replace BO := Aside0.mk (blk_alloc BO.out (.cells #[.bool false, .slice none 0 0, .int .i64 0] 27)); have L_XW := lt_blk XW.out; replace XW := Aside0.mk (blk_alloc XW.out (.cells #[.bool false, .slice none 0 0, .int .i64 0] 27)); replace PW := Aside0.mk (PW.out.below (below_alloc (Below.refl _ _) (.cells #[.bool false, .slice none 0 0, .int .i64 0] 27))); replace PD := Aside0.mk (PD.out.below (below_alloc (Below.refl _ _) (.cells #[.bool false, .slice none 0 0, .int .i64 0] 27))); ((with_reducible refine gate_store (p := 9) rfl ?_); go_must (refine store_box 27 9 (.tmp 51) rfl rfl rfl (g := w3.heap.size) (e := 27) (.agg #[.bool b3, .slice A3 n3 c3, .int .i64 x3]) ([.bool b3, .slice A3 n3 c3, .int .i64 x3]) rfl rfl rfl info_dyad ?b1 HN.out rfl ?_; (case b1 => intro q hq; simp at hq; rcases hq with rfl | rfl | rfl <;> rfl); intro wb hbx hgx; have HX := Aside0.mk hbx; have HG := Aside0.mk hgx; clear hbx hgx)); replace PW := Aside0.mk (PW.out.grown_box HN.out (by decide) HG.out); replace PD := Aside0.mk (PD.out.grown_box HN.out (by decide) HG.out); have LB_XD := BELo.out.2; replace BEL := Aside0.mk (BEL.out.grown HG.out (Nat.le_trans (Nat.le_add_right _ _) LB_XD)); replace B0 := Aside0.mk (blk_grown B0.out HG.out (Nat.ne_of_lt L_B0)); replace B1 := Aside0.mk (blk_grown B1.out HG.out (Nat.ne_of_lt L_B1)); replace B2 := Aside0.mk (blk_grown B2.out HG.out (Nat.ne_of_lt L_B2)); replace B3 := Aside0.mk (blk_grown B3.out HG.out (Nat.ne_of_lt L_B3)); replace BO := Aside0.mk (blk_grown BO.out HG.out (Nat.ne_of_lt L_BO)); replace XW := Aside0.mk (blk_grown XW.out HG.out (Nat.ne_of_lt L_XW)); have NE_B0_XD := Aside0.mk (Nat.ne_of_lt L_B0); have NE_B1_XD := Aside0.mk (Nat.ne_of_lt L_B1); have NE_B2_XD := Aside0.mk (Nat.ne_of_lt L_B2); have NE_B3_XD := Aside0.mk (Nat.ne_of_lt L_B3); have NE_BO_XD := Aside0.mk (Nat.ne_of_lt L_BO); have NE_XW_XD := Aside0.mk (Nat.ne_of_lt L_XW); clear L_B0; clear L_B1; clear L_B2; clear L_B3; clear L_BO; clear L_XW; have LL_XD := Aside0.mk LB_XD; clear LB_XD; have XD := HX; clear HG HN HX; obtain ⟨q5, q5'⟩ := box_cell XD.out 0 rfl; obtain ⟨q6, q6'⟩ := box_cell XD.out 1 rfl; obtain ⟨q7, q7'⟩ := box_cell XD.out 2 rfl)
      clear q5 q5' q6 q6' q7 q7'
      go_at_call 15
      refine (to_any PD.out.c HP.out).mono ?_
      rintro en4 w4 ⟨rfl, hb⟩
      replace BEL := Aside0.mk (BEL.out.next hb)
      replace B0 := Aside0.mk (blk_below B0.out hb)
      replace B1 := Aside0.mk (blk_below B1.out hb)
      replace B2 := Aside0.mk (blk_below B2.out hb)
      replace B3 := Aside0.mk (blk_below B3.out hb)
      replace BO := Aside0.mk (blk_below BO.out hb)
      replace XW := Aside0.mk (blk_below XW.out hb)
      replace XD := Aside0.mk (blk_below XD.out hb)
      replace PW := Aside0.mk (PW.out.below hb)
      replace PD := Aside0.mk (PD.out.below hb)
      clear hb
      cases s3
      case false =>
        go_wp2_with fail
        go_roundw
        case rel => exact ⟨4, rfl, by decide, BEL, B0, B1, B2, B3, BO, XW, PW⟩
        case measure => simp [intOf]
      case true =>
        cases hto : toF z3 t3 with
        | none =>
          clear hto
          go_wp2_with fail
          go_roundw
          case rel => exact ⟨4, rfl, by decide, BEL, B0, B1, B2, B3, BO, XW, PW⟩
          case measure => simp [intOf]
        | some y =>
          have HY := Aside0.mk (HN.out rfl y hto)
          clear hto
          obtain ⟨q8, q8'⟩ := box_cell B3.out 0 rfl
          obtain ⟨q9, q9'⟩ := box_cell B3.out 1 rfl
          go_wp2_with fail
          clear q8 q8' q9 q9'
          go_at_call 11
          refine (exact_back (by decide) HY.out _ (tab_below HT.out BEL.out.1)).mono ?_
          rintro en5 w5 ⟨v5, rfl, hr, hb⟩
          replace BEL := Aside0.mk (BEL.out.next hb)
          replace B0 := Aside0.mk (blk_below B0.out hb)
          replace B1 := Aside0.mk (blk_below B1.out hb)
          replace B2 := Aside0.mk (blk_below B2.out hb)
          replace B3 := Aside0.mk (blk_below B3.out hb)
          replace BO := Aside0.mk (blk_below BO.out hb)
          replace XW := Aside0.mk (blk_below XW.out hb)
          replace XD := Aside0.mk (blk_below XD.out hb)
          replace PW := Aside0.mk (PW.out.below hb)
          replace PD := Aside0.mk (PD.out.below hb)
          have PE := Aside0.mk hr
          obtain ⟨b5, A5, n5, c5, x5, rfl⟩ := hr.ex
          clear hr hb
          have BELo := BEL
          go_wp2_with (replace BEL := Aside0.mk ((BEL.out.alloc (.cells #[.bool false, .slice none 0 0, .int .i64 0] 27)).less (j := 5) (by omega)); have HN := Aside0.mk (blk_new w5 (.cells #[.bool false, .slice none 0 0, .int .i64 0] 27)); have L_B0 := lt_blk B0.out; replace B0 := Aside0.mk (blk_alloc B0.out (.cells #[.bool false, .slice none 0 0, .int .i64 0] 27)); have L_B1 := lt_blk B1.out; replace B1 := Aside0.mk (blk_alloc B1.out (.cells #[.bool false, .slice none 0 0, .int .i64 0] 27)); have L_B2 := lt_blk B2.out; replace B2 := Aside0.mk (blk_alloc B2.out (.cells #[.bool false, .slice none 0 0, .int .i64 0] 27)); have L_B3 := lt_blk B3.out; replace B3 := Aside0.mk (blk_alloc B3.out (.cells #[.bool false, .slice none 0 0, .int .i64 0] 27)); have L_BO := lt_blk BO.out; replace BO := Aside0.mk (blk_alloc BO.out (.cells #[.bool false, .slice none 0 0, .int .i64 0] 27)); have L_XW := lt_blk XW.out; replace XW := Aside0.mk (blk_alloc XW.out (.cells #[.bool false, .slice none 0 0, .int .i64 0] 27)); have L_XD := lt_blk XD.out; replace XD := Aside0.mk (blk_alloc XD.out (.cells #[.bool false, .slice none 0 0, .int .i64 0] 27)); replace PW := Aside0.mk (PW.out.below (below_alloc (Below.refl _ _) (.cells #[.bool false, .slice none 0 0, .int .i64 0] 27))); replace PD := Aside0.mk (PD.out.below (below_alloc (Below.refl _ _) (.cells #[.bool false, .slice none 0 0, .int .i64 0] 27))); replace PE := Aside0.mk (PE.out.below (below_alloc (Below.refl _ _) (.cells #[.bool false, .slice none 0 0, .int .i64 0] 27))); ((with_reducible refine gate_store (p := 14) rfl ?_); go_must (refine store_box 27 14 (.tmp 73) rfl rfl rfl (g := w5.heap.size) (e := 27) (.agg #[.bool b5, .slice A5 n5 c5, .int .i64 x5]) ([.bool b5, .slice A5 n5 c5, .int .i64 x5]) rfl rfl rfl info_dyad ?b1 HN.out rfl ?_; (case b1 => intro q hq; simp at hq; rcases hq with rfl | rfl | rfl <;> rfl); intro wb hbx hgx; have HX := Aside0.mk hbx; have HG := Aside0.mk hgx; clear hbx hgx)); replace PW := Aside0.mk (PW.out.grown_box HN.out (by decide) HG.out); replace PD := Aside0.mk (PD.out.grown_box HN.out (by decide) HG.out); replace PE := Aside0.mk (PE.out.grown_box HN.out (by decide) HG.out); have LB_XE := BELo.out.2; replace BEL := Aside0.mk (BEL.out.grown HG.out (Nat.le_trans (Nat.le_add_right _ _) LB_XE)); replace B0 := Aside0.mk (blk_grown B0.out HG.out (Nat.ne_of_lt L_B0)); replace B1 := Aside0.mk (blk_grown B1.out HG.out (Nat.ne_of_lt L_B1)); replace B2 := Aside0.mk (blk_grown B2.out HG.out (Nat.ne_of_lt L_B2)); replace B3 := Aside0.mk (blk_grown B3.out HG.out (Nat.ne_of_lt L_B3)); replace BO := Aside0.mk (blk_grown BO.out HG.out (Nat.ne_of_lt L_BO)); replace XW := Aside0.mk (blk_grown XW.out HG.out (Nat.ne_of_lt L_XW)); replace XD := Aside0.mk (blk_grown XD.out HG.out (Nat.ne_of_lt L_XD)); have NE_B0_XE := Aside0.mk (Nat.ne_of_lt L_B0); have NE_B1_XE := Aside0.mk (Nat.ne_of_lt L_B1); have NE_B2_XE := Aside0.mk (Nat.ne_of_lt L_B2); have NE_B3_XE := Aside0.mk (Nat.ne_of_lt L_B3); have NE_BO_XE := Aside0.mk (Nat.ne_of_lt L_BO); have NE_XW_XE := Aside0.mk (Nat.ne_of_lt L_XW); have NE_XD_XE := Aside0.mk (Nat.ne_of_lt L_XD); clear L_B0; clear L_B1; clear L_B2; clear L_B3; clear L_BO; clear L_XW; clear L_XD; have LL_XE := Aside0.mk LB_XE; clear LB_XE; have XE := HX; clear HG HN HX; obtain ⟨q10, q10'⟩ := box_cell XE.out 0 rfl; obtain ⟨q11, q11'⟩ := box_cell XE.out 1 rfl; obtain ⟨q12, q12'⟩ := box_cell XE.out 2 rfl; obtain ⟨q13, q13'⟩ := box_cell XW.out 0 rfl; obtain ⟨q14, q14'⟩ := box_cell XW.out 1 rfl; obtain ⟨q15, q15'⟩ := box_cell XW.out 2 rfl)
          clear q10 q10' q11 q11' q12 q12' q13 q13' q14 q14' q15 q15'
          go_at_call 16
          refine (QOr.out _ _ _ PE.out.c PW.out.c).mono ?_
          rintro en6 w6 ⟨rfl, hb⟩
          replace BEL := Aside0.mk (BEL.out.next hb)
          replace B0 := Aside0.mk (blk_below B0.out hb)
          replace B1 := Aside0.mk (blk_below B1.out hb)
          replace B2 := Aside0.mk (blk_below B2.out hb)
          replace B3 := Aside0.mk (blk_below B3.out hb)
          replace BO := Aside0.mk (blk_below BO.out hb)
          replace XW := Aside0.mk (blk_below XW.out hb)
          replace XD := Aside0.mk (blk_below XD.out hb)
          replace XE := Aside0.mk (blk_below XE.out hb)
          replace PW := Aside0.mk (PW.out.below hb)
          replace PD := Aside0.mk (PD.out.below hb)
          replace PE := Aside0.mk (PE.out.below hb)
          clear hb
          go_wp2_with fail
          go_roundw
          case rel => exact ⟨4, rfl, by decide, BEL, B0, B1, B2, B3, BO, XW, PW⟩
          case measure => simp [intOf]
    · clear hk Q0 Q1 Q2 Q3
      go_wp2_with fail
      go_ret
      exact ⟨rfl, below_then HU.out HU.out.size BEL.out.1⟩
theorem back_any (n : Int) (w : World) (hT : TabAt 0 Lib.deBruijn64tab w) :
    Calls Tryd.prog 5 #[.int .i64 n] w fun en w' => en = .returned (.bool true) ∧ Below w.heap.size w w' := by
  by_cases h1 : -1022 ≤ n
  · by_cases h2 : n ≤ 1023
    · exact back_in n h1 h2 w hT
    · exact back_out n (.inr (by omega)) w hT
  · exact back_out n (.inl (by omega)) w hT
end Go.Proofs.YtgpjplelgffocaaDoor
