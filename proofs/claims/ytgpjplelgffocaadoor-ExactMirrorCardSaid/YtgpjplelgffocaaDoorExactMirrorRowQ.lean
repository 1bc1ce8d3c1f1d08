/- ExactMirror returns true at every input, and leaves its arguments and all old memory as they were, where the table math/bits.deBruijn64tab holds at first what the program's text lays into it (the card ties that). -/
import Derived.Test.YtgpjplelgffocaaDoorQ5
import Derived.KernelRfl
import Derived.Test.YtgpjplelgffocaaDoorRows
import Derived.Test.YtgpjplelgffocaaDoorTie
import Derived.Test.YtgpjplelgffocaaDoorCards
import Derived.WalkKit
import Derived.ProofKit
import Derived.LaidMore
import Derived.OpenShut
import Derived.Below
import Derived.Stop.Joined
import Derived.SevenTiedAt
namespace Go.Proofs.YtgpjplelgffocaaDoor
open Go.RowKit Go.Proofs.YtgpjplelgffocaaDoorW.PrintWords Limb
set_option linter.unusedVariables false
set_option linter.unusedSimpArgs false

theorem nearF_neg (z : Int) (k : Nat) : nearF (-z) k = -nearF z k := by
  unfold nearF
  have hD : (2 : Int) ^ (k + 1) = 2 * 2 ^ k := by rw [Int.pow_succ, Int.mul_comm]
  rw [hD]
  have hP : (0 : Int) < 2 ^ k := Int.pow_pos (by decide)
  generalize (2 : Int) ^ k = P at hP
  obtain ⟨m, hm⟩ : ∃ m, m = (z + P) / (2 * P) := ⟨_, rfl⟩
  have h1 : 0 ≤ (z + P) - m * (2 * P) := by
    rw [hm]; have := Int.emod_nonneg (z + P) (show 2 * P ≠ 0 by omega); rw [Int.emod_def, Int.mul_comm] at this; exact this
  have h2 : (z + P) - m * (2 * P) < 2 * P := by
    rw [hm]; have := Int.emod_lt_of_pos (z + P) (show 0 < 2 * P by omega); rw [Int.emod_def, Int.mul_comm] at this; exact this
  rw [← hm]
  obtain ⟨d, hd⟩ : ∃ d, d = m * (2 * P) - z := ⟨_, rfl⟩
  have h3 : (-z + P) / (2 * P) = (d + P) / (2 * P) - m := by
    have h4 : -z + P = (d + P) + (-m) * (2 * P) := by rw [hd, Int.neg_mul]; omega
    rw [h4, Int.add_mul_ediv_right _ _ (by omega)]; omega
  rw [h3]
  by_cases hc : d = P
  · have h5 : (d + P) / (2 * P) = 1 := by rw [hc, show P + P = 2 * P by omega]; exact Int.ediv_self (by omega)
    rw [h5]
    have h6 : (1 - m) * (2 * P) - -z = P := by rw [Int.sub_mul, Int.one_mul]; omega
    rw [h6, ← hd, hc]
    by_cases ho : m % 2 ≠ 0
    · rw [if_neg (by omega), if_pos ⟨ho, rfl⟩]; omega
    · rw [if_pos ⟨by omega, rfl⟩, if_neg (fun h => ho h.1)]; omega
  · have h5 : (d + P) / (2 * P) = 0 := Int.ediv_eq_zero_of_lt (by omega) (by omega)
    rw [h5]
    have h6 : ¬ (0 - m) * (2 * P) - -z = P := by rw [Int.sub_mul, Int.zero_mul]; omega
    rw [if_neg (fun h => h6 h.2), if_neg (fun h => hc (hd.trans h.2))]; omega
/-- The bits of the other sign. -/
def negW (x : Nat) : Nat := if 9223372036854775808 ≤ x then x - 9223372036854775808 else x + 9223372036854775808
theorem negW_lt {x : Nat} (hx : x < 18446744073709551616) : negW x < 18446744073709551616 := by unfold negW; split <;> omega
theorem negW_xor {x : Nat} (hx : x < 18446744073709551616) : x ^^^ 9223372036854775808 = negW x := by
  have h1 : (x ^^^ 9223372036854775808) / 2 ^ 63 = x / 2 ^ 63 ^^^ 9223372036854775808 / 2 ^ 63 := Nat.xor_div_two_pow
  have h2 : (x ^^^ 9223372036854775808) % 2 ^ 63 = x % 2 ^ 63 ^^^ 9223372036854775808 % 2 ^ 63 := Nat.xor_mod_two_pow
  have h3 := Nat.div_add_mod (x ^^^ 9223372036854775808) (2 ^ 63)
  rw [show 9223372036854775808 % 2 ^ 63 = 0 by decide, Nat.xor_zero] at h2
  rw [show 9223372036854775808 / 2 ^ 63 = 1 by decide] at h1
  unfold negW
  by_cases h : 9223372036854775808 ≤ x
  · rw [if_pos h]
    rw [show x / 2 ^ 63 = 1 by omega, show (1 : Nat) ^^^ 1 = 0 by decide] at h1
    rw [h1, h2] at h3
    omega
  · rw [if_neg h]
    rw [show x / 2 ^ 63 = 0 by omega, show (0 : Nat) ^^^ 1 = 1 by decide] at h1
    rw [h1, h2] at h3
    omega
theorem finB_neg {x : Nat} (hx : x < 18446744073709551616) : finB (negW x) = finB x := by
  unfold finB negW
  split
  · rw [show (x - 9223372036854775808) % 9223372036854775808 = x % 9223372036854775808 by omega]
  · rw [show (x + 9223372036854775808) % 9223372036854775808 = x % 9223372036854775808 by omega]
theorem valI_neg {x : Nat} (hx : x < 18446744073709551616) : valI (negW x) = -valI x := by
  unfold valI
  have h1 : negW x / 4503599627370496 % 2048 = x / 4503599627370496 % 2048 := by unfold negW; split <;> omega
  have h2 : negW x % 4503599627370496 = x % 4503599627370496 := by unfold negW; split <;> omega
  rw [h1, h2]
  generalize (if x / 4503599627370496 % 2048 = 0 then x % 4503599627370496 else 4503599627370496 + x % 4503599627370496) * 2 ^ (x / 4503599627370496 % 2048 - 1) = q
  unfold negW
  by_cases h : 9223372036854775808 ≤ x
  · rw [if_pos h, decide_eq_true h, decide_eq_false (by omega)]
    show (q : Int) = - -(q : Int)
    omega
  · rw [if_neg h, decide_eq_false h, decide_eq_true (by omega)]
    show -(q : Int) = -(q : Int)
    rfl
theorem fromV_neg {x : Nat} (hx : x < 18446744073709551616) : fromV (negW x) = -fromV x := by
  unfold fromV
  rw [finB_neg hx]
  split
  · exact valI_neg hx
  · rfl
def oddF (f : Nat) : Bool := decide (f = 13 ∨ f = 15 ∨ f = 16 ∨ f = 18 ∨ f = 19 ∨ f = 21 ∨ f = 22 ∨ f = 24 ∨ f = 25 ∨ f = 27 ∨ f = 28 ∨ f = 30)
def evenF (f : Nat) : Bool := decide (f = 14) || decide (f = 17) || decide (f = 26)
theorem tmod2_neg (n : Int) : ((-n % 4).tmod 2 == 0) = ((n % 4).tmod 2 == 0) := by
  have h1 : 0 ≤ n % 4 ∧ n % 4 < 4 := by omega
  have h2 : 0 ≤ -n % 4 ∧ -n % 4 < 4 := by omega
  rw [Int.tmod_eq_emod_of_nonneg h1.1, Int.tmod_eq_emod_of_nonneg h2.1]
  have h3 : (-n % 4) % 2 = (n % 4) % 2 := by omega
  rw [h3]
theorem inside_neg {f : Nat} (hf : oddF f = true ∨ evenF f = true) (z : Int) : insideF f (-z) = insideF f z := by
  have ha : ¬ (f = 7 ∨ f = 8 ∨ f = 9) ∧ ¬ (f = 10 ∨ f = 11 ∨ f = 12) ∧ ¬ f = 29 := by
    unfold oddF evenF at hf
    simp at hf
    omega
  unfold insideF
  rw [if_neg ha.1, if_neg ha.1, if_neg ha.2.1, if_neg ha.2.1, if_neg ha.2.2, if_neg ha.2.2]
  by_cases h1 : f = 18
  · rw [if_pos h1, if_pos h1, nearF_neg, tmod2_neg]
    have h2 : decide (-z - -nearF z 1072 * 2 ^ 1073 = 0) = decide (z - nearF z 1072 * 2 ^ 1073 = 0) := by
      rw [Int.neg_mul]
      generalize nearF z 1072 * 2 ^ 1073 = q
      exact decide_eq_decide.2 (by omega)
    rw [h2]
  · rw [if_neg h1, if_neg h1, Int.natAbs_neg]
def negO (o : Option (Int × Int)) : Option (Int × Int) := o.map (fun y => (-y.1, y.2))
def OddG (G : Int → Option (Int × Int)) : Prop := ∀ z, G (-z) = negO (G z)
def EvenG (G : Int → Option (Int × Int)) : Prop := ∀ z, G (-z) = G z
theorem odd_zero : OddG (atF 0 (0, 0)) := by
  intro z
  unfold atF
  rw [Int.zero_mul]
  by_cases h : z = 0
  · rw [if_pos (by omega), if_pos h]; rfl
  · rw [if_neg (by omega), if_neg h]; rfl
theorem even_one : EvenG (atF 0 (1, 0)) := by
  intro z
  unfold atF
  rw [Int.zero_mul]
  by_cases h : z = 0
  · rw [if_pos (by omega), if_pos h]
  · rw [if_neg (by omega), if_neg h]
theorem odd_turn {K : Int → Int → Option (Int × Int)} (h : ∀ n r : Int, K (-n % 4) (-r) = negO (K (n % 4) r)) : OddG (turnF K) := by
  intro z
  unfold turnF
  rw [nearF_neg, show -z - -nearF z 1072 * 2 ^ 1073 = -(z - nearF z 1072 * 2 ^ 1073) by rw [Int.neg_mul]; generalize nearF z 1072 * 2 ^ 1073 = q; omega]
  exact h _ _
theorem even_turn {K : Int → Int → Option (Int × Int)} (h : ∀ n r : Int, K (-n % 4) (-r) = K (n % 4) r) : EvenG (turnF K) := by
  intro z
  unfold turnF
  rw [nearF_neg, show -z - -nearF z 1072 * 2 ^ 1073 = -(z - nearF z 1072 * 2 ^ 1073) by rw [Int.neg_mul]; generalize nearF z 1072 * 2 ^ 1073 = q; omega]
  exact h _ _
theorem four (n : Int) : (n % 4 = 0 ∧ -n % 4 = 0) ∨ (n % 4 = 1 ∧ -n % 4 = 3) ∨ (n % 4 = 2 ∧ -n % 4 = 2) ∨ (n % 4 = 3 ∧ -n % 4 = 1) := by omega
theorem odd_sine : OddG (turnF sineK) := odd_turn fun n r => by
  unfold sineK
  by_cases h : r = 0
  · rw [if_pos (by omega), if_pos h]
    rcases four n with ⟨a, b⟩ | ⟨a, b⟩ | ⟨a, b⟩ | ⟨a, b⟩ <;> rw [a, b] <;> rfl
  · rw [if_neg (by omega), if_neg h]; rfl
theorem even_cosine : EvenG (turnF cosineK) := even_turn fun n r => by
  unfold cosineK
  by_cases h : r = 0
  · rw [if_pos (by omega), if_pos h]
    rcases four n with ⟨a, b⟩ | ⟨a, b⟩ | ⟨a, b⟩ | ⟨a, b⟩ <;> rw [a, b] <;> rfl
  · rw [if_neg (by omega), if_neg h]
theorem odd_tangent : OddG (turnF tangentK) := odd_turn fun n r => by
  unfold tangentK
  generalize (2 : Int) ^ 1072 = M
  have hk := tmod2_neg n
  have hk2 : ((-n % 4).tmod 2 = 0) ↔ ((n % 4).tmod 2 = 0) := by
    have := hk
    rw [Bool.eq_iff_iff] at this
    simpa using this
  unfold tanF
  rw [hk, Int.natAbs_neg]
  generalize ((n % 4).tmod 2 == 0) = q
  by_cases h : r = 0
  · rw [if_pos (by omega), if_pos h]
    by_cases h2 : (n % 4).tmod 2 = 0
    · rw [if_pos (hk2.2 h2), if_pos h2]; rfl
    · rw [if_neg (fun h3 => h2 (hk2.1 h3)), if_neg h2]; rfl
  · rw [if_neg (by omega), if_neg h]
    by_cases h2 : (r.natAbs : Int) = M
    · rw [if_pos h2, if_pos h2]
      by_cases h3 : 0 < r
      · rw [decide_eq_true h3, decide_eq_false (show ¬ 0 < -r by omega)]; cases q <;> rfl
      · rw [decide_eq_false h3, decide_eq_true (show 0 < -r by omega)]; cases q <;> rfl
    · rw [if_neg h2, if_neg h2]; rfl
theorem odd_half (e : Int) : OddG (or3 (atF 0 (0, 0)) (atF 1 (1, e)) (atF (-1) (-1, e))) := by
  intro z
  unfold or3 atF
  have hM : (0 : Int) < 2 ^ 1074 := Int.pow_pos (by decide)
  generalize (2 : Int) ^ 1074 = M at hM
  rw [Int.zero_mul, Int.one_mul, Int.neg_mul, Int.one_mul]
  by_cases h0 : z = 0
  · rw [if_pos (by omega), if_pos h0]; rfl
  · rw [if_neg (show ¬ -z = 0 by omega), if_neg h0]
    by_cases h1 : z = M
    · rw [if_pos h1, if_neg (show ¬ -z = M by omega), if_pos (show -z = -M by omega)]; rfl
    · by_cases h2 : z = -M
      · rw [if_neg h1, if_pos h2, if_pos (show -z = M by omega)]; rfl
      · rw [if_neg h1, if_neg h2, if_neg (show ¬ -z = M by omega), if_neg (show ¬ -z = -M by omega)]; rfl
theorem case_odd {f : Nat} (hf : oddF f = true) : OddG (caseG f) := by
  have h := of_decide_eq_true hf
  rcases h with rfl | rfl | rfl | rfl | rfl | rfl | rfl | rfl | rfl | rfl | rfl | rfl
  · exact odd_zero
  · exact odd_zero
  · exact odd_sine
  · exact odd_tangent
  · exact odd_zero
  · exact odd_zero
  · exact odd_half (0 + -1)
  · exact odd_half (0 + -2)
  · exact odd_zero
  · exact odd_zero
  · exact odd_zero
  · exact odd_zero
theorem case_even {f : Nat} (hf : evenF f = true) : EvenG (caseG f) := by
  unfold evenF at hf
  simp at hf
  rcases hf with (rfl | rfl) | rfl
  · exact even_one
  · exact even_cosine
  · exact even_one
theorem dom_neg {f x : Nat} (hx : x < 18446744073709551616) (hf : oddF f = true ∨ evenF f = true) : domF f (negW x) = domF f x := by
  unfold domF
  rw [finB_neg hx, fromV_neg hx, inside_neg hf]
theorem exE_neg {f x : Nat} (hx : x < 18446744073709551616) (hf : oddF f = true ∨ evenF f = true) : exE f (negW x) = exE f x := by
  unfold exE; rw [dom_neg hx hf]
theorem exO_odd {f x : Nat} (hx : x < 18446744073709551616) (hf : oddF f = true) : exO f (negW x) = negO (exO f x) := by
  unfold exO
  rw [dom_neg hx (.inl hf), fromV_neg hx]
  split
  · exact case_odd hf _
  · rfl
theorem exO_even {f x : Nat} (hx : x < 18446744073709551616) (hf : evenF f = true) : exO f (negW x) = exO f x := by
  unfold exO
  rw [dom_neg hx (.inr hf), fromV_neg hx]
  split
  · exact case_even hf _
  · rfl
theorem negO_some (o : Option (Int × Int)) : (negO o).isSome = o.isSome := by cases o <;> rfl
theorem negO_fst (o : Option (Int × Int)) : ((negO o).getD (0, 0)).1 = -(o.getD (0, 0)).1 := by cases o <;> rfl
theorem negO_snd (o : Option (Int × Int)) : ((negO o).getD (0, 0)).2 = (o.getD (0, 0)).2 := by cases o <;> rfl
end Go.Proofs.YtgpjplelgffocaaDoor

namespace Go.Proofs.YtgpjplelgffocaaDoor
open Go.RowKit Go.Proofs.YtgpjplelgffocaaDoorW.PrintWords Limb
set_option linter.unusedVariables false
set_option linter.unusedSimpArgs false

theorem neg_form (z e : Int) : ∃ k : Nat, sgn (!cneg z) (cman z) * 2 ^ k = -z ∧ cexp z e = (if z = 0 then 0 else e + k) := by
  by_cases h : z = 0
  · subst h; exact ⟨0, by rw [cman_zero]; cases (!cneg 0) <;> rfl, by rw [if_pos rfl, cexp_zero]⟩
  · obtain ⟨k, h1, h2, h3⟩ := of_form (e := e) h
    refine ⟨k, ?_, by rw [if_neg h, h1]⟩
    have hp : ((2 ^ k : Nat) : Int) = (2 : Int) ^ k := by simp
    cases hb : cneg z with
    | false =>
      rw [hb] at h2
      have h4 : z = ((cman z * 2 ^ k : Nat) : Int) := h2
      show -(cman z : Int) * 2 ^ k = -z
      rw [Int.neg_mul, ← hp, ← Int.natCast_mul, ← h4]
    | true =>
      rw [hb] at h2
      have h4 : z = -((cman z * 2 ^ k : Nat) : Int) := h2
      show (cman z : Int) * 2 ^ k = -z
      rw [← hp, ← Int.natCast_mul]
      exact (Int.neg_eq_comm.1 h4.symm).symm
theorem RDy.zero_unit {w : World} {b : Nat} {v : Value} {e e' : Int} (h : RDy w b v 0 e) : RDy w b v 0 e' := by
  obtain ⟨A, n, c, rfl, hr⟩ := h
  exact ⟨A, n, c, rfl, hr⟩
set_option maxRecDepth 100000 in
set_option maxHeartbeats 8000000 in
theorem dneg_any {v : Value} {z e : Int} {w : World} (h : CDy w v z e) (o : Ok z e) :
    Calls Tryd.prog 19 #[v] w fun en w' => ∃ v', en = .returned v' ∧ RDy w' w.heap.size v' (-z) e ∧ Below w.heap.size w w' := by
  obtain ⟨b0, A, n0, c, x0, rfl⟩ := h.ex
  obtain ⟨k, hk1, hk2⟩ := neg_form z e
  obtain ⟨eb, ex, hC, hl, hc⟩ := CDy.parts h
  have QF := Aside0.mk (fun (W : World) (hb : Below w.heap.size w W) => (by
    have q := form_any (!b0) (limbs (cman z)) A n0 c x0 hl W (Kd.C_below hC hb) hc (wf_limbs _) (by rw [← hl]; exact o.len30) (by rw [ex]; exact Int.le_trans (by decide) o.lo) (by rw [ex]; exact Int.le_trans o.hi (by decide))
    rw [nv_limbs] at q
    exact q : Calls Tryd.prog 35 #[.bool (!b0), .slice A n0 c, .int .i64 x0] W fun en w' => ∃ v', en = .returned v' ∧ RDy w' W.heap.size v' (sgn (!b0) (cman z)) x0 ∧ Below W.heap.size W w'))
  have QR := Aside0.mk (fun (W : World) (b : Nat) (v : Value) (h : RDy W b v (sgn (!b0) (cman z)) x0) => (by
    rw [eb, ex, hk2] at h
    by_cases hz : z = 0
    · have h0 : sgn (!cneg z) (cman z) = 0 := by rw [hz, cman_zero]; cases (!cneg 0) <;> rfl
      rw [h0] at h
      rw [hz, Int.neg_zero]
      exact h.zero_unit
    · rw [if_neg hz] at h
      rw [← hk1]
      exact h.scale k : RDy W b v (-z) e))
  clear h o eb ex hC hl hc hk1 hk2
  go_enter Tryd.func19, Tryd.ntmps19
  have BEL : Aside0 (BelN w 2 ((w.alloc (.cells #[.bool b0, .slice A n0 c, .int .i64 x0] 27)).alloc (.cells #[.bool false, .slice none 0 0, .int .i64 0] 27))) := ⟨(((BelN.zero w).alloc _).alloc _).less (by decide)⟩
  have X0 : Aside0 (((w.alloc (.cells #[.bool b0, .slice A n0 c, .int .i64 x0] 27)).alloc (.cells #[.bool false, .slice none 0 0, .int .i64 0] 27)).heap[w.heap.size]? = some (.cells #[.bool b0, .slice A n0 c, .int .i64 x0] 27 (0, 0))) := ⟨by have h := blk_new w (.cells #[.bool b0, .slice A n0 c, .int .i64 x0] 27); exact blk_alloc (h) _⟩
  have XR : Aside0 (((w.alloc (.cells #[.bool b0, .slice A n0 c, .int .i64 x0] 27)).alloc (.cells #[.bool false, .slice none 0 0, .int .i64 0] 27)).heap[w.heap.size + 1]? = some (.cells #[.bool false, .slice none 0 0, .int .i64 0] 27 (0, 0))) := ⟨by have h := blk_new (w.alloc (.cells #[.bool b0, .slice A n0 c, .int .i64 x0] 27)) (.cells #[.bool false, .slice none 0 0, .int .i64 0] 27); rw [size_alloc'] at h; exact h⟩
  obtain ⟨q0, q0'⟩ := box_cell X0.out 0 rfl
  obtain ⟨q1, q1'⟩ := box_cell X0.out 1 rfl
  obtain ⟨q2, q2'⟩ := box_cell X0.out 2 rfl
  go_wp2_with fail
  have BL := BEL
  clear q0 q0' q1 q1' q2 q2'
  go_at_call 35
  refine (QF.out _ BEL.out.1).mono ?_
  rintro en1 w1 ⟨v1, rfl, hr, hb⟩
  replace BEL := Aside0.mk (BEL.out.next hb)
  replace X0 := Aside0.mk (blk_below X0.out hb)
  replace XR := Aside0.mk (blk_below XR.out hb)
  have P1 := Aside0.mk hr
  obtain ⟨b1, A1, n1, c1, x1, rfl⟩ := hr.ex
  clear hr hb
  go_wp2_with (((with_reducible refine gate_store (p := 2) rfl ?_); go_must (refine store_box 27 2 (.tmp 10) rfl rfl rfl (g := w.heap.size + 1) (e := 27) (.agg #[.bool b1, .slice A1 n1 c1, .int .i64 x1]) ([.bool b1, .slice A1 n1 c1, .int .i64 x1]) rfl rfl rfl info_dyad ?b1 XR.out rfl ?_; (case b1 => intro q hq; simp at hq; rcases hq with rfl | rfl | rfl <;> rfl); intro wb hbx hgx; have HX := Aside0.mk hbx; have HG := Aside0.mk hgx; clear hbx hgx)); replace P1 := Aside0.mk (P1.out.grown_box XR.out (by decide) HG.out); replace BEL := Aside0.mk (BEL.out.grown HG.out (by omega)); replace X0 := Aside0.mk (blk_grown X0.out HG.out (by omega)); replace XR := HX; clear HG)
  refine bodyPost_ret (results_dyad rfl _ _ (w.heap.size + 1) _ rfl XR.out rfl) rfl ?_
  exact ⟨_, rfl, QR.out _ _ _ (P1.out.lower (Nat.le_trans (Nat.le_add_right _ _) BL.out.2)), BEL.out.1⟩

set_option maxRecDepth 100000 in
set_option maxHeartbeats 8000000 in
theorem bneg_any (x : Nat) (hx : x < 18446744073709551616) (w : World) :
    Calls Tryd.prog 17 #[.int .u64 (x : Int)] w fun en w' => en = .returned (.int .u64 (negW x : Int)) ∧ Below w.heap.size w w' := by
  have h1 : bits .xor .u64 (x : Int) 9223372036854775808 = (negW x : Int) := by
    have h := bits_xor_u64_nat x 9223372036854775808 hx (by decide)
    rw [negW_xor hx] at h
    exact h
  have HB := Aside0.mk (Below.refl w.heap.size w)
  clear hx
  go_enter Tryd.func17, Tryd.ntmps17
  go_wp2
  go_ret
  exact ⟨rfl, HB.out⟩

set_option maxRecDepth 100000 in
set_option maxHeartbeats 8000000 in
theorem odd_any (f : Nat) (w : World) :
    Calls Tryd.prog 18 #[.int .u8 f] w fun en w' => en = .returned (.bool (oddF f)) ∧ Below w.heap.size w w' := by
  have HB := Aside0.mk (Below.refl w.heap.size w)
  unfold oddF
  by_cases h : f = 13 ∨ f = 15 ∨ f = 16 ∨ f = 18 ∨ f = 19 ∨ f = 21 ∨ f = 22 ∨ f = 24 ∨ f = 25 ∨ f = 27 ∨ f = 28 ∨ f = 30
  · rw [decide_eq_true h]
    rcases h with rfl | rfl | rfl | rfl | rfl | rfl | rfl | rfl | rfl | rfl | rfl | rfl
    all_goals (
      go_enter Tryd.func18, Tryd.ntmps18
      go_wp2
      go_ret
      exact ⟨rfl, HB.out⟩)
  · rw [decide_eq_false h]
    have e13 : ((f : Int) == 13) = false := by simp; omega
    have e15 : ((f : Int) == 15) = false := by simp; omega
    have e16 : ((f : Int) == 16) = false := by simp; omega
    have e18 : ((f : Int) == 18) = false := by simp; omega
    have e19 : ((f : Int) == 19) = false := by simp; omega
    have e21 : ((f : Int) == 21) = false := by simp; omega
    have e22 : ((f : Int) == 22) = false := by simp; omega
    have e24 : ((f : Int) == 24) = false := by simp; omega
    have e25 : ((f : Int) == 25) = false := by simp; omega
    have e27 : ((f : Int) == 27) = false := by simp; omega
    have e28 : ((f : Int) == 28) = false := by simp; omega
    have e30 : ((f : Int) == 30) = false := by simp; omega
    clear h
    go_enter Tryd.func18, Tryd.ntmps18
    go_wp2
    go_ret
    exact ⟨rfl, HB.out⟩
set_option maxRecDepth 100000 in
set_option maxHeartbeats 8000000 in
theorem mirror_odd (f x : Nat) (hf : f < 256) (hx : x < 18446744073709551616) (ho : oddF f = true) (w : World) (hT : TabAt 0 Lib.deBruijn64tab w) :
    Calls Tryd.prog 6 #[.int .u8 f, .int .u64 (x : Int)] w fun en w' => en = .returned (.bool true) ∧ Below w.heap.size w w' := by
  have HT := Aside0.mk hT
  have BEL := Aside0.mk (BelN.zero w)
  have Q1 := Aside0.mk (fun (W : World) (ht : TabAt 0 Lib.deBruijn64tab W) => exact_any f x hf hx W ht)
  have Q2 := Aside0.mk (fun (W : World) (ht : TabAt 0 Lib.deBruijn64tab W) => exact_any f (negW x) hf (negW_lt hx) W ht)
  have QN := Aside0.mk (fun (W : World) => bneg_any x hx W)
  have QO := Aside0.mk (fun (W : World) => odd_any f W)
  have OK1 := Aside0.mk (ex_ok (f := f) (x := x))
  rw [ho] at QO
  rw [exE_neg hx (.inl ho), exO_odd hx ho, negO_some, negO_fst, negO_snd] at Q2
  clear hT hf hx ho
  generalize ((exO f x).getD (0, 0)).1 = va at *
  generalize ((exO f x).getD (0, 0)).2 = ea at *
  generalize (exO f x).isSome = sa at *
  generalize exE f x = ra at *
  go_enter Tryd.func6, Tryd.ntmps6
  go_wp2_with fail
  go_at_call 9
  refine (lives_any _ (tab_below HT.out BEL.out.1)).mono ?_
  rintro en1 w1 ⟨rfl, hb⟩
  replace BEL := Aside0.mk (BEL.out.next hb)
  clear hb
  go_wp2_with fail
  go_at_call 11
  refine (Q1.out _ (tab_below HT.out BEL.out.1)).mono ?_
  rintro en2 w2 ⟨v2, rfl, hr, hb⟩
  replace BEL := Aside0.mk (BEL.out.next hb)
  have P1 := Aside0.mk hr
  obtain ⟨b2, A2, n2, c2, x2, rfl⟩ := hr.ex
  clear hr hb
  have BELo := BEL
  go_wp2_with (replace BEL := Aside0.mk ((BEL.out.alloc (.cells #[.bool false, .slice none 0 0, .int .i64 0] 27)).less (j := 0) (by omega)); have HN := Aside0.mk (blk_new w2 (.cells #[.bool false, .slice none 0 0, .int .i64 0] 27)); replace P1 := Aside0.mk (P1.out.below (below_alloc (Below.refl _ _) (.cells #[.bool false, .slice none 0 0, .int .i64 0] 27))); ((with_reducible refine gate_store (p := 5) rfl ?_); go_must (refine store_box 27 5 (.tmp 17) rfl rfl rfl (g := w2.heap.size) (e := 27) (.agg #[.bool b2, .slice A2 n2 c2, .int .i64 x2]) ([.bool b2, .slice A2 n2 c2, .int .i64 x2]) rfl rfl rfl info_dyad ?b1 HN.out rfl ?_; (case b1 => intro q hq; simp at hq; rcases hq with rfl | rfl | rfl <;> rfl); intro wb hbx hgx; have HX := Aside0.mk hbx; have HG := Aside0.mk hgx; clear hbx hgx)); replace P1 := Aside0.mk (P1.out.grown_box HN.out (by decide) HG.out); have LB_X1 := BELo.out.2; replace BEL := Aside0.mk (BEL.out.grown HG.out (Nat.le_trans (Nat.le_add_right _ _) LB_X1)); have LL_X1 := Aside0.mk LB_X1; clear LB_X1; have X1 := HX; clear HG HN HX)
  go_at_call 17
  refine (QN.out _).mono ?_
  rintro en3 w3 ⟨rfl, hb⟩
  replace BEL := Aside0.mk (BEL.out.next hb)
  replace X1 := Aside0.mk (blk_below X1.out hb)
  replace P1 := Aside0.mk (P1.out.below hb)
  clear hb
  go_wp2_with fail
  go_at_call 11
  refine (Q2.out _ (tab_below HT.out BEL.out.1)).mono ?_
  rintro en4 w4 ⟨v4, rfl, hr, hb⟩
  replace BEL := Aside0.mk (BEL.out.next hb)
  replace X1 := Aside0.mk (blk_below X1.out hb)
  replace P1 := Aside0.mk (P1.out.below hb)
  have P2 := Aside0.mk hr
  obtain ⟨b4, A4, n4, c4, x4, rfl⟩ := hr.ex
  clear hr hb
  have BELo := BEL
  go_wp2_with (replace BEL := Aside0.mk ((BEL.out.alloc (.cells #[.bool false, .slice none 0 0, .int .i64 0] 27)).less (j := 0) (by omega)); have HN := Aside0.mk (blk_new w4 (.cells #[.bool false, .slice none 0 0, .int .i64 0] 27)); have L_X1 := lt_blk X1.out; replace X1 := Aside0.mk (blk_alloc X1.out (.cells #[.bool false, .slice none 0 0, .int .i64 0] 27)); replace P1 := Aside0.mk (P1.out.below (below_alloc (Below.refl _ _) (.cells #[.bool false, .slice none 0 0, .int .i64 0] 27))); replace P2 := Aside0.mk (P2.out.below (below_alloc (Below.refl _ _) (.cells #[.bool false, .slice none 0 0, .int .i64 0] 27))); ((with_reducible refine gate_store (p := 8) rfl ?_); go_must (refine store_box 27 8 (.tmp 25) rfl rfl rfl (g := w4.heap.size) (e := 27) (.agg #[.bool b4, .slice A4 n4 c4, .int .i64 x4]) ([.bool b4, .slice A4 n4 c4, .int .i64 x4]) rfl rfl rfl info_dyad ?b1 HN.out rfl ?_; (case b1 => intro q hq; simp at hq; rcases hq with rfl | rfl | rfl <;> rfl); intro wb hbx hgx; have HX := Aside0.mk hbx; have HG := Aside0.mk hgx; clear hbx hgx)); replace P1 := Aside0.mk (P1.out.grown_box HN.out (by decide) HG.out); replace P2 := Aside0.mk (P2.out.grown_box HN.out (by decide) HG.out); have LB_X2 := BELo.out.2; replace BEL := Aside0.mk (BEL.out.grown HG.out (Nat.le_trans (Nat.le_add_right _ _) LB_X2)); replace X1 := Aside0.mk (blk_grown X1.out HG.out (Nat.ne_of_lt L_X1)); have NE_X1_X2 := Aside0.mk (Nat.ne_of_lt L_X1); clear L_X1; have LL_X2 := Aside0.mk LB_X2; clear LB_X2; have X2 := HX; clear HG HN HX)
  go_at_call 18
  refine (QO.out _).mono ?_
  rintro en5 w5 ⟨rfl, hb⟩
  replace BEL := Aside0.mk (BEL.out.next hb)
  replace X1 := Aside0.mk (blk_below X1.out hb)
  replace X2 := Aside0.mk (blk_below X2.out hb)
  replace P1 := Aside0.mk (P1.out.below hb)
  replace P2 := Aside0.mk (P2.out.below hb)
  clear hb
  go_upto_region 6 with fail
  obtain ⟨TM, hTM⟩ : ∃ T : List (Option Value), T = [some (.int .i64 ra), some (.int .i64 ra), some (.bool true), some (.bool true), some (.bool sa), some (.bool sa), some (.bool true), some (.bool true), some (.bool true), some (.agg #[.bool b2, .slice A2 n2 c2, .int .i64 x2]), some (.agg #[.bool b4, .slice A4 n4 c4, .int .i64 x4]), none, none, some (.bool true), some (.bool true)] := ⟨_, rfl⟩
  obtain ⟨GM, hGM⟩ : ∃ G : (Nat → Prop) → (Nat → Value) → World → Prop, G = fun L v W => BelN w 0 W ∧ W.heap[w2.heap.size]? = some (.cells #[.bool b2, .slice A2 n2 c2, .int .i64 x2] 27 (0, 0)) ∧ W.heap[w4.heap.size]? = some (.cells #[.bool b4, .slice A4 n4 c4, .int .i64 x4] 27 (0, 0)) ∧ PDy W 0 (.agg #[.bool b2, .slice A2 n2 c2, .int .i64 x2]) va ea ∧ PDy W 0 (.agg #[.bool b4, .slice A4 n4 c4, .int .i64 x4]) (-va) ea ∧ (∀ j c, L j → TM[j]? = some (some c) → v j = c) ∧ (L 11 → CDy W (v 11) va ea) ∧ (L 12 → (v 12) = .bool true) := ⟨_, rfl⟩
  refine wp_region_slotsV [30, 31, 32, 33, 34, 35, 36, 37, 38, 39, 40, 41, 42, 43, 4] (by kernel_rfl) (by kernel_rfl) (G := GM) ?h0M ?hstepM ?hendM
  case h0M =>
    intro v; rw [hGM]
    exact ⟨BEL.out.next (below_drew (Below.refl _ _)), blk_drew X1.out, blk_drew X2.out, (P1.out.below (below_drew (Below.refl _ _))).lower (Nat.zero_le _), (P2.out.below (below_drew (Below.refl _ _))).lower (Nat.zero_le _), fun _ _ h => h.elim, fun h => h.elim, fun h => h.elim⟩
  case hstepM =>
    intro k o ho v W L hGv hnk haft hcl K hK
    rw [hGM] at hGv
    obtain ⟨hB, hb0, hb1, hk0, hk1, fT, f11, f12⟩ := hGv
    rcases k with _ | _ | _ | _ | _ | _ | _ | _ | _ | _ | _ | _ | _ | _ | _ | k
    all_goals first
      | (cases ho; done)
      | (obtain rfl := (Option.some.inj ho).symm
         clear ho
         simp only [setAll, List.setIfInBounds_toArray, List.set_cons_zero, List.set_cons_succ, List.set_nil, List.getElem_toArray, List.getElem_cons_zero, List.getElem_cons_succ, Nat.reduceAdd] at haft hK ⊢)
    case zero =>
      rw [if_pos (by rfl)]
      have hb := Below.refl W.heap.size W
      have key := hK.out (.int .i64 ra) W (by rw [hGM]; exact ⟨hB.next hb, blk_below hb0 hb, blk_below hb1 hb, hk0.below hb, hk1.below hb, tabs_step fT (fun c h => by rw [hTM] at h; exact Option.some.inj (Option.some.inj h)), (fun h0 => by rw [upd_ne v _ (by decide)]; have h := f11 (h0.resolve_right (by decide)); exact (h.below hb)), (kv f12 (by decide))⟩)
      clear hb0 hb1 hk0 hk1 fT f11 f12 hK hb
      go_simp
      simpa [upd] using key
    case succ.zero =>
      rw [if_pos (by rfl)]
      have hb := Below.refl W.heap.size W
      have key := hK.out (.int .i64 ra) W (by rw [hGM]; exact ⟨hB.next hb, blk_below hb0 hb, blk_below hb1 hb, hk0.below hb, hk1.below hb, tabs_step fT (fun c h => by rw [hTM] at h; exact Option.some.inj (Option.some.inj h)), (fun h0 => by rw [upd_ne v _ (by decide)]; have h := f11 (h0.resolve_right (by decide)); exact (h.below hb)), (kv f12 (by decide))⟩)
      clear hb0 hb1 hk0 hk1 fT f11 f12 hK hb
      go_simp
      simpa [upd] using key
    case succ.succ.zero =>
      have d0 := fT 0 _ (haft { on := 0, ground := .data } (by simp) rfl) (by rw [hTM]; rfl)
      have d1 := fT 1 _ (haft { on := 1, ground := .data } (by simp) rfl) (by rw [hTM]; rfl)
      rw [if_pos (by rfl)]
      have hb := Below.refl W.heap.size W
      have key := hK.out (.bool true) W (by rw [hGM]; exact ⟨hB.next hb, blk_below hb0 hb, blk_below hb1 hb, hk0.below hb, hk1.below hb, tabs_step fT (fun c h => by rw [hTM] at h; exact Option.some.inj (Option.some.inj h)), (fun h0 => by rw [upd_ne v _ (by decide)]; have h := f11 (h0.resolve_right (by decide)); exact (h.below hb)), (kv f12 (by decide))⟩)
      clear hb0 hb1 hk0 hk1 fT f11 f12 hK hb
      go_simp
      simpa [upd, d0, d1] using key
    case succ.succ.succ.zero =>
      have d2 := fT 2 _ (haft { on := 2, ground := .data } (by simp) rfl) (by rw [hTM]; rfl)
      rw [if_pos (by rfl)]
      have hb := Below.refl W.heap.size W
      have key := hK.out (.bool true) W (by rw [hGM]; exact ⟨hB.next hb, blk_below hb0 hb, blk_below hb1 hb, hk0.below hb, hk1.below hb, tabs_step fT (fun c h => by rw [hTM] at h; exact Option.some.inj (Option.some.inj h)), (fun h0 => by rw [upd_ne v _ (by decide)]; have h := f11 (h0.resolve_right (by decide)); exact (h.below hb)), (kv f12 (by decide))⟩)
      clear hb0 hb1 hk0 hk1 fT f11 f12 hK hb
      go_simp
      simpa [upd, d2] using key
    case succ.succ.succ.succ.zero =>
      have dg := fT 3 _ (haft { on := 3, ground := .guard } (by simp) rfl) (by rw [hTM]; rfl)
      rw [if_pos (by simp [Region.wanted, yielded, dg])]
      have hb := Below.refl W.heap.size W
      have key := hK.out (.bool sa) W (by rw [hGM]; exact ⟨hB.next hb, blk_below hb0 hb, blk_below hb1 hb, hk0.below hb, hk1.below hb, tabs_step fT (fun c h => by rw [hTM] at h; exact Option.some.inj (Option.some.inj h)), (fun h0 => by rw [upd_ne v _ (by decide)]; have h := f11 (h0.resolve_right (by decide)); exact (h.below hb)), (kv f12 (by decide))⟩)
      clear hb0 hb1 hk0 hk1 fT f11 f12 hK hb
      go_simp
      simpa [upd, dg] using key
    case succ.succ.succ.succ.succ.zero =>
      have dg := fT 3 _ (haft { on := 3, ground := .guard } (by simp) rfl) (by rw [hTM]; rfl)
      rw [if_pos (by simp [Region.wanted, yielded, dg])]
      have hb := Below.refl W.heap.size W
      have key := hK.out (.bool sa) W (by rw [hGM]; exact ⟨hB.next hb, blk_below hb0 hb, blk_below hb1 hb, hk0.below hb, hk1.below hb, tabs_step fT (fun c h => by rw [hTM] at h; exact Option.some.inj (Option.some.inj h)), (fun h0 => by rw [upd_ne v _ (by decide)]; have h := f11 (h0.resolve_right (by decide)); exact (h.below hb)), (kv f12 (by decide))⟩)
      clear hb0 hb1 hk0 hk1 fT f11 f12 hK hb
      go_simp
      simpa [upd, dg] using key
    case succ.succ.succ.succ.succ.succ.zero =>
      have d4 := fT 4 _ (haft { on := 4, ground := .data } (by simp) rfl) (by rw [hTM]; rfl)
      have d5 := fT 5 _ (haft { on := 5, ground := .data } (by simp) rfl) (by rw [hTM]; rfl)
      have dg := fT 3 _ (haft { on := 3, ground := .guard } (by simp) rfl) (by rw [hTM]; rfl)
      rw [if_pos (by simp [Region.wanted, yielded, dg])]
      have hb := Below.refl W.heap.size W
      have key := hK.out (.bool true) W (by rw [hGM]; exact ⟨hB.next hb, blk_below hb0 hb, blk_below hb1 hb, hk0.below hb, hk1.below hb, tabs_step fT (fun c h => by rw [hTM] at h; exact Option.some.inj (Option.some.inj h)), (fun h0 => by rw [upd_ne v _ (by decide)]; have h := f11 (h0.resolve_right (by decide)); exact (h.below hb)), (kv f12 (by decide))⟩)
      clear hb0 hb1 hk0 hk1 fT f11 f12 hK hb
      go_simp
      simpa [upd, d4, d5, dg] using key
    case succ.succ.succ.succ.succ.succ.succ.zero =>
      have d3 := fT 3 _ (haft { on := 3, ground := .data } (by simp) rfl) (by rw [hTM]; rfl)
      have d6 := fT 6 _ (haft { on := 6, ground := .data } (by simp) rfl) (by rw [hTM]; rfl)
      rw [if_pos (by rfl)]
      have hb := Below.refl W.heap.size W
      have key := hK.out (.bool true) W (by rw [hGM]; exact ⟨hB.next hb, blk_below hb0 hb, blk_below hb1 hb, hk0.below hb, hk1.below hb, tabs_step fT (fun c h => by rw [hTM] at h; exact Option.some.inj (Option.some.inj h)), (fun h0 => by rw [upd_ne v _ (by decide)]; have h := f11 (h0.resolve_right (by decide)); exact (h.below hb)), (kv f12 (by decide))⟩)
      clear hb0 hb1 hk0 hk1 fT f11 f12 hK hb
      go_simp
      simpa [upd, d3, d6] using key
    case succ.succ.succ.succ.succ.succ.succ.succ.zero =>
      have d7 := fT 7 _ (haft { on := 7, ground := .data } (by simp) rfl) (by rw [hTM]; rfl)
      rw [if_pos (by rfl)]
      have hb := Below.refl W.heap.size W
      have key := hK.out (.bool true) W (by rw [hGM]; exact ⟨hB.next hb, blk_below hb0 hb, blk_below hb1 hb, hk0.below hb, hk1.below hb, tabs_step fT (fun c h => by rw [hTM] at h; exact Option.some.inj (Option.some.inj h)), (fun h0 => by rw [upd_ne v _ (by decide)]; have h := f11 (h0.resolve_right (by decide)); exact (h.below hb)), (kv f12 (by decide))⟩)
      clear hb0 hb1 hk0 hk1 fT f11 f12 hK hb
      go_simp
      simpa [upd, d7] using key
    case succ.succ.succ.succ.succ.succ.succ.succ.succ.zero =>
      have dg := fT 8 _ (haft { on := 8, ground := .guard } (by simp) rfl) (by rw [hTM]; rfl)
      rw [if_pos (by simp [Region.wanted, yielded, dg])]
      have cc0 := (box_cell (v := .bool b2) hb0 0 rfl).1
      have cc1 := (box_cell (v := .slice A2 n2 c2) hb0 1 rfl).1
      have cc2 := (box_cell (v := .int .i64 x2) hb0 2 rfl).1
      have hb := Below.refl W.heap.size W
      have key := hK.out (.agg #[.bool b2, .slice A2 n2 c2, .int .i64 x2]) W (by rw [hGM]; exact ⟨hB.next hb, blk_below hb0 hb, blk_below hb1 hb, hk0.below hb, hk1.below hb, tabs_step fT (fun c h => by rw [hTM] at h; exact Option.some.inj (Option.some.inj h)), (fun h0 => by rw [upd_ne v _ (by decide)]; have h := f11 (h0.resolve_right (by decide)); exact (h.below hb)), (kv f12 (by decide))⟩)
      clear hb0 hb1 hk0 hk1 fT f11 f12 hK hb
      go_simp
      simpa [upd, dg] using key
    case succ.succ.succ.succ.succ.succ.succ.succ.succ.succ.zero =>
      have dg := fT 8 _ (haft { on := 8, ground := .guard } (by simp) rfl) (by rw [hTM]; rfl)
      rw [if_pos (by simp [Region.wanted, yielded, dg])]
      have cc0 := (box_cell (v := .bool b4) hb1 0 rfl).1
      have cc1 := (box_cell (v := .slice A4 n4 c4) hb1 1 rfl).1
      have cc2 := (box_cell (v := .int .i64 x4) hb1 2 rfl).1
      have hb := Below.refl W.heap.size W
      have key := hK.out (.agg #[.bool b4, .slice A4 n4 c4, .int .i64 x4]) W (by rw [hGM]; exact ⟨hB.next hb, blk_below hb0 hb, blk_below hb1 hb, hk0.below hb, hk1.below hb, tabs_step fT (fun c h => by rw [hTM] at h; exact Option.some.inj (Option.some.inj h)), (fun h0 => by rw [upd_ne v _ (by decide)]; have h := f11 (h0.resolve_right (by decide)); exact (h.below hb)), (kv f12 (by decide))⟩)
      clear hb0 hb1 hk0 hk1 fT f11 f12 hK hb
      go_simp
      simpa [upd, dg] using key
    case succ.succ.succ.succ.succ.succ.succ.succ.succ.succ.succ.zero =>
      have d10 := fT 10 _ (haft { on := 10, ground := .data } (by simp) rfl) (by rw [hTM]; rfl)
      have dg := fT 8 _ (haft { on := 8, ground := .guard } (by simp) rfl) (by rw [hTM]; rfl)
      rw [if_pos (by simp [Region.wanted, yielded, dg])]
      have K2 := hk1
      have HALL := Aside0.mk (And.intro hK (And.intro hB (And.intro hb0 ( And.intro hb1 ( And.intro hk0 ( And.intro hk1 ( And.intro fT ( And.intro f11 ( And.intro f12 (True.intro))))))))))
      clear hK hb0 hb1 hk0 hk1 fT f11 f12
      go_simp
      go_at_call 19
      refine (dneg_any K2.c OK1.out.2).mono ?_
      rintro en w4 ⟨v1, rfl, hr, hb⟩
      obtain ⟨hK, hB, hb0, hb1, hk0, hk1, fT, f11, f12, _⟩ := HALL.out
      have key := hK.out (v1) w4 (by rw [hGM]; exact ⟨hB.next hb, blk_below hb0 hb, blk_below hb1 hb, hk0.below hb, hk1.below hb, tabs_step fT (fun c h => by rw [hTM] at h; cases h), fun _ => by rw [upd_eq]; exact (by have q := hr.c; rw [Int.neg_neg] at q; exact q), (kv f12 (by decide))⟩)
      clear hb0 hb1 hk0 hk1 fT f11 f12 hK HALL
      simpa [upd, d10, dg] using key
    case succ.succ.succ.succ.succ.succ.succ.succ.succ.succ.succ.succ.zero =>
      have d9 := fT 9 _ (haft { on := 9, ground := .data } (by simp) rfl) (by rw [hTM]; rfl)
      have d11 := f11 (haft { on := 11, ground := .data } (by simp) rfl)
      have dg := fT 8 _ (haft { on := 8, ground := .guard } (by simp) rfl) (by rw [hTM]; rfl)
      rw [if_pos (by simp [Region.wanted, yielded, dg])]
      have K1 := hk0
      have HALL := Aside0.mk (And.intro hK (And.intro hB (And.intro hb0 ( And.intro hb1 ( And.intro hk0 ( And.intro hk1 ( And.intro fT ( And.intro f11 ( And.intro f12 (True.intro))))))))))
      clear hK hb0 hb1 hk0 hk1 fT f11 f12
      go_simp
      go_at_call 10
      refine (same_self K1.c d11 OK1.out.1).mono ?_
      rintro en w4 ⟨rfl, hb⟩
      obtain ⟨hK, hB, hb0, hb1, hk0, hk1, fT, f11, f12, _⟩ := HALL.out
      have key := hK.out (.bool true) w4 (by rw [hGM]; exact ⟨hB.next hb, blk_below hb0 hb, blk_below hb1 hb, hk0.below hb, hk1.below hb, tabs_step fT (fun c h => by rw [hTM] at h; cases h), (fun h0 => by rw [upd_ne v _ (by decide)]; have h := f11 (h0.resolve_right (by decide)); exact (h.below hb)), fun _ => by rw [upd_eq]⟩)
      clear hb0 hb1 hk0 hk1 fT f11 f12 hK HALL
      simpa [upd, d9, dg] using key
    case succ.succ.succ.succ.succ.succ.succ.succ.succ.succ.succ.succ.succ.zero =>
      have d8 := fT 8 _ (haft { on := 8, ground := .data } (by simp) rfl) (by rw [hTM]; rfl)
      have d12 := f12 (haft { on := 12, ground := .data } (by simp) rfl)
      rw [if_pos (by rfl)]
      have hb := Below.refl W.heap.size W
      have key := hK.out (.bool true) W (by rw [hGM]; exact ⟨hB.next hb, blk_below hb0 hb, blk_below hb1 hb, hk0.below hb, hk1.below hb, tabs_step fT (fun c h => by rw [hTM] at h; exact Option.some.inj (Option.some.inj h)), (fun h0 => by rw [upd_ne v _ (by decide)]; have h := f11 (h0.resolve_right (by decide)); exact (h.below hb)), (kv f12 (by decide))⟩)
      clear hb0 hb1 hk0 hk1 fT f11 f12 hK hb
      go_simp
      simpa [upd, d8, d12] using key
    case succ.succ.succ.succ.succ.succ.succ.succ.succ.succ.succ.succ.succ.succ.zero =>
      have d13 := fT 13 _ (haft { on := 13, ground := .data } (by simp) rfl) (by rw [hTM]; rfl)
      rw [if_pos (by rfl)]
      have hb := Below.refl W.heap.size W
      have key := hK.out (.bool true) W (by rw [hGM]; exact ⟨hB.next hb, blk_below hb0 hb, blk_below hb1 hb, hk0.below hb, hk1.below hb, tabs_step fT (fun c h => by rw [hTM] at h; exact Option.some.inj (Option.some.inj h)), (fun h0 => by rw [upd_ne v _ (by decide)]; have h := f11 (h0.resolve_right (by decide)); exact (h.below hb)), (kv f12 (by decide))⟩)
      clear hb0 hb1 hk0 hk1 fT f11 f12 hK hb
      go_simp
      simpa [upd, d13] using key
  case hendM =>
    intro v W L0 hall hGv
    rw [hGM] at hGv
    obtain ⟨hB, hb0, hb1, hk0, hk1, fT, f11, f12⟩ := hGv
    have d14 := fT 14 _ (hall 14 (by decide)) (by rw [hTM]; rfl)
    replace BEL := Aside0.mk hB
    clear hall hB fT f11 f12
    simp only [setAll, List.setIfInBounds_toArray, List.set_cons_zero, List.set_cons_succ, Nat.reduceAdd, d14]
    go_wp2
    go_ret
    exact ⟨rfl, BEL.out.1⟩

set_option maxRecDepth 100000 in
set_option maxHeartbeats 8000000 in
theorem mirror_even (f x : Nat) (hf : f < 256) (hx : x < 18446744073709551616) (ho : oddF f = false) (he : f = 14 ∨ f = 17 ∨ f = 26) (w : World) (hT : TabAt 0 Lib.deBruijn64tab w) :
    Calls Tryd.prog 6 #[.int .u8 f, .int .u64 (x : Int)] w fun en w' => en = .returned (.bool true) ∧ Below w.heap.size w w' := by
  have HT := Aside0.mk hT
  have BEL := Aside0.mk (BelN.zero w)
  have Q1 := Aside0.mk (fun (W : World) (ht : TabAt 0 Lib.deBruijn64tab W) => exact_any f x hf hx W ht)
  have Q2 := Aside0.mk (fun (W : World) (ht : TabAt 0 Lib.deBruijn64tab W) => exact_any f (negW x) hf (negW_lt hx) W ht)
  have QN := Aside0.mk (fun (W : World) => bneg_any x hx W)
  have QO := Aside0.mk (fun (W : World) => odd_any f W)
  have OK1 := Aside0.mk (ex_ok (f := f) (x := x))
  have hev : evenF f = true := by unfold evenF; rcases he with rfl | rfl | rfl <;> rfl
  rw [ho] at QO
  rw [exE_neg hx (.inr hev), exO_even hx hev] at Q2
  clear hT hf hx ho hev
  rcases he with rfl | rfl | rfl
  · skip
    generalize ((exO  14 x).getD (0, 0)).1 = va at *
    generalize ((exO  14 x).getD (0, 0)).2 = ea at *
    generalize (exO  14 x).isSome = sa at *
    generalize exE  14 x = ra at *
    go_enter Tryd.func6, Tryd.ntmps6
    go_wp2_with fail
    go_at_call 9
    refine (lives_any _ (tab_below HT.out BEL.out.1)).mono ?_
    rintro en1 w1 ⟨rfl, hb⟩
    replace BEL := Aside0.mk (BEL.out.next hb)
    clear hb
    go_wp2_with fail
    go_at_call 11
    refine (Q1.out _ (tab_below HT.out BEL.out.1)).mono ?_
    rintro en2 w2 ⟨v2, rfl, hr, hb⟩
    replace BEL := Aside0.mk (BEL.out.next hb)
    have P1 := Aside0.mk hr
    obtain ⟨b2, A2, n2, c2, x2, rfl⟩ := hr.ex
    clear hr hb
    have BELo := BEL
    go_wp2_with (replace BEL := Aside0.mk ((BEL.out.alloc (.cells #[.bool false, .slice none 0 0, .int .i64 0] 27)).less (j := 0) (by omega)); have HN := Aside0.mk (blk_new w2 (.cells #[.bool false, .slice none 0 0, .int .i64 0] 27)); replace P1 := Aside0.mk (P1.out.below (below_alloc (Below.refl _ _) (.cells #[.bool false, .slice none 0 0, .int .i64 0] 27))); ((with_reducible refine gate_store (p := 5) rfl ?_); go_must (refine store_box 27 5 (.tmp 17) rfl rfl rfl (g := w2.heap.size) (e := 27) (.agg #[.bool b2, .slice A2 n2 c2, .int .i64 x2]) ([.bool b2, .slice A2 n2 c2, .int .i64 x2]) rfl rfl rfl info_dyad ?b1 HN.out rfl ?_; (case b1 => intro q hq; simp at hq; rcases hq with rfl | rfl | rfl <;> rfl); intro wb hbx hgx; have HX := Aside0.mk hbx; have HG := Aside0.mk hgx; clear hbx hgx)); replace P1 := Aside0.mk (P1.out.grown_box HN.out (by decide) HG.out); have LB_X1 := BELo.out.2; replace BEL := Aside0.mk (BEL.out.grown HG.out (Nat.le_trans (Nat.le_add_right _ _) LB_X1)); have LL_X1 := Aside0.mk LB_X1; clear LB_X1; have X1 := HX; clear HG HN HX)
    go_at_call 17
    refine (QN.out _).mono ?_
    rintro en3 w3 ⟨rfl, hb⟩
    replace BEL := Aside0.mk (BEL.out.next hb)
    replace X1 := Aside0.mk (blk_below X1.out hb)
    replace P1 := Aside0.mk (P1.out.below hb)
    clear hb
    go_wp2_with fail
    go_at_call 11
    refine (Q2.out _ (tab_below HT.out BEL.out.1)).mono ?_
    rintro en4 w4 ⟨v4, rfl, hr, hb⟩
    replace BEL := Aside0.mk (BEL.out.next hb)
    replace X1 := Aside0.mk (blk_below X1.out hb)
    replace P1 := Aside0.mk (P1.out.below hb)
    have P2 := Aside0.mk hr
    obtain ⟨b4, A4, n4, c4, x4, rfl⟩ := hr.ex
    clear hr hb
    have BELo := BEL
    go_wp2_with (replace BEL := Aside0.mk ((BEL.out.alloc (.cells #[.bool false, .slice none 0 0, .int .i64 0] 27)).less (j := 0) (by omega)); have HN := Aside0.mk (blk_new w4 (.cells #[.bool false, .slice none 0 0, .int .i64 0] 27)); have L_X1 := lt_blk X1.out; replace X1 := Aside0.mk (blk_alloc X1.out (.cells #[.bool false, .slice none 0 0, .int .i64 0] 27)); replace P1 := Aside0.mk (P1.out.below (below_alloc (Below.refl _ _) (.cells #[.bool false, .slice none 0 0, .int .i64 0] 27))); replace P2 := Aside0.mk (P2.out.below (below_alloc (Below.refl _ _) (.cells #[.bool false, .slice none 0 0, .int .i64 0] 27))); ((with_reducible refine gate_store (p := 8) rfl ?_); go_must (refine store_box 27 8 (.tmp 25) rfl rfl rfl (g := w4.heap.size) (e := 27) (.agg #[.bool b4, .slice A4 n4 c4, .int .i64 x4]) ([.bool b4, .slice A4 n4 c4, .int .i64 x4]) rfl rfl rfl info_dyad ?b1 HN.out rfl ?_; (case b1 => intro q hq; simp at hq; rcases hq with rfl | rfl | rfl <;> rfl); intro wb hbx hgx; have HX := Aside0.mk hbx; have HG := Aside0.mk hgx; clear hbx hgx)); replace P1 := Aside0.mk (P1.out.grown_box HN.out (by decide) HG.out); replace P2 := Aside0.mk (P2.out.grown_box HN.out (by decide) HG.out); have LB_X2 := BELo.out.2; replace BEL := Aside0.mk (BEL.out.grown HG.out (Nat.le_trans (Nat.le_add_right _ _) LB_X2)); replace X1 := Aside0.mk (blk_grown X1.out HG.out (Nat.ne_of_lt L_X1)); have NE_X1_X2 := Aside0.mk (Nat.ne_of_lt L_X1); clear L_X1; have LL_X2 := Aside0.mk LB_X2; clear LB_X2; have X2 := HX; clear HG HN HX)
    go_at_call 18
    refine (QO.out _).mono ?_
    rintro en5 w5 ⟨rfl, hb⟩
    replace BEL := Aside0.mk (BEL.out.next hb)
    replace X1 := Aside0.mk (blk_below X1.out hb)
    replace X2 := Aside0.mk (blk_below X2.out hb)
    replace P1 := Aside0.mk (P1.out.below hb)
    replace P2 := Aside0.mk (P2.out.below hb)
    clear hb
    obtain ⟨q0, q0'⟩ := box_cell X1.out 0 rfl
    obtain ⟨q1, q1'⟩ := box_cell X1.out 1 rfl
    obtain ⟨q2, q2'⟩ := box_cell X1.out 2 rfl
    obtain ⟨q3, q3'⟩ := box_cell X2.out 0 rfl
    obtain ⟨q4, q4'⟩ := box_cell X2.out 1 rfl
    obtain ⟨q5, q5'⟩ := box_cell X2.out 2 rfl
    go_wp2_with fail
    clear q0 q0' q1 q1' q2 q2' q3 q3' q4 q4' q5 q5'
    go_at_call 10
    refine (same_self P1.out.c P2.out.c OK1.out.1).mono ?_
    rintro en6 w6 ⟨rfl, hb⟩
    replace BEL := Aside0.mk (BEL.out.next hb)
    replace X1 := Aside0.mk (blk_below X1.out hb)
    replace X2 := Aside0.mk (blk_below X2.out hb)
    replace P1 := Aside0.mk (P1.out.below hb)
    replace P2 := Aside0.mk (P2.out.below hb)
    clear hb
    go_wp2_with fail
    go_ret
    exact ⟨rfl, BEL.out.1⟩
  · skip
    generalize ((exO  17 x).getD (0, 0)).1 = va at *
    generalize ((exO  17 x).getD (0, 0)).2 = ea at *
    generalize (exO  17 x).isSome = sa at *
    generalize exE  17 x = ra at *
    go_enter Tryd.func6, Tryd.ntmps6
    go_wp2_with fail
    go_at_call 9
    refine (lives_any _ (tab_below HT.out BEL.out.1)).mono ?_
    rintro en1 w1 ⟨rfl, hb⟩
    replace BEL := Aside0.mk (BEL.out.next hb)
    clear hb
    go_wp2_with fail
    go_at_call 11
    refine (Q1.out _ (tab_below HT.out BEL.out.1)).mono ?_
    rintro en2 w2 ⟨v2, rfl, hr, hb⟩
    replace BEL := Aside0.mk (BEL.out.next hb)
    have P1 := Aside0.mk hr
    obtain ⟨b2, A2, n2, c2, x2, rfl⟩ := hr.ex
    clear hr hb
    have BELo := BEL
    go_wp2_with (replace BEL := Aside0.mk ((BEL.out.alloc (.cells #[.bool false, .slice none 0 0, .int .i64 0] 27)).less (j := 0) (by omega)); have HN := Aside0.mk (blk_new w2 (.cells #[.bool false, .slice none 0 0, .int .i64 0] 27)); replace P1 := Aside0.mk (P1.out.below (below_alloc (Below.refl _ _) (.cells #[.bool false, .slice none 0 0, .int .i64 0] 27))); ((with_reducible refine gate_store (p := 5) rfl ?_); go_must (refine store_box 27 5 (.tmp 17) rfl rfl rfl (g := w2.heap.size) (e := 27) (.agg #[.bool b2, .slice A2 n2 c2, .int .i64 x2]) ([.bool b2, .slice A2 n2 c2, .int .i64 x2]) rfl rfl rfl info_dyad ?b1 HN.out rfl ?_; (case b1 => intro q hq; simp at hq; rcases hq with rfl | rfl | rfl <;> rfl); intro wb hbx hgx; have HX := Aside0.mk hbx; have HG := Aside0.mk hgx; clear hbx hgx)); replace P1 := Aside0.mk (P1.out.grown_box HN.out (by decide) HG.out); have LB_X1 := BELo.out.2; replace BEL := Aside0.mk (BEL.out.grown HG.out (Nat.le_trans (Nat.le_add_right _ _) LB_X1)); have LL_X1 := Aside0.mk LB_X1; clear LB_X1; have X1 := HX; clear HG HN HX)
    go_at_call 17
    refine (QN.out _).mono ?_
    rintro en3 w3 ⟨rfl, hb⟩
    replace BEL := Aside0.mk (BEL.out.next hb)
    replace X1 := Aside0.mk (blk_below X1.out hb)
    replace P1 := Aside0.mk (P1.out.below hb)
    clear hb
    go_wp2_with fail
    go_at_call 11
    refine (Q2.out _ (tab_below HT.out BEL.out.1)).mono ?_
    rintro en4 w4 ⟨v4, rfl, hr, hb⟩
    replace BEL := Aside0.mk (BEL.out.next hb)
    replace X1 := Aside0.mk (blk_below X1.out hb)
    replace P1 := Aside0.mk (P1.out.below hb)
    have P2 := Aside0.mk hr
    obtain ⟨b4, A4, n4, c4, x4, rfl⟩ := hr.ex
    clear hr hb
    have BELo := BEL
    go_wp2_with (replace BEL := Aside0.mk ((BEL.out.alloc (.cells #[.bool false, .slice none 0 0, .int .i64 0] 27)).less (j := 0) (by omega)); have HN := Aside0.mk (blk_new w4 (.cells #[.bool false, .slice none 0 0, .int .i64 0] 27)); have L_X1 := lt_blk X1.out; replace X1 := Aside0.mk (blk_alloc X1.out (.cells #[.bool false, .slice none 0 0, .int .i64 0] 27)); replace P1 := Aside0.mk (P1.out.below (below_alloc (Below.refl _ _) (.cells #[.bool false, .slice none 0 0, .int .i64 0] 27))); replace P2 := Aside0.mk (P2.out.below (below_alloc (Below.refl _ _) (.cells #[.bool false, .slice none 0 0, .int .i64 0] 27))); ((with_reducible refine gate_store (p := 8) rfl ?_); go_must (refine store_box 27 8 (.tmp 25) rfl rfl rfl (g := w4.heap.size) (e := 27) (.agg #[.bool b4, .slice A4 n4 c4, .int .i64 x4]) ([.bool b4, .slice A4 n4 c4, .int .i64 x4]) rfl rfl rfl info_dyad ?b1 HN.out rfl ?_; (case b1 => intro q hq; simp at hq; rcases hq with rfl | rfl | rfl <;> rfl); intro wb hbx hgx; have HX := Aside0.mk hbx; have HG := Aside0.mk hgx; clear hbx hgx)); replace P1 := Aside0.mk (P1.out.grown_box HN.out (by decide) HG.out); replace P2 := Aside0.mk (P2.out.grown_box HN.out (by decide) HG.out); have LB_X2 := BELo.out.2; replace BEL := Aside0.mk (BEL.out.grown HG.out (Nat.le_trans (Nat.le_add_right _ _) LB_X2)); replace X1 := Aside0.mk (blk_grown X1.out HG.out (Nat.ne_of_lt L_X1)); have NE_X1_X2 := Aside0.mk (Nat.ne_of_lt L_X1); clear L_X1; have LL_X2 := Aside0.mk LB_X2; clear LB_X2; have X2 := HX; clear HG HN HX)
    go_at_call 18
    refine (QO.out _).mono ?_
    rintro en5 w5 ⟨rfl, hb⟩
    replace BEL := Aside0.mk (BEL.out.next hb)
    replace X1 := Aside0.mk (blk_below X1.out hb)
    replace X2 := Aside0.mk (blk_below X2.out hb)
    replace P1 := Aside0.mk (P1.out.below hb)
    replace P2 := Aside0.mk (P2.out.below hb)
    clear hb
    obtain ⟨q0, q0'⟩ := box_cell X1.out 0 rfl
    obtain ⟨q1, q1'⟩ := box_cell X1.out 1 rfl
    obtain ⟨q2, q2'⟩ := box_cell X1.out 2 rfl
    obtain ⟨q3, q3'⟩ := box_cell X2.out 0 rfl
    obtain ⟨q4, q4'⟩ := box_cell X2.out 1 rfl
    obtain ⟨q5, q5'⟩ := box_cell X2.out 2 rfl
    go_wp2_with fail
    clear q0 q0' q1 q1' q2 q2' q3 q3' q4 q4' q5 q5'
    go_at_call 10
    refine (same_self P1.out.c P2.out.c OK1.out.1).mono ?_
    rintro en6 w6 ⟨rfl, hb⟩
    replace BEL := Aside0.mk (BEL.out.next hb)
    replace X1 := Aside0.mk (blk_below X1.out hb)
    replace X2 := Aside0.mk (blk_below X2.out hb)
    replace P1 := Aside0.mk (P1.out.below hb)
    replace P2 := Aside0.mk (P2.out.below hb)
    clear hb
    go_wp2_with fail
    go_ret
    exact ⟨rfl, BEL.out.1⟩
  · skip
    generalize ((exO  26 x).getD (0, 0)).1 = va at *
    generalize ((exO  26 x).getD (0, 0)).2 = ea at *
    generalize (exO  26 x).isSome = sa at *
    generalize exE  26 x = ra at *
    go_enter Tryd.func6, Tryd.ntmps6
    go_wp2_with fail
    go_at_call 9
    refine (lives_any _ (tab_below HT.out BEL.out.1)).mono ?_
    rintro en1 w1 ⟨rfl, hb⟩
    replace BEL := Aside0.mk (BEL.out.next hb)
    clear hb
    go_wp2_with fail
    go_at_call 11
    refine (Q1.out _ (tab_below HT.out BEL.out.1)).mono ?_
    rintro en2 w2 ⟨v2, rfl, hr, hb⟩
    replace BEL := Aside0.mk (BEL.out.next hb)
    have P1 := Aside0.mk hr
    obtain ⟨b2, A2, n2, c2, x2, rfl⟩ := hr.ex
    clear hr hb
    have BELo := BEL
    go_wp2_with (replace BEL := Aside0.mk ((BEL.out.alloc (.cells #[.bool false, .slice none 0 0, .int .i64 0] 27)).less (j := 0) (by omega)); have HN := Aside0.mk (blk_new w2 (.cells #[.bool false, .slice none 0 0, .int .i64 0] 27)); replace P1 := Aside0.mk (P1.out.below (below_alloc (Below.refl _ _) (.cells #[.bool false, .slice none 0 0, .int .i64 0] 27))); ((with_reducible refine gate_store (p := 5) rfl ?_); go_must (refine store_box 27 5 (.tmp 17) rfl rfl rfl (g := w2.heap.size) (e := 27) (.agg #[.bool b2, .slice A2 n2 c2, .int .i64 x2]) ([.bool b2, .slice A2 n2 c2, .int .i64 x2]) rfl rfl rfl info_dyad ?b1 HN.out rfl ?_; (case b1 => intro q hq; simp at hq; rcases hq with rfl | rfl | rfl <;> rfl); intro wb hbx hgx; have HX := Aside0.mk hbx; have HG := Aside0.mk hgx; clear hbx hgx)); replace P1 := Aside0.mk (P1.out.grown_box HN.out (by decide) HG.out); have LB_X1 := BELo.out.2; replace BEL := Aside0.mk (BEL.out.grown HG.out (Nat.le_trans (Nat.le_add_right _ _) LB_X1)); have LL_X1 := Aside0.mk LB_X1; clear LB_X1; have X1 := HX; clear HG HN HX)
    go_at_call 17
    refine (QN.out _).mono ?_
    rintro en3 w3 ⟨rfl, hb⟩
    replace BEL := Aside0.mk (BEL.out.next hb)
    replace X1 := Aside0.mk (blk_below X1.out hb)
    replace P1 := Aside0.mk (P1.out.below hb)
    clear hb
    go_wp2_with fail
    go_at_call 11
    refine (Q2.out _ (tab_below HT.out BEL.out.1)).mono ?_
    rintro en4 w4 ⟨v4, rfl, hr, hb⟩
    replace BEL := Aside0.mk (BEL.out.next hb)
    replace X1 := Aside0.mk (blk_below X1.out hb)
    replace P1 := Aside0.mk (P1.out.below hb)
    have P2 := Aside0.mk hr
    obtain ⟨b4, A4, n4, c4, x4, rfl⟩ := hr.ex
    clear hr hb
    have BELo := BEL
    go_wp2_with (replace BEL := Aside0.mk ((BEL.out.alloc (.cells #[.bool false, .slice none 0 0, .int .i64 0] 27)).less (j := 0) (by omega)); have HN := Aside0.mk (blk_new w4 (.cells #[.bool false, .slice none 0 0, .int .i64 0] 27)); have L_X1 := lt_blk X1.out; replace X1 := Aside0.mk (blk_alloc X1.out (.cells #[.bool false, .slice none 0 0, .int .i64 0] 27)); replace P1 := Aside0.mk (P1.out.below (below_alloc (Below.refl _ _) (.cells #[.bool false, .slice none 0 0, .int .i64 0] 27))); replace P2 := Aside0.mk (P2.out.below (below_alloc (Below.refl _ _) (.cells #[.bool false, .slice none 0 0, .int .i64 0] 27))); ((with_reducible refine gate_store (p := 8) rfl ?_); go_must (refine store_box 27 8 (.tmp 25) rfl rfl rfl (g := w4.heap.size) (e := 27) (.agg #[.bool b4, .slice A4 n4 c4, .int .i64 x4]) ([.bool b4, .slice A4 n4 c4, .int .i64 x4]) rfl rfl rfl info_dyad ?b1 HN.out rfl ?_; (case b1 => intro q hq; simp at hq; rcases hq with rfl | rfl | rfl <;> rfl); intro wb hbx hgx; have HX := Aside0.mk hbx; have HG := Aside0.mk hgx; clear hbx hgx)); replace P1 := Aside0.mk (P1.out.grown_box HN.out (by decide) HG.out); replace P2 := Aside0.mk (P2.out.grown_box HN.out (by decide) HG.out); have LB_X2 := BELo.out.2; replace BEL := Aside0.mk (BEL.out.grown HG.out (Nat.le_trans (Nat.le_add_right _ _) LB_X2)); replace X1 := Aside0.mk (blk_grown X1.out HG.out (Nat.ne_of_lt L_X1)); have NE_X1_X2 := Aside0.mk (Nat.ne_of_lt L_X1); clear L_X1; have LL_X2 := Aside0.mk LB_X2; clear LB_X2; have X2 := HX; clear HG HN HX)
    go_at_call 18
    refine (QO.out _).mono ?_
    rintro en5 w5 ⟨rfl, hb⟩
    replace BEL := Aside0.mk (BEL.out.next hb)
    replace X1 := Aside0.mk (blk_below X1.out hb)
    replace X2 := Aside0.mk (blk_below X2.out hb)
    replace P1 := Aside0.mk (P1.out.below hb)
    replace P2 := Aside0.mk (P2.out.below hb)
    clear hb
    obtain ⟨q0, q0'⟩ := box_cell X1.out 0 rfl
    obtain ⟨q1, q1'⟩ := box_cell X1.out 1 rfl
    obtain ⟨q2, q2'⟩ := box_cell X1.out 2 rfl
    obtain ⟨q3, q3'⟩ := box_cell X2.out 0 rfl
    obtain ⟨q4, q4'⟩ := box_cell X2.out 1 rfl
    obtain ⟨q5, q5'⟩ := box_cell X2.out 2 rfl
    go_wp2_with fail
    clear q0 q0' q1 q1' q2 q2' q3 q3' q4 q4' q5 q5'
    go_at_call 10
    refine (same_self P1.out.c P2.out.c OK1.out.1).mono ?_
    rintro en6 w6 ⟨rfl, hb⟩
    replace BEL := Aside0.mk (BEL.out.next hb)
    replace X1 := Aside0.mk (blk_below X1.out hb)
    replace X2 := Aside0.mk (blk_below X2.out hb)
    replace P1 := Aside0.mk (P1.out.below hb)
    replace P2 := Aside0.mk (P2.out.below hb)
    clear hb
    go_wp2_with fail
    go_ret
    exact ⟨rfl, BEL.out.1⟩

set_option maxRecDepth 100000 in
set_option maxHeartbeats 8000000 in
theorem mirror_none (f x : Nat) (hf : f < 256) (hx : x < 18446744073709551616) (ho : oddF f = false) (he : ¬ (f = 14 ∨ f = 17 ∨ f = 26)) (w : World) (hT : TabAt 0 Lib.deBruijn64tab w) :
    Calls Tryd.prog 6 #[.int .u8 f, .int .u64 (x : Int)] w fun en w' => en = .returned (.bool true) ∧ Below w.heap.size w w' := by
  have HT := Aside0.mk hT
  have BEL := Aside0.mk (BelN.zero w)
  have Q1 := Aside0.mk (fun (W : World) (ht : TabAt 0 Lib.deBruijn64tab W) => exact_any f x hf hx W ht)
  have Q2 := Aside0.mk (fun (W : World) (ht : TabAt 0 Lib.deBruijn64tab W) => exact_any f (negW x) hf (negW_lt hx) W ht)
  have QN := Aside0.mk (fun (W : World) => bneg_any x hx W)
  have QO := Aside0.mk (fun (W : World) => odd_any f W)
  have OK1 := Aside0.mk (ex_ok (f := f) (x := x))
  rw [ho] at QO
  have h14 : ((f : Int) == 14) = false := by simp; omega
  have h17 : ((f : Int) == 17) = false := by simp; omega
  have h26 : ((f : Int) == 26) = false := by simp; omega
  clear hT hf hx ho he
  generalize ((exO f (negW x)).getD (0, 0)).1 = vb at *
  generalize ((exO f (negW x)).getD (0, 0)).2 = eb at *
  generalize (exO f (negW x)).isSome = sb at *
  generalize exE f (negW x) = rb at *
  generalize ((exO f x).getD (0, 0)).1 = va at *
  generalize ((exO f x).getD (0, 0)).2 = ea at *
  generalize (exO f x).isSome = sa at *
  generalize exE f x = ra at *
  go_enter Tryd.func6, Tryd.ntmps6
  go_wp2_with fail
  go_at_call 9
  refine (lives_any _ (tab_below HT.out BEL.out.1)).mono ?_
  rintro en1 w1 ⟨rfl, hb⟩
  replace BEL := Aside0.mk (BEL.out.next hb)
  clear hb
  go_wp2_with fail
  go_at_call 11
  refine (Q1.out _ (tab_below HT.out BEL.out.1)).mono ?_
  rintro en2 w2 ⟨v2, rfl, hr, hb⟩
  replace BEL := Aside0.mk (BEL.out.next hb)
  have P1 := Aside0.mk hr
  obtain ⟨b2, A2, n2, c2, x2, rfl⟩ := hr.ex
  clear hr hb
  have BELo := BEL
  go_wp2_with (replace BEL := Aside0.mk ((BEL.out.alloc (.cells #[.bool false, .slice none 0 0, .int .i64 0] 27)).less (j := 0) (by omega)); have HN := Aside0.mk (blk_new w2 (.cells #[.bool false, .slice none 0 0, .int .i64 0] 27)); replace P1 := Aside0.mk (P1.out.below (below_alloc (Below.refl _ _) (.cells #[.bool false, .slice none 0 0, .int .i64 0] 27))); ((with_reducible refine gate_store (p := 5) rfl ?_); go_must (refine store_box 27 5 (.tmp 17) rfl rfl rfl (g := w2.heap.size) (e := 27) (.agg #[.bool b2, .slice A2 n2 c2, .int .i64 x2]) ([.bool b2, .slice A2 n2 c2, .int .i64 x2]) rfl rfl rfl info_dyad ?b1 HN.out rfl ?_; (case b1 => intro q hq; simp at hq; rcases hq with rfl | rfl | rfl <;> rfl); intro wb hbx hgx; have HX := Aside0.mk hbx; have HG := Aside0.mk hgx; clear hbx hgx)); replace P1 := Aside0.mk (P1.out.grown_box HN.out (by decide) HG.out); have LB_X1 := BELo.out.2; replace BEL := Aside0.mk (BEL.out.grown HG.out (Nat.le_trans (Nat.le_add_right _ _) LB_X1)); have LL_X1 := Aside0.mk LB_X1; clear LB_X1; have X1 := HX; clear HG HN HX)
  go_at_call 17
  refine (QN.out _).mono ?_
  rintro en3 w3 ⟨rfl, hb⟩
  replace BEL := Aside0.mk (BEL.out.next hb)
  replace X1 := Aside0.mk (blk_below X1.out hb)
  replace P1 := Aside0.mk (P1.out.below hb)
  clear hb
  go_wp2_with fail
  go_at_call 11
  refine (Q2.out _ (tab_below HT.out BEL.out.1)).mono ?_
  rintro en4 w4 ⟨v4, rfl, hr, hb⟩
  replace BEL := Aside0.mk (BEL.out.next hb)
  replace X1 := Aside0.mk (blk_below X1.out hb)
  replace P1 := Aside0.mk (P1.out.below hb)
  have P2 := Aside0.mk hr
  obtain ⟨b4, A4, n4, c4, x4, rfl⟩ := hr.ex
  clear hr hb
  have BELo := BEL
  go_wp2_with (replace BEL := Aside0.mk ((BEL.out.alloc (.cells #[.bool false, .slice none 0 0, .int .i64 0] 27)).less (j := 0) (by omega)); have HN := Aside0.mk (blk_new w4 (.cells #[.bool false, .slice none 0 0, .int .i64 0] 27)); have L_X1 := lt_blk X1.out; replace X1 := Aside0.mk (blk_alloc X1.out (.cells #[.bool false, .slice none 0 0, .int .i64 0] 27)); replace P1 := Aside0.mk (P1.out.below (below_alloc (Below.refl _ _) (.cells #[.bool false, .slice none 0 0, .int .i64 0] 27))); replace P2 := Aside0.mk (P2.out.below (below_alloc (Below.refl _ _) (.cells #[.bool false, .slice none 0 0, .int .i64 0] 27))); ((with_reducible refine gate_store (p := 8) rfl ?_); go_must (refine store_box 27 8 (.tmp 25) rfl rfl rfl (g := w4.heap.size) (e := 27) (.agg #[.bool b4, .slice A4 n4 c4, .int .i64 x4]) ([.bool b4, .slice A4 n4 c4, .int .i64 x4]) rfl rfl rfl info_dyad ?b1 HN.out rfl ?_; (case b1 => intro q hq; simp at hq; rcases hq with rfl | rfl | rfl <;> rfl); intro wb hbx hgx; have HX := Aside0.mk hbx; have HG := Aside0.mk hgx; clear hbx hgx)); replace P1 := Aside0.mk (P1.out.grown_box HN.out (by decide) HG.out); replace P2 := Aside0.mk (P2.out.grown_box HN.out (by decide) HG.out); have LB_X2 := BELo.out.2; replace BEL := Aside0.mk (BEL.out.grown HG.out (Nat.le_trans (Nat.le_add_right _ _) LB_X2)); replace X1 := Aside0.mk (blk_grown X1.out HG.out (Nat.ne_of_lt L_X1)); have NE_X1_X2 := Aside0.mk (Nat.ne_of_lt L_X1); clear L_X1; have LL_X2 := Aside0.mk LB_X2; clear LB_X2; have X2 := HX; clear HG HN HX)
  go_at_call 18
  refine (QO.out _).mono ?_
  rintro en5 w5 ⟨rfl, hb⟩
  replace BEL := Aside0.mk (BEL.out.next hb)
  replace X1 := Aside0.mk (blk_below X1.out hb)
  replace X2 := Aside0.mk (blk_below X2.out hb)
  replace P1 := Aside0.mk (P1.out.below hb)
  replace P2 := Aside0.mk (P2.out.below hb)
  clear hb
  go_wp2_with fail
  go_ret
  exact ⟨rfl, BEL.out.1⟩

theorem mirror_any (f x : Nat) (hf : f < 256) (hx : x < 18446744073709551616) (w : World) (hT : TabAt 0 Lib.deBruijn64tab w) :
    Calls Tryd.prog 6 #[.int .u8 f, .int .u64 (x : Int)] w fun en w' => en = .returned (.bool true) ∧ Below w.heap.size w w' := by
  cases ho : oddF f with
  | true => exact mirror_odd f x hf hx ho w hT
  | false =>
    by_cases he : f = 14 ∨ f = 17 ∨ f = 26
    · exact mirror_even f x hf hx ho he w hT
    · exact mirror_none f x hf hx ho he w hT
end Go.Proofs.YtgpjplelgffocaaDoor

namespace Go.Proofs.YtgpjplelgffocaaDoor.exactMirror
open Go.ChangeShapes Go.WideShapes Go.ChangeAt Go.RowKit Go.WideMaps Go.WideElems
set_option linter.unusedVariables false

theorem own : ownKnob Tryd.prog.godebug = none := by kernel_rfl
theorem gTab : Tryd.prog.globalNamed "math/bits.deBruijn64tab" = some 0 := by kernel_rfl
theorem tTab : (Tryd.prog.globals[0]?).map (·.type) = some 113 := by kernel_rfl
theorem uTab : Tryd.prog.underlying 113 = some (.array 64 5) := by kernel_rfl
theorem laid_list : Rows.laid_math_bits_deBruijn64tab (H := Unit) = .agg (Lib.deBruijn64tab.map (fun n : Nat => .lit (.int .u8 (n : Int)))) := rfl

theorem door_met (os : Os) (args : Array Value) : laidMetH Tryd.prog Rows.exactMirrorRow.laid ((World.doorLaid Tryd.prog 400 os).forCall (fun _ _ => 0) ⟨#[], args, []⟩).memory :=
  laidMetH_of_parts3 (fuel := 8) (laidMet_of_run' 8 (by kernel_rfl) (by kernel_rfl)) (by kernel_rfl) (by kernel_rfl)

set_option maxRecDepth 100000 in
/-- What the condition gives the walk: the table's cells. -/
theorem of_laid {W : World} (h : laidMetH Tryd.prog Rows.exactMirrorRow.laid W) : TabAt 0 Lib.deBruijn64tab W := by
  rw [MakeChecks.laidMetH_plain _ _ _ (by kernel_rfl)] at h
  obtain ⟨ps, ⟨g0, t0, cs0, f0, p0, q0, hg0, ht0, hv0, hd0, _, _⟩, _⟩ := h
  obtain rfl := Option.some.inj (gTab.symm.trans hg0)
  obtain rfl := Option.some.inj (tTab.symm.trans ht0)
  obtain ⟨xs, m1, rfl, hx1, hlen, hn, hel⟩ := DataW.trod_array uTab hd0
  have c1 : Tryd.prog.cellsOf 5 = 1 := by kernel_rfl
  rw [c1] at hel
  simp only [Prod.mk.injEq] at hx1
  have hx2 := laid_list.symm.trans hx1.1
  injection hx2 with hx3
  intro j hj
  have hj64 : j < 64 := hj
  have h1 := hel j hj64
  have hxj : xs[j]? = some xs[j] := List.getElem?_eq_getElem (by omega)
  rw [hxj] at h1
  obtain ⟨k, e1, e2, _⟩ := DataW.trod_int Tryd.underlying5 h1
  have h2 : (Lib.deBruijn64tab.map (fun n : Nat => (DataW.lit (H := Unit) (.int .u8 (n : Int)))))[j]? = some (.lit (.int .u8 k)) := by
    rw [hx3, List.getElem?_map, hxj, Option.map_some, e2]
  obtain ⟨y, hy⟩ : ∃ y, Lib.deBruijn64tab[j]? = some y := ⟨_, List.getElem?_eq_getElem hj⟩
  rw [List.getElem?_map, hy, Option.map_some] at h2
  have h2 : (y : Int) = k := by simpa only [Option.some.injEq, DataW.lit.injEq, Lit.int.injEq, true_and] using h2
  rw [World.var?_cell hg0 hv0 j]
  have h3 : cs0.toList[j]? = some (.int .u8 k) := by
    rw [Nat.mul_one] at e1
    have h4 : (cs0.toList.drop j)[0]? = some (.int .u8 k) := by
      have h5 : ((cs0.toList.drop j).take 1)[0]? = some (.int .u8 k) := by rw [e1]; rfl
      rw [List.getElem?_take_of_lt (by decide)] at h5
      exact h5
    rw [List.getElem?_drop] at h4
    exact h4
  rw [← Array.getElem?_toList, h3, ← h2, List.getD_eq_getElem?_getD, hy]
  rfl

set_option maxRecDepth 100000 in
theorem lifted (os : Os) (started : os.Started) (H : Type) (enc : TypeId × Value → H) :
    ReturnsInHanded {} Tryd.checked os 6 .any (fun w args => (Rows.exactMirrorSpec.pre enc Tryd.prog Tryd.f6 [] false w args ∧ laidMetH Tryd.prog Rows.exactMirrorRow.laid w) ∧ sizedMet enc Tryd.prog Tryd.f6 (OpenSpec.ofChange Rows.exactMirrorSpec) false w args)
      (Rows.exactMirrorSpec.post enc Tryd.prog Tryd.f6 false true false false) := by
  refine returnsInHanded_of_change_and (C := Tryd.checked) (X := fun w _ => laidMetH Tryd.prog Rows.exactMirrorRow.laid w) (fun _ _ _ hh h => h.of_heap hh) own started (by kernel_rfl) Tryd.func6
    (ChangeSpec.witness_shaped (enc := enc) (C := Tryd.checked) (os := os) (X := fun w _ => laidMetH Tryd.prog Rows.exactMirrorRow.laid w) false (World.doorLaid Tryd.prog 400 os) #[.int .u8 0, .int .u64 0] 8 rfl (World.shaped_of_RefB (by kernel_rfl) (by kernel_rfl)) (by kernel_rfl) (by kernel_rfl) (by kernel_rfl) (door_met os _)) ?_
  intro W base args ds gs before hval0 hW _ _ hL _
  have hval : ∀ (j : Nat) t v, Tryd.f6.params[j]? = some t → args[j]? = some v → Value.okWide Tryd.prog W .any base t v := hval0
  have hW' := hW
  obtain ⟨p, q, hA0, hV, rfl, hfz, hnd⟩ := hW
  have hA : DataW.TrodAll enc Tryd.prog W 0 (fun _ => true) true Tryd.f6.params.toList args.toList ds p := hA0
  rw [Tryd.params6] at hA hval
  obtain ⟨v0, vs0, d0, ds0, p0, q0, hargs, rfl, rfl, h0, r0⟩ := trodAll_cons hA
  obtain ⟨v1, vs1, d1, ds1, p1, q1, rfl, rfl, rfl, h1, r1⟩ := trodAll_cons r0
  obtain ⟨rfl, rfl, rfl⟩ := trodAll_nil r1
  obtain rfl : args = #[v0, v1] := by cases args; simp_all
  obtain ⟨rfl, rfl⟩ := trodVars_none hV
  obtain ⟨n0, rfl, rfl, rfl, w0⟩ := open_int Tryd.underlying22 (hval 0 22 v0 rfl rfl) h0
  have hw0 : 0 ≤ n0 ∧ n0 ≤ 255 := by simpa [Lit.wf, IntKind.min, IntKind.max, IntKind.signed, IntKind.bits] using w0
  obtain ⟨a0, rfl⟩ : ∃ a : Nat, n0 = (a : Int) := ⟨n0.toNat, by rw [Int.toNat_of_nonneg hw0.1]⟩
  obtain ⟨n1, rfl, rfl, rfl, w1⟩ := open_int Tryd.underlying23 (hval 1 23 v1 rfl rfl) h1
  have hw1 : 0 ≤ n1 ∧ n1 ≤ 18446744073709551615 := by simpa [Lit.wf, IntKind.min, IntKind.max, IntKind.signed, IntKind.bits] using w1
  obtain ⟨a1, rfl⟩ : ∃ a : Nat, n1 = (a : Int) := ⟨n1.toNat, by rw [Int.toNat_of_nonneg hw1.1]⟩
  clear hA0 hval0
  refine (mirror_any a0 a1 (by omega) (by omega) W (of_laid hL)).mono fun e W' ⟨he, bel⟩ => ?_
  subst he
  exact ⟨_, rfl, _, _, _, [], _, [], hW', trodAll_mk1 (shut_bool Tryd.underlying4 _), (trodAll_cons_mk (shut_int Tryd.underlying22 w0) (trodAll_cons_mk (shut_int Tryd.underlying23 w1) trodAll_mk0)), rfl, bel.frame _, fun h => by cases h⟩

theorem said : Rows.ExactMirrorSaid :=
  OpenClaim.holds_of_wide 6 Tryd.f6 rfl rfl rfl rfl rfl rfl rfl ⟨rfl, rfl, rfl, rfl, rfl⟩ rfl rfl rfl rfl rfl (by kernel_rfl) Tryd.func6 (by kernel_rfl)
    (of_decide_eq_true (by kernel_rfl)) (by unfold Func.isWrapper; first | (rw [if_pos (by decide +kernel)]; kernel_rfl) | (rw [if_neg (by decide +kernel)]; exact ⟨rfl, rfl⟩))
    (fun os started H enc _ => lifted os started H enc)

theorem holds : Rows.ExactMirrorCardSaid :=
  Claim7.holds_tied_plain_at .later [] [.data] true (true, "fe5556957101ca0be7292b19a89a04f9dae970be42226f72eb7fb443e5c22f9f") false
    said (fun _ h => by cases h) (by kernel_rfl) (fun _ h => by cases h) exactMirror_row_tie rfl ⟨rfl, rfl⟩ (by kernel_rfl) rfl
    (fun f fn hf hfn => by
      obtain rfl : f = 6 := Option.some.inj ((show Tryd.prog.funcNamed "ulp/ulplaw23.ExactMirror" = some 6 by kernel_rfl).symm.trans hf) |>.symm
      obtain rfl : fn = Tryd.f6 := (Option.some.inj (Tryd.func6.symm.trans hfn)).symm
      exact ⟨by kernel_rfl, fun j t ht => by
        rw [Tryd.params6] at ht
        have h3 : t = 22 ∨ t = 23 := by
          rcases j with _ | _ | j
          · first | exact (by simpa using ht.symm) | exact .inl (by simpa using ht.symm) | exact .inr (by simpa using ht.symm)
          · first | exact (by simpa using ht.symm) | exact .inl (by simpa using ht.symm) | exact .inr (by simpa using ht.symm)
          · simp at ht
        rcases h3 with rfl | rfl
        · exact (show Tryd.prog.wantsStandIn 22 = false by kernel_rfl)
        · exact (show Tryd.prog.wantsStandIn 23 = false by kernel_rfl)⟩)
    (by kernel_rfl)
end Go.Proofs.YtgpjplelgffocaaDoor.exactMirror
