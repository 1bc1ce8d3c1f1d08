/- bits: Up, Order, Less, Class. -/
import Derived.Test.YtdpoddgnpmefaaaChecked
import Derived.Test.YtdpoddgnpmefaaaWWords
import Derived.Laws.BitsAllLaws
import Derived.RowKit
namespace Go.Proofs.Ytdpoddgnpmefaaa
open Go.RowKit Go.Proofs.YtdpoddgnpmefaaaW.PrintWords
set_option linter.unusedVariables false
set_option linter.unusedSimpArgs false

theorem andNot_top (x : Nat) (hx : x < 18446744073709551616) : bits .andNot .u64 (x : Int) 9223372036854775808 = ((x % 9223372036854775808 : Nat) : Int) := by
  have h := u64_andNot_nat x 9223372036854775808 hx (by decide)
  have e : x &&& (18446744073709551615 - 9223372036854775808) = x % 9223372036854775808 := Nat.and_two_pow_sub_one_eq_mod x 63
  rw [e] at h
  exact h
theorem and_pow (x : Nat) : x &&& 9223372036854775808 = (x / 9223372036854775808 % 2) * 9223372036854775808 := by
  apply Nat.eq_of_testBit_eq
  intro i
  rw [Nat.testBit_and, show (9223372036854775808 : Nat) = 2 ^ 63 from rfl, Nat.testBit_two_pow, Nat.testBit_mul_two_pow]
  by_cases hi : 63 = i
  · subst hi; simp [Nat.testBit, Nat.shiftRight_eq_div_pow]
  · by_cases h2 : 63 ≤ i
    · have : Nat.testBit (x / 2 ^ 63 % 2) (i - 63) = false := by
        apply Nat.testBit_lt_two_pow
        have : 2 ^ 1 ≤ 2 ^ (i - 63) := Nat.pow_le_pow_right (by decide) (by omega)
        omega
      simp [hi, this]
    · simp [hi, h2]
theorem and_top (x : Nat) (hx : x < 18446744073709551616) : bits .and .u64 (x : Int) 9223372036854775808 = if x < 9223372036854775808 then 0 else 9223372036854775808 := by
  have h := u64_and_nat x 9223372036854775808 hx (by decide)
  rw [and_pow] at h
  refine h.trans ?_
  split
  · rw [show x / 9223372036854775808 % 2 = 0 by omega]; rfl
  · rw [show x / 9223372036854775808 % 2 = 1 by omega]; rfl
theorem or_top (x : Nat) (hx : x < 9223372036854775808) : bits .or .u64 (x : Int) 9223372036854775808 = ((x + 9223372036854775808 : Nat) : Int) := by
  have h := u64_or_nat x 9223372036854775808 (by omega) (by decide)
  have e := Nat.two_pow_add_eq_or_of_lt (i := 63) hx 1
  rw [Nat.or_comm, show (9223372036854775808 : Nat) = 2 ^ 63 * 1 from rfl, ← e, Nat.add_comm] at h
  exact h

theorem amount_any (x : Nat) (hx : x < 18446744073709551616) (w : World) :
    Calls Try.prog 27 #[.int .u64 (x : Int)] w fun e w' => e = .returned (.int .u64 ((x % 9223372036854775808 : Nat) : Int)) ∧ ∃ n, w' = w.drewN n := by
  have h := andNot_top x hx
  obtain ⟨y, hy⟩ : ∃ y, y = x % 9223372036854775808 := ⟨_, rfl⟩
  rw [← hy] at h ⊢
  clear hy
  go_enter Try.func27, Try.ntmps27
  go_wp2
  go_ret
  exact ⟨rfl, ⟨0, rfl⟩⟩

def numB (x : Nat) : Bool := decide (x % 9223372036854775808 ≤ 9218868437227405312)
theorem number_any (x : Nat) (hx : x < 18446744073709551616) (w : World) :
    Calls Try.prog 26 #[.int .u64 (x : Int)] w fun e w' => e = .returned (.bool (numB x)) ∧ ∃ n, w' = w.drewN n := by
  have h : decide (((x % 9223372036854775808 : Nat) : Int) ≤ 9218868437227405312) = numB x := by unfold numB; rw [decide_eq_decide]; omega
  obtain ⟨y, hy⟩ : ∃ y, y = x % 9223372036854775808 := ⟨_, rfl⟩
  have Q := Aside0.mk (fun (m : World) => amount_any x hx m)
  rw [← hy] at h Q
  clear hy
  go_enter Try.func26, Try.ntmps26
  go_wp2_with (go_at_call 27; refine (Q.out _).mono ?_; rintro e w' ⟨rfl, n, rfl⟩)
  go_ret
  exact ⟨by rw [← h]; rfl, ⟨_, rfl⟩⟩

def upN (x : Nat) : Nat := if numB x = false ∨ x = 9218868437227405312 then x else if x % 9223372036854775808 = 0 then 1 else if x < 9223372036854775808 then x + 1 else x - 1
theorem upN_lt {x : Nat} (hx : x < 18446744073709551616) : upN x < 18446744073709551616 := by
  unfold upN
  split
  · exact hx
  · split
    · omega
    · split <;> omega
set_option maxHeartbeats 1000000 in
theorem up_any (x : Nat) (hx : x < 18446744073709551616) (w : World) :
    Calls Try.prog 12 #[.int .u64 (x : Int)] w fun e w' => e = .returned (.int .u64 (upN x : Int)) ∧ ∃ n, w' = w.drewN n := by
  have Q := Aside0.mk (fun (m : World) => amount_any x hx m)
  have QN := Aside0.mk (fun (m : World) => number_any x hx m)
  have h := and_top x hx
  obtain ⟨y, hy⟩ : ∃ y, y = x % 9223372036854775808 := ⟨_, rfl⟩
  have HY := Aside0.mk hy
  rw [← hy] at Q
  clear hy
  cases hn : numB x
  · have HU := Aside0.mk (show upN x = x by unfold upN; rw [if_pos (.inl hn)])
    have HN := Aside0.mk hn
    rw [hn] at QN
    clear hn h
    go_enter Try.func12, Try.ntmps12
    go_wp2_with (go_at_call 26; refine (QN.out _).mono ?_; rintro e w' ⟨rfl, n, rfl⟩)
    go_ret
    exact ⟨by rw [HU.out]; rfl, ⟨_, rfl⟩⟩
  · rw [hn] at QN
    by_cases hi : x = 9218868437227405312
    · subst hi
      have HU := Aside0.mk (show upN 9218868437227405312 = 9218868437227405312 by unfold upN; rw [if_pos (.inr rfl)])
      clear hn h
      go_enter Try.func12, Try.ntmps12
      go_wp2_with (go_at_call 26; refine (QN.out _).mono ?_; rintro e w' ⟨rfl, n, rfl⟩)
      go_ret
      exact ⟨by rw [HU.out]; rfl, ⟨_, rfl⟩⟩
    · have hi' : ((x : Int) == 9218868437227405312) = false := by simp; omega
      by_cases h0 : y = 0
      · subst h0
        have HU := Aside0.mk (show upN x = 1 by unfold upN; rw [if_neg (by rw [hn]; simp [hi]), if_pos HY.out.symm])
        clear hn h hi
        go_enter Try.func12, Try.ntmps12
        go_wp2_with (first | (go_at_call 26; refine (QN.out _).mono ?_; rintro e w' ⟨rfl, n, rfl⟩) | (go_at_call 27; refine (Q.out _).mono ?_; rintro e w' ⟨rfl, n2, rfl⟩))
        go_ret
        exact ⟨by rw [HU.out]; rfl, ⟨_, rfl⟩⟩
      · have hy0 : ((y : Int) == 0) = false := by simp; omega
        by_cases hs : x < 9223372036854775808
        · rw [if_pos hs] at h
          have HU := Aside0.mk (show upN x = x + 1 by unfold upN; rw [if_neg (by rw [hn]; simp [hi]), if_neg (by rw [← HY.out]; exact h0), if_pos hs])
          have hw : IntKind.u64.wrap ((x : Int) + 1) = ((x + 1 : Nat) : Int) := by simp [IntKind.wrap, IntKind.signed, IntKind.bits]; omega
          clear hn hi h0
          go_enter Try.func12, Try.ntmps12
          go_wp2_with (first | (go_at_call 26; refine (QN.out _).mono ?_; rintro e w' ⟨rfl, n, rfl⟩) | (go_at_call 27; refine (Q.out _).mono ?_; rintro e w' ⟨rfl, n2, rfl⟩))
          go_ret
          exact ⟨by rw [HU.out]; first | rfl | (rw [← hw]; rfl), ⟨_, rfl⟩⟩
        · rw [if_neg hs] at h
          have HU := Aside0.mk (show upN x = x - 1 by unfold upN; rw [if_neg (by rw [hn]; simp [hi]), if_neg (by rw [← HY.out]; exact h0), if_neg hs])
          have hw : IntKind.u64.wrap ((x : Int) - 1) = ((x - 1 : Nat) : Int) := by simp [IntKind.wrap, IntKind.signed, IntKind.bits]; omega
          clear hn hi h0
          go_enter Try.func12, Try.ntmps12
          go_wp2_with (first | (go_at_call 26; refine (QN.out _).mono ?_; rintro e w' ⟨rfl, n, rfl⟩) | (go_at_call 27; refine (Q.out _).mono ?_; rintro e w' ⟨rfl, n2, rfl⟩))
          go_ret
          exact ⟨by rw [HU.out]; first | rfl | (rw [← hw]; rfl), ⟨_, rfl⟩⟩

theorem not_word (x : Nat) (hx : x < 18446744073709551616) : bits .xor .u64 IntKind.u64.max (x : Int) = 18446744073709551615 - (x : Int) := by
  have h := u64_xor_nat 18446744073709551615 x (by decide) hx
  have e : (18446744073709551615 ^^^ x) = 18446744073709551615 - x := by
    apply Nat.eq_of_testBit_eq
    intro i
    rw [show (18446744073709551615 : Nat) - x = 2 ^ 64 - (x + 1) by omega, Nat.testBit_two_pow_sub_succ (show x < 2 ^ 64 from hx), Nat.testBit_xor, show (18446744073709551615 : Nat) = 2 ^ 64 - 1 from rfl, Nat.testBit_two_pow_sub_one]
    by_cases hi : i < 64
    · simp [hi]
    · have : x.testBit i = false := Nat.testBit_lt_two_pow (Nat.lt_of_lt_of_le (show x < 2 ^ 64 from hx) (Nat.pow_le_pow_right (show 0 < 2 by decide) (show 64 ≤ i by omega)))
      simp [hi, this]
  rw [e] at h
  refine h.trans ?_
  omega
def turnN (x : Nat) : Nat := if x < 9223372036854775808 then x + 9223372036854775808 else 18446744073709551615 - x
set_option maxHeartbeats 1000000 in
theorem turned_any (x : Nat) (hx : x < 18446744073709551616) (w : World) :
    Calls Try.prog 28 #[.int .u64 (x : Int)] w fun e w' => e = .returned (.int .u64 (turnN x : Int)) ∧ ∃ n, w' = w.drewN n := by
  have h := and_top x hx
  by_cases hs : x < 9223372036854775808
  · rw [if_pos hs] at h
    have ho := or_top x hs
    have HU := Aside0.mk (show turnN x = x + 9223372036854775808 by unfold turnN; rw [if_pos hs])
    obtain ⟨y, hy⟩ : ∃ y, y = x + 9223372036854775808 := ⟨_, rfl⟩
    rw [← hy] at ho HU
    clear hy
    go_enter Try.func28, Try.ntmps28
    go_wp2
    go_ret
    exact ⟨by rw [HU.out]; rfl, ⟨0, rfl⟩⟩
  · rw [if_neg hs] at h
    have HU := Aside0.mk (show (turnN x : Int) = 18446744073709551615 - (x : Int) by unfold turnN; rw [if_neg hs]; omega)
    go_enter Try.func28, Try.ntmps28
    go_wp2
    go_ret
    exact ⟨by rw [HU.out, ← not_word x hx]; rfl, ⟨0, rfl⟩⟩

def ordN (x y : Nat) : Int := if turnN x < turnN y then -1 else if turnN y < turnN x then 1 else 0
set_option maxHeartbeats 1000000 in
theorem order_any (x y : Nat) (hx : x < 18446744073709551616) (hy : y < 18446744073709551616) (w : World) :
    Calls Try.prog 13 #[.int .u64 (x : Int), .int .u64 (y : Int)] w fun e w' => e = .returned (.int .i64 (ordN x y)) ∧ ∃ n, w' = w.drewN n := by
  have QX := Aside0.mk (fun (m : World) => turned_any x hx m)
  have QY := Aside0.mk (fun (m : World) => turned_any y hy m)
  have HO := Aside0.mk (show ordN x y = if turnN x < turnN y then -1 else if turnN y < turnN x then 1 else 0 from rfl)
  obtain ⟨o, ho⟩ : ∃ o, o = ordN x y := ⟨_, rfl⟩
  obtain ⟨tx, htx⟩ : ∃ o, o = turnN x := ⟨_, rfl⟩
  obtain ⟨ty, hty⟩ : ∃ o, o = turnN y := ⟨_, rfl⟩
  rw [← ho, ← htx, ← hty] at HO
  rw [← htx] at QX
  rw [← hty] at QY
  rw [← ho]
  clear ho htx hty
  rcases Nat.lt_trichotomy tx ty with h | h | h
  · have h1 : (tx : Int) < (ty : Int) := by omega
    have HV := Aside0.mk (show o = -1 by rw [HO.out, if_pos h])
    go_enter Try.func13, Try.ntmps13
    go_wp2_with (go_at_call 28; first
      | (with_reducible refine (QX.out _).mono ?_; rintro e w' ⟨rfl, n, rfl⟩)
      | (with_reducible refine (QY.out _).mono ?_; rintro e w' ⟨rfl, n2, rfl⟩))
    go_ret
    exact ⟨by rw [HV.out]; rfl, ⟨_, rfl⟩⟩
  · have HV := Aside0.mk (show o = 0 by rw [HO.out, if_neg (by omega), if_neg (by omega)])
    subst h
    go_enter Try.func13, Try.ntmps13
    go_wp2_with (go_at_call 28; first
      | (with_reducible refine (QX.out _).mono ?_; rintro e w' ⟨rfl, n, rfl⟩)
      | (with_reducible refine (QY.out _).mono ?_; rintro e w' ⟨rfl, n2, rfl⟩))
    go_ret
    exact ⟨by rw [HV.out]; rfl, ⟨_, rfl⟩⟩
  · have h1 : ¬ (tx : Int) < (ty : Int) := by omega
    have h2 : (ty : Int) < (tx : Int) := by omega
    have HV := Aside0.mk (show o = 1 by rw [HO.out, if_neg (by omega), if_pos h])
    go_enter Try.func13, Try.ntmps13
    go_wp2_with (go_at_call 28; first
      | (with_reducible refine (QX.out _).mono ?_; rintro e w' ⟨rfl, n, rfl⟩)
      | (with_reducible refine (QY.out _).mono ?_; rintro e w' ⟨rfl, n2, rfl⟩))
    go_ret
    exact ⟨by rw [HV.out]; rfl, ⟨_, rfl⟩⟩

def placeN (x : Nat) : Int := if x < 9223372036854775808 then (x : Int) else -((x % 9223372036854775808 : Nat) : Int)
set_option maxHeartbeats 1000000 in
theorem place_any (x : Nat) (hx : x < 18446744073709551616) (w : World) :
    Calls Try.prog 30 #[.int .u64 (x : Int)] w fun e w' => e = .returned (.int .i64 (placeN x)) ∧ ∃ n, w' = w.drewN n := by
  have h := and_top x hx
  have Q := Aside0.mk (fun (m : World) => amount_any x hx m)
  by_cases hs : x < 9223372036854775808
  · rw [if_pos hs] at h
    have HU := Aside0.mk (show placeN x = (x : Int) by unfold placeN; rw [if_pos hs])
    have hw : wrap64 (x : Int) = (x : Int) := by unfold wrap64; omega
    go_enter Try.func30, Try.ntmps30
    go_wp2
    go_ret
    exact ⟨by rw [HU.out]; rfl, ⟨0, rfl⟩⟩
  · rw [if_neg hs] at h
    have HU := Aside0.mk (show placeN x = -((x % 9223372036854775808 : Nat) : Int) by unfold placeN; rw [if_neg hs])
    have hy0 : x % 9223372036854775808 < 9223372036854775808 := by omega
    obtain ⟨y, hy⟩ : ∃ y, y = x % 9223372036854775808 := ⟨_, rfl⟩
    rw [← hy] at Q HU hy0
    have hw : wrap64 (y : Int) = (y : Int) := by unfold wrap64; omega
    have hw2 : wrap64 (-(y : Int)) = -(y : Int) := by unfold wrap64; omega
    clear hy
    go_enter Try.func30, Try.ntmps30
    go_wp2_with (go_at_call 27; refine (Q.out _).mono ?_; rintro e w' ⟨rfl, n, rfl⟩)
    go_ret
    exact ⟨by rw [HU.out]; rfl, ⟨_, rfl⟩⟩

def lessB (x y : Nat) : Bool := numB x && (numB y && decide (placeN x < placeN y))
set_option maxHeartbeats 1000000 in
theorem less_any (x y : Nat) (hx : x < 18446744073709551616) (hy : y < 18446744073709551616) (w : World) :
    Calls Try.prog 15 #[.int .u64 (x : Int), .int .u64 (y : Int)] w fun e w' => e = .returned (.bool (lessB x y)) ∧ ∃ n, w' = w.drewN n := by
  have PX := Aside0.mk (fun (m : World) => place_any x hx m)
  have PY := Aside0.mk (fun (m : World) => place_any y hy m)
  have NX := Aside0.mk (fun (m : World) => number_any x hx m)
  have NY := Aside0.mk (fun (m : World) => number_any y hy m)
  have HL := Aside0.mk (show lessB x y = (numB x && (numB y && decide (placeN x < placeN y))) from rfl)
  obtain ⟨nx, hnx⟩ : ∃ o, o = numB x := ⟨_, rfl⟩
  obtain ⟨ny, hny⟩ : ∃ o, o = numB y := ⟨_, rfl⟩
  obtain ⟨px, hpx⟩ : ∃ o, o = placeN x := ⟨_, rfl⟩
  obtain ⟨py, hpy⟩ : ∃ o, o = placeN y := ⟨_, rfl⟩
  obtain ⟨o, ho⟩ : ∃ o, o = lessB x y := ⟨_, rfl⟩
  rw [← hnx, ← hny, ← hpx, ← hpy, ← ho] at HL
  rw [← hnx] at NX
  rw [← hny] at NY
  rw [← hpx] at PX
  rw [← hpy] at PY
  rw [← ho]
  clear hnx hny hpx hpy ho
  cases nx <;> cases ny
  all_goals
    have HV := HL.out
    simp only [Bool.false_and, Bool.true_and] at HV
    have HV2 := Aside0.mk HV
    clear HV HL
    go_enter Try.func15, Try.ntmps15
    go_wp2_with (first
      | (go_at_call 26; first
        | (with_reducible refine (NX.out _).mono ?_; rintro e w' ⟨rfl, n, rfl⟩)
        | (with_reducible refine (NY.out _).mono ?_; rintro e w' ⟨rfl, n2, rfl⟩))
      | (go_at_call 30; first
        | (with_reducible refine (PX.out _).mono ?_; rintro e w' ⟨rfl, n3, rfl⟩)
        | (with_reducible refine (PY.out _).mono ?_; rintro e w' ⟨rfl, n4, rfl⟩)))
    go_ret
    exact ⟨by rw [HV2.out]; rfl, ⟨_, rfl⟩⟩

/-- A number's next one: not below it. -/
theorem up_order {x : Nat} (hx : x < 18446744073709551616) : ¬ 0 < ordN x (upN x) ∧ lessB (upN x) x = false := by
  by_cases he : upN x = x
  · rw [he]
    refine ⟨by unfold ordN; simp, ?_⟩
    unfold lessB
    simp
  · have key : turnN x < turnN (upN x) ∧ placeN x < placeN (upN x) := by
      by_cases c1 : numB x = false ∨ x = 9218868437227405312
      · exact absurd (by unfold upN; rw [if_pos c1]) he
      · have h3 : numB x = true := by
          cases hn : numB x
          · exact absurd (Or.inl hn) c1
          · rfl
        unfold numB at h3
        have h4 := of_decide_eq_true h3
        by_cases c2 : x % 9223372036854775808 = 0
        · have e : upN x = 1 := by unfold upN; rw [if_neg c1, if_pos c2]
          rw [e]
          have : x = 0 ∨ x = 9223372036854775808 := by omega
          rcases this with rfl | rfl <;> decide
        · by_cases c3 : x < 9223372036854775808
          · have e : upN x = x + 1 := by unfold upN; rw [if_neg c1, if_neg c2, if_pos c3]
            rw [e]
            unfold turnN placeN
            rw [if_pos c3, if_pos (by omega), if_pos c3, if_pos (by omega)]
            constructor <;> omega
          · have e : upN x = x - 1 := by unfold upN; rw [if_neg c1, if_neg c2, if_neg c3]
            rw [e]
            unfold turnN placeN
            rw [if_neg c3, if_neg (by omega), if_neg c3, if_neg (by omega)]
            constructor <;> omega
    refine ⟨by unfold ordN; rw [if_pos key.1]; decide, ?_⟩
    unfold lessB
    rw [decide_eq_false (show ¬ placeN (upN x) < placeN x by omega)]
    simp

/-- A result that is one cell's struct or array. -/
theorem results_big {P : Program} {fn : Func} {p : Tmp} {t : TypeId} {n : Nat} (hany : (P.underlying t).any (fun d => match d with | .struct _ | .array _ _ => true | _ => false) = true) (hi : (P.info? t).map (·.size) = some n) (h : fn.results = #[.cell p t]) (tmps : Array Value) (w : World) (g : Nat) (cs : Array Value) (hp : tmps.getD p undef = .pointer (some ⟨g, 0, none⟩)) (hg : w.heap[g]? = some (.cells cs t (0, 0))) (hs : cs.size = n) :
    (results fn tmps).run P w = .ok (.agg cs) w := by
  obtain ⟨d, hu, hd⟩ : ∃ d, P.underlying t = some d ∧ (match d with | .struct _ | .array _ _ => true | _ => false) = true := by
    cases hd : P.underlying t with
    | none => rw [hd] at hany; cases hany
    | some d => rw [hd] at hany; exact ⟨d, rfl, hany⟩
  refine results_single h (.cell g _ cs (0, 0) d hp hg hu ?_ (by rw [hs]; exact hi) .nil)
  revert hu hd
  cases d <;> intro hu hd <;> first | rfl | cases hd
set_option maxHeartbeats 2000000 in
theorem split_inf (w : World) :
    Calls Try.prog 29 #[.int .u64 9218868437227405312] w fun e w' => e = .returned (.agg #[.bool false, .int .i64 2047, .int .u64 0]) ∧ Below w.heap.size w w' := by
  have h1 : bits .and .u64 9218868437227405312 9223372036854775808 = 0 := by decide
  have h2 : bits .and .u64 2047 2047 = 2047 := by decide
  have h3 : bits .and .u64 9218868437227405312 4503599627370495 = 0 := by decide
  go_enter Try.func29, Try.ntmps29
  go_wp2
  exact bodyPost_ret (results_big (by kernel_rfl) (by kernel_rfl) rfl _ _ w.heap.size _ rfl (blk_new _ _) rfl) rfl ⟨rfl, below_alloc (Below.refl _ _) _⟩
set_option maxHeartbeats 2000000 in
theorem class_inf (w : World) :
    Calls Try.prog 14 #[.int .u64 9218868437227405312] w fun e w' => e = .returned (.int .u8 4) ∧ Below w.heap.size w w' := by
  go_enter Try.func14, Try.ntmps14
  go_wp2_with (go_at_call 29; refine (split_inf _).mono ?_; rintro e w1 ⟨rfl, hb⟩; have HB := Aside0.mk hb; clear hb)
  go_ret
  exact ⟨rfl, by first | exact below_alloc HB.out _ | exact pw_below_drewN (below_alloc HB.out _) _⟩
end Go.Proofs.Ytdpoddgnpmefaaa
