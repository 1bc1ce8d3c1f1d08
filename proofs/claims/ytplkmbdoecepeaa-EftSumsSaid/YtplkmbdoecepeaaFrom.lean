/- The document's dyadic number of a float (ulpref04.From). -/
import Derived.Test.YtplkmbdoecepeaaRef4c
import Derived.Test.YtplkmbdoecepeaaEftBits
namespace Go.Proofs.Ytplkmbdoecepeaa
open Go.RowKit Go.Proofs.YtplkmbdoecepeaaW.PrintWords Limb Ieee EftPure
set_option linter.unusedVariables false
set_option linter.unusedSimpArgs false

/-- A finite float's fields. -/
theorem isF_fields {x : Nat} {A : Int} (h : IsF x A) (hx : x < 18446744073709551616) :
    x % 9223372036854775808 < 9218868437227405312 ∧ A = sgn (decide (9223372036854775808 ≤ x)) ((if x / 4503599627370496 % 2048 = 0 then x % 4503599627370496 else 4503599627370496 + x % 4503599627370496) * 2 ^ (x / 4503599627370496 % 2048 - 1)) := by
  obtain ⟨s, m, k, hr, hA, hm⟩ := h
  unfold Format.read at hr
  simp only [lp, bn, ir, sw] at hr
  have key : ∀ (b : Bool) (u v : Nat), (b == true) = decide (9223372036854775808 ≤ x) → True := fun _ _ _ _ => trivial
  have hs : ∀ q : Bool, (x / 2 ^ 63 % 2 == 1) = q → q = decide (9223372036854775808 ≤ x) := by
    rintro q rfl
    rw [Bool.eq_iff_iff]; simp; omega
  split at hr
  · rename_i h1
    injection hr with e1 e2 e3
    have hE : x / 4503599627370496 % 2048 = 0 := by omega
    have hk : k = 0 := by omega
    refine ⟨by omega, ?_⟩
    rw [hE, if_pos rfl, hA, ← hs s e1, signed_eq, hk, ← e2]
    have : x % 2 ^ 63 = x % 4503599627370496 := by omega
    rw [this]
    unfold sgn; simp
  · split at hr
    · rename_i h1 h2
      injection hr with e1 e2 e3
      have hE : x / 4503599627370496 % 2048 ≠ 0 := by omega
      have hk : k = x / 4503599627370496 % 2048 - 1 := by omega
      refine ⟨by omega, ?_⟩
      rw [if_neg hE, hA, ← hs s e1, signed_eq, hk, ← e2]
      have : 2 ^ 52 + x % 2 ^ 63 % 2 ^ 52 = 4503599627370496 + x % 4503599627370496 := by omega
      rw [this]
      unfold sgn; rfl
    · split at hr <;> cases hr

theorem tmod_nat (x m : Nat) : (x : Int).tmod (m : Int) = ((x % m : Nat) : Int) := by rw [Int.tmod_eq_emod_of_nonneg (by omega)]; rfl
theorem tdiv_nat (x m : Nat) : (x : Int).tdiv (m : Int) = ((x / m : Nat) : Int) := by rw [Int.tdiv_eq_ediv_of_nonneg (by omega)]; rfl

set_option maxHeartbeats 1000000 in
theorem finite_any (x : Nat) (hx : x % 9223372036854775808 < 9218868437227405312) (w : World) :
    Calls Try.prog 57 #[.int .u64 (x : Int)] w fun e w' => e = .returned (.bool true) ∧ ∃ n, w' = w.drewN n := by
  obtain ⟨r, hr⟩ : ∃ r, r = x % 9223372036854775808 := ⟨_, rfl⟩
  have e1 : (x : Int).tmod 9223372036854775808 = (r : Int) := by rw [hr]; exact tmod_nat x 9223372036854775808
  rw [← hr] at hx
  have hd : decide ((r : Int) < 9218868437227405312) = true := decide_eq_true (by omega)
  clear hr
  go_enter Try.func57, Try.ntmps57
  go_wp2
  go_ret
  exact ⟨ret_bool (by first | with_reducible rfl | exact hd | exact decide_eq_true (by omega)), ⟨0, rfl⟩⟩

theorem info_fields : (Try.prog.info? 71).map (·.size) = some 3 := by kernel_rfl
theorem any_fields : (Try.prog.underlying 71).any (fun d => match d with | .struct _ | .array _ _ => true | _ => false) = true := by kernel_rfl
theorem results_fields {fn : Func} {p : Tmp} (h : fn.results = #[.cell p 71]) (tmps : Array Value) (w : World) (g : Nat) (cs : Array Value) (hp : tmps.getD p undef = .pointer (some ⟨g, 0, none⟩)) (hg : w.heap[g]? = some (.cells cs 71 (0, 0))) (hs : cs.size = 3) :
    (results fn tmps).run Try.prog w = .ok (.agg cs) w := by
  obtain ⟨d, hu, hd⟩ : ∃ d, Try.prog.underlying 71 = some d ∧ (match d with | .struct _ | .array _ _ => true | _ => false) = true := by
    have h := any_fields
    cases hd : Try.prog.underlying 71 with
    | none => rw [hd] at h; cases h
    | some d => rw [hd] at h; exact ⟨d, rfl, h⟩
  refine results_single h (.cell g _ cs (0, 0) d hp hg hu ?_ (by rw [hs]; exact info_fields) .nil)
  revert hu hd
  cases d <;> intro hu hd <;> first | rfl | cases hd

set_option maxHeartbeats 1000000 in
theorem split_any (x : Nat) (hx : x < 18446744073709551616) (w : World) :
    Calls Try.prog 58 #[.int .u64 (x : Int)] w fun e w' => e = .returned (.agg #[.bool (decide (9223372036854775808 ≤ x)), .int .i64 ((x / 4503599627370496 % 2048 : Nat) : Int), .int .u64 ((x % 4503599627370496 : Nat) : Int)]) ∧ Below w.heap.size w w' := by
  obtain ⟨F, hF⟩ : ∃ r, r = x % 4503599627370496 := ⟨_, rfl⟩
  obtain ⟨q, hq⟩ : ∃ r, r = x / 4503599627370496 := ⟨_, rfl⟩
  have e1 : (x : Int).tmod 4503599627370496 = (F : Int) := by rw [hF]; exact tmod_nat x 4503599627370496
  have e2 : (x : Int).tdiv 4503599627370496 = (q : Int) := by rw [hq]; exact tdiv_nat x 4503599627370496
  obtain ⟨E, hE⟩ : ∃ r, r = q % 2048 := ⟨_, rfl⟩
  have e3 : (q : Int).tmod 2048 = (E : Int) := by rw [hE]; exact tmod_nat q 2048
  have hEb : E ≤ 2047 := by omega
  have hqb : q ≤ 4095 := by omega
  obtain ⟨b, hb⟩ : ∃ b, b = decide (9223372036854775808 ≤ x) := ⟨_, rfl⟩
  have hb' : decide ((9223372036854775808 : Int) ≤ (x : Int)) = b := by rw [hb]; congr 1; rw [eq_iff_iff]; omega
  have hb2 : decide (9223372036854775808 ≤ x) = b := hb.symm
  rw [← hF, ← hq, ← hE, ← hb]
  clear hF hq hE hb
  cases b
  all_goals
    go_enter Try.func58, Try.ntmps58
    go_wp2
    refine bodyPost_ret (results_fields rfl _ _ w.heap.size _ rfl (blk_new w _) rfl) rfl ?_
    exact ⟨rfl, below_alloc (Below.refl _ _) _⟩

theorem results_dyad_tmp {fn : Func} {p u : Tmp} (h : fn.results = #[.cell p 30, .tmp u]) (tmps : Array Value) (w : World) (g : Nat) (cs : Array Value) (hp : tmps.getD p undef = .pointer (some ⟨g, 0, none⟩)) (hg : w.heap[g]? = some (.cells cs 30 (0, 0))) (hs : cs.size = 3) :
    (results fn tmps).run Try.prog w = .ok (.tuple #[.agg cs, tmps.getD u undef]) w := by
  obtain ⟨d, hu, hd⟩ := under_dyad
  refine results_ct h tmps w g _ cs (0, 0) d hp hg hu ?_ (by rw [hs]; exact info_dyad)
  revert hu hd
  cases d <;> intro hu hd <;> first | rfl | cases hd

set_option maxHeartbeats 8000000 in
theorem from_any (x : Nat) (a : Int) (h : IsF x a) (hx : x < 18446744073709551616) (w : World) :
    Calls Try.prog 44 #[.int .u64 (x : Int)] w fun e w' => ∃ v, e = .returned (.tuple #[v, .int .i64 0]) ∧ RDy w' w.heap.size v a (-1074) ∧ Below w.heap.size w w' := by
  obtain ⟨hf, ha⟩ := isF_fields h hx
  have QF := Aside0.mk (fun (m : World) => finite_any x hf m)
  have QS := Aside0.mk (fun (m : World) => split_any x hx m)
  obtain ⟨F, hF⟩ : ∃ r, r = x % 4503599627370496 := ⟨_, rfl⟩
  obtain ⟨E, hE⟩ : ∃ r, r = x / 4503599627370496 % 2048 := ⟨_, rfl⟩
  obtain ⟨b, hb⟩ : ∃ b, b = decide (9223372036854775808 ≤ x) := ⟨_, rfl⟩
  have hE1 : E ≤ 2047 := by omega
  have hF1 : F < 4503599627370496 := by omega
  rw [← hF, ← hE, ← hb] at ha QS
  obtain ⟨m, hm⟩ : ∃ m, m = if E = 0 then F else 4503599627370496 + F := ⟨_, rfl⟩
  rw [← hm] at ha
  have hm1 : m < 9007199254740992 := by rw [hm]; split <;> omega
  have HA := Aside0.mk ha
  obtain ⟨k, hk⟩ : ∃ k, k = E - 1 := ⟨_, rfl⟩
  rw [← hk] at HA
  have hk1 : k ≤ 2046 := by omega
  have QO := Aside0.mk (fun (W : World) => of_any m (by omega) W)
  have hlm : (limbs m).length ≤ 1073741824 := by
    have : (limbs m).length ≤ 1 := limbs_len_le (by omega)
    omega
  clear h hf hF hb
  by_cases hE0 : E = 0
  · have hmF : m = F := by rw [hm, if_pos hE0]
    have hk0 : k = 0 := by omega
    subst hmF
    subst hE0
    clear hE hm hk ha
    go_enter Try.func44, Try.ntmps44
    go_wp2_with (first
      | (go_at_call 57; refine (QF.out _).mono ?_; rintro e w' ⟨rfl, n1, rfl⟩)
      | (go_at_call 58; refine (QS.out _).mono ?_; rintro e w2 ⟨rfl, hb⟩; have HB2 := Aside0.mk (below_then (pw_below_drewN (below_alloc (Below.refl w.heap.size w) _) _) (pw_below_drewN (below_alloc (Below.refl w.heap.size w) _) _).size hb); have HH2 := Aside0.mk (blk_below (blk_drewN (blk_new w _) _) hb); clear hb))
    go_region_with (first
      | (go_at_call 59; refine (QO.out _).mono ?_; rintro e w4 ⟨v, rfl, ho, hb⟩; obtain ⟨A1, c1, rfl, hc1, hC1⟩ := Kd.R_reads ho; have HB4 : Aside0 (Below w.heap.size w w4) := ⟨(by first | exact below_then (below_alloc HB2.out _) (below_alloc HB2.out _).size hb | exact below_then (below_drew (below_alloc HB2.out _)) (below_drew (below_alloc HB2.out _)).size hb)⟩; have hh4 : Aside0 (w4.heap[w.heap.size]? = some (.cells #[.bool false, .slice none 0 0, .int .i64 0] 30 (0, 0))) := ⟨(by first | exact blk_below (blk_alloc HH2.out _) hb | exact blk_below (blk_drew (blk_alloc HH2.out _)) hb)⟩; have hf4 : w4.heap[w2.heap.size]? = some (.cells #[.bool b, .int .i64 0, .int .u64 m] 71 (0, 0)) := (by first | exact blk_below (blk_new _ _) hb | exact blk_below (blk_drew (blk_new _ _)) hb); have cf := (box_cell hf4 0 rfl).1; have HC := Aside0.mk hC1; clear hb ho hC1 hf4)
      | (go_at_call 42; refine (form_any b (limbs m) A1 _ c1 (-1074) rfl _ HC.out hc1 (wf_limbs _) hlm (by omega) (by omega)).mono ?_; rintro e w5 ⟨v, rfl, hr, hb⟩; rw [nv_limbs] at hr; obtain ⟨A2, n2, c2, rfl, hr'⟩ := id hr; have HR := Aside0.mk hr'; have HB5 := Aside0.mk (below_then HB4.out HB4.out.size hb); have HH5 := Aside0.mk (blk_below hh4.out hb); obtain ⟨d0, d0'⟩ := box_cell HH5.out 0 rfl; obtain ⟨d1, d1'⟩ := box_cell HH5.out 1 rfl; obtain ⟨d2, d2'⟩ := box_cell HH5.out 2 rfl; have HLT := Aside0.mk (blk_lt hh4.out); clear hb hr hr'))
    all_goals
      go_wp2
      have hbs := box_set HH5.out (a := .bool (cneg (sgn b m))) (b := .slice A2 n2 c2) (c := .int .i64 (cexp (sgn b m) (-1074))) rfl
      refine bodyPost_ret (results_dyad_tmp rfl _ _ w.heap.size _ rfl hbs.1 rfl) rfl ?_
      refine ⟨_, rfl, ?_, HB5.out.grown hbs.2 HB5.out.size (fun k hk => by cases hk; exact Nat.le_refl _)⟩
      rw [HA.out, hk0, Nat.pow_zero, Nat.mul_one]
      exact RDy.lower (RDy.grown ⟨A2, n2, c2, rfl, HR.out⟩ hbs.2 HLT.out) HB4.out.size
  · have hmF : (F : Int) + 4503599627370496 = (m : Int) := by rw [hm, if_neg hE0]; omega
    have hex : (E : Int) - 1075 = (k : Int) - 1074 := by omega
    have hEp : 0 < E := by omega
    clear hE hm hk ha hE0
    go_enter Try.func44, Try.ntmps44
    go_wp2_with (first
      | (go_at_call 57; refine (QF.out _).mono ?_; rintro e w' ⟨rfl, n1, rfl⟩)
      | (go_at_call 58; refine (QS.out _).mono ?_; rintro e w2 ⟨rfl, hb⟩; have HB2 := Aside0.mk (below_then (pw_below_drewN (below_alloc (Below.refl w.heap.size w) _) _) (pw_below_drewN (below_alloc (Below.refl w.heap.size w) _) _).size hb); have HH2 := Aside0.mk (blk_below (blk_drewN (blk_new w _) _) hb); clear hb))
    go_region_with (first
      | (go_at_call 59; refine (QO.out _).mono ?_; rintro e w4 ⟨v, rfl, ho, hb⟩; obtain ⟨A1, c1, rfl, hc1, hC1⟩ := Kd.R_reads ho; have HB4 : Aside0 (Below w.heap.size w w4) := ⟨(by first | exact below_then (below_alloc HB2.out _) (below_alloc HB2.out _).size hb | exact below_then (below_drew (below_alloc HB2.out _)) (below_drew (below_alloc HB2.out _)).size hb)⟩; have hh4 : Aside0 (w4.heap[w.heap.size]? = some (.cells #[.bool false, .slice none 0 0, .int .i64 0] 30 (0, 0))) := ⟨(by first | exact blk_below (blk_alloc HH2.out _) hb | exact blk_below (blk_drew (blk_alloc HH2.out _)) hb)⟩; have hf4 : w4.heap[w2.heap.size]? = some (.cells #[.bool b, .int .i64 (E : Int), .int .u64 (F : Int)] 71 (0, 0)) := (by first | exact blk_below (blk_new _ _) hb | exact blk_below (blk_drew (blk_new _ _)) hb); have cf := (box_cell hf4 0 rfl).1; have HC := Aside0.mk hC1; clear hb ho hC1 hf4)
      | (go_at_call 42; refine (form_any b (limbs m) A1 _ c1 ((k : Int) - 1074) rfl _ HC.out hc1 (wf_limbs _) hlm (by omega) (by omega)).mono ?_; rintro e w5 ⟨v, rfl, hr, hb⟩; rw [nv_limbs] at hr; obtain ⟨A2, n2, c2, rfl, hr'⟩ := id hr; have HR := Aside0.mk hr'; have HB5 := Aside0.mk (below_then HB4.out HB4.out.size hb); have HH5 := Aside0.mk (blk_below hh4.out hb); obtain ⟨d0, d0'⟩ := box_cell HH5.out 0 rfl; obtain ⟨d1, d1'⟩ := box_cell HH5.out 1 rfl; obtain ⟨d2, d2'⟩ := box_cell HH5.out 2 rfl; have HLT := Aside0.mk (blk_lt hh4.out); clear hb hr hr'))
    all_goals
      go_wp2
      have hbs := box_set HH5.out (a := .bool (cneg (sgn b m))) (b := .slice A2 n2 c2) (c := .int .i64 (cexp (sgn b m) ((k : Int) - 1074))) rfl
      refine bodyPost_ret (results_dyad_tmp rfl _ _ w.heap.size _ rfl hbs.1 rfl) rfl ?_
      refine ⟨_, rfl, ?_, HB5.out.grown hbs.2 HB5.out.size (fun k hk => by cases hk; exact Nat.le_refl _)⟩
      rw [HA.out, sgn_pow]
      refine RDy.scale k ?_
      rw [show (-1074 : Int) + k = (k : Int) - 1074 by omega]
      exact RDy.lower (RDy.grown ⟨A2, n2, c2, rfl, HR.out⟩ hbs.2 HLT.out) HB4.out.size
end Go.Proofs.Ytplkmbdoecepeaa
