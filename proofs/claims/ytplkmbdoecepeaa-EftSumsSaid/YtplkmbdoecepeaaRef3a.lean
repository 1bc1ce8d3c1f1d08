/- The document's naturals (ulpref03): the walks of word, Len, Bit, Low, Of, Same. -/
import Derived.Test.YtplkmbdoecepeaaWd
namespace Go.Proofs.Ytplkmbdoecepeaa
open Go.RowKit Go.Proofs.YtplkmbdoecepeaaW.PrintWords Limb
set_option linter.unusedVariables false
set_option linter.unusedSimpArgs false

theorem wrap_i64 {x : Int} (h0 : -9223372036854775808 ≤ x) (h1 : x ≤ 9223372036854775807) : IntKind.i64.wrap x = x := by
  unfold IntKind.wrap; simp [IntKind.bits, IntKind.signed]; omega
theorem wrap_u64 {x : Int} (h0 : 0 ≤ x) (h1 : x ≤ 18446744073709551615) : IntKind.u64.wrap x = x := by
  unfold IntKind.wrap; simp [IntKind.bits, IntKind.signed]; omega
theorem ret_int {k : IntKind} {a b : Int} (h : a = b) : Ending.returned (.int k a) = .returned (.int k b) := by rw [h]
theorem ret_bool {a b : Bool} (h : a = b) : Ending.returned (.bool a) = .returned (.bool b) := by rw [h]

set_option maxHeartbeats 1000000 in
theorem word_any (l : List Nat) (A : Option Addr) (c i : Nat) (j : Int) (hj : j = (i : Int)) (w : World) (hr : kU.C w A l.length l) (hc : l.length ≤ c) (hm : l.length ≤ 9223372036854775807) :
    Calls Try.prog 61 #[.slice A l.length c, .int .i64 j] w fun e w' => e = .returned (.int .u64 (wd l i : Int)) ∧ ∃ n, w' = w.drewN n := by
  subst hj
  have HR := Aside0.mk hr
  clear hr
  by_cases hi : i < l.length
  · obtain ⟨ad, x, rfl, hx0, hcell⟩ := at_word HR.out rfl i hi
    have HX := Aside0.mk (wd_of hx0)
    clear hx0
    go_enter Try.func61, Try.ntmps61
    go_wp2
    go_ret
    exact ⟨ret_int (by rw [HX.out]), ⟨0, rfl⟩⟩
  · have HX := Aside0.mk (wd_ge (l := l) (i := i) (by omega))
    go_enter Try.func61, Try.ntmps61
    go_wp2
    go_ret
    exact ⟨ret_int (by rw [HX.out]; rfl), ⟨0, rfl⟩⟩

/-- The same, the word under a name. -/
theorem word_is (l : List Nat) (A : Option Addr) (c i x : Nat) (j : Int) (hj : j = (i : Int)) (hx : wd l i = x) (w : World) (hr : kU.C w A l.length l) (hc : l.length ≤ c) (hm : l.length ≤ 9223372036854775807) :
    Calls Try.prog 61 #[.slice A l.length c, .int .i64 j] w fun e w' => e = .returned (.int .u64 (x : Int)) ∧ ∃ n, w' = w.drewN n := by
  rw [← hx]
  exact word_any l A c i j hj w hr hc hm

set_option maxHeartbeats 1000000 in
theorem bit_any (l : List Nat) (A : Option Addr) (c i : Nat) (w : World) (hr : kU.C w A l.length l) (hc : l.length ≤ c) (hw : Wf l) (hm : l.length ≤ 9223372036854775807) (hi : i ≤ 9223372036854775807) :
    Calls Try.prog 60 #[.slice A l.length c, .int .i64 (i : Int)] w fun e w' => e = .returned (.bool (nv l / 2 ^ i % 2 == 1)) ∧ ∃ n, w' = w.drewN n := by
  have HR := Aside0.mk hr
  have HB := Aside0.mk (bit_wd hw i)
  clear hr hw
  have hdv : (i : Int).tdiv 64 = ((i / 64 : Nat) : Int) := by rw [Int.tdiv_eq_ediv_of_nonneg (by omega)]; omega
  have hmd : (i : Int).tmod 64 = ((i % 64 : Nat) : Int) := by rw [Int.tmod_eq_emod_of_nonneg (by omega)]; omega
  go_enter Try.func60, Try.ntmps60
  go_wp2_with (go_at_call 61; go_must (refine (word_any l A c (i / 64) _ ?hj w HR.out hc hm).mono ?_; (case hj => omega); rintro e w' ⟨rfl, n, rfl⟩))
  go_ret
  refine ⟨ret_bool ?_, ⟨n, rfl⟩⟩
  have h := HB.out
  have e1 : ((wd l (i / 64) : Int) / 2 ^ (i % 64)).tmod 2 = ((wd l (i / 64) / 2 ^ (i % 64) % 2 : Nat) : Int) := by
    rw [show ((wd l (i / 64) : Int) / 2 ^ (i % 64)) = ((wd l (i / 64) / 2 ^ (i % 64) : Nat) : Int) by simp]; rfl
  show (((wd l (i / 64) : Int) / 2 ^ (i % 64)).tmod 2 == 1) = (nv l / 2 ^ i % 2 == 1)
  rw [e1, h]
  rw [Bool.eq_iff_iff, beq_iff_eq, beq_iff_eq]
  exact ⟨fun h => Int.ofNat.inj h, fun h => congrArg Int.ofNat h⟩

set_option maxHeartbeats 1000000 in
theorem len_any (l : List Nat) (A : Option Addr) (c : Nat) (w : World) (hr : kU.C w A l.length l) (hc : l.length ≤ c) (hw : Wf l) (hl : l.length ≤ 4294967296) :
    Calls Try.prog 16 #[.slice A l.length c] w fun e w' => e = .returned (.int .i64 (bl (nv l) : Int)) ∧ Below w.heap.size w w' := by
  have HR := Aside0.mk hr
  have HC := Aside0.mk hc
  have HW := Aside0.mk hw
  have HL := Aside0.mk hl
  clear hr hw hc hl
  by_cases h0 : nv l = 0
  · have HZ := Aside0.mk (show limbs (nv l) = [] by rw [h0]; exact limbs_zero)
    have HB0 := Aside0.mk (show bl (nv l) = 0 by rw [h0]; rfl)
    clear h0
    go_enter Try.func16, Try.ntmps16
    go_wp2_with (go_at_call 45; go_must (refine (norm_any l A c w HR.out HC.out HW.out HL.out).mono ?_; rintro e w1 ⟨v, rfl, ho, hb⟩; obtain ⟨A1, c1, rfl, hc1, hC1⟩ := Kd.R_reads ho; rw [HZ.out] at hC1 hc1 ⊢; have HC1 := Aside0.mk hC1; have HBB := Aside0.mk hb; clear ho hb hc1 hC1))
    go_ret
    exact ⟨ret_int (by rw [HB0.out]; rfl), HBB.out⟩
  · have hp : 0 < (limbs (nv l)).length := List.length_pos_iff.2 (fun h => h0 (limbs_eq_nil.1 h))
    have hm := limbs_nv_len HW.out
    obtain ⟨n, hn⟩ : ∃ n, n = (limbs (nv l)).length := ⟨_, rfl⟩
    have HN := Aside0.mk hn
    rw [← hn] at hp hm
    have hn0 : n ≠ 0 := by omega
    have hnl : n ≤ 4294967296 := by have := HL.out; omega
    obtain ⟨T, hT⟩ : ∃ T, T = bl (nv l) := ⟨_, rfl⟩
    have HT := Aside0.mk hT
    rw [← HT.out]
    clear hn hm h0 hT
    go_enter Try.func16, Try.ntmps16
    go_wp2_with (go_at_call 45; go_must (refine (norm_any l A c w HR.out HC.out HW.out HL.out).mono ?_; rintro e w1 ⟨v, rfl, ho, hb⟩; obtain ⟨A1, c1, rfl, hc1, hC1⟩ := Kd.R_reads ho; rw [← HN.out] at hC1 hc1 ⊢; obtain ⟨ad, x, rfl, hx0, hcell⟩ := at_word hC1 HN.out.symm (n - 1) (by omega); have HX := Aside0.mk hx0; have HBB := Aside0.mk hb; have e1 : IntKind.i64.wrap ((n : Int) - 1) = (n : Int) - 1 := wrap_i64 (by omega) (by omega); have e2 : ((n : Int) - 1).toNat = n - 1 := (by omega); have e3 : 0 ≤ (n : Int) - 1 := (by omega); have e4 : (n : Int) - 1 < n := (by omega); clear ho hb hC1 hx0))
    have hlast : (limbs (nv l)).getLast? = some x := by rw [List.getLast?_eq_getElem?, ← HN.out]; exact HX.out
    have hbw := bl_words (wf_limbs (nv l)) hlast (limbs_last _ hlast)
    rw [nv_limbs, ← HN.out, ← HT.out] at hbw
    have hbx : bl x ≤ 64 := bl_le_iff.2 ((wf_limbs (nv l)).get HX.out)
    have hT40 : T ≤ 1099511627776 := by omega
    have HBW := Aside0.mk hbw
    clear hlast hbw hbx
    go_loop [3, 4] (fun v3 v4 => ∃ k y : Nat, v3 = .int .i64 k ∧ v4 = .int .u64 y ∧ y ≤ 18446744073709551615 ∧ Aside0 (k + bl y = T)) (fun _ v4 => (intOf v4).toNat)
    case atStart => exact ⟨64 * (n - 1), x, by rw [show ((64 * (n - 1) : Nat) : Int) = 64 * ((n : Int) - 1) by omega], rfl, by have := (wf_limbs (nv l)).get HX.out; omega, ⟨HBW.out.symm⟩⟩
    case round =>
      obtain ⟨k, y, rfl, rfl, hy64, HK⟩ := hrel
      by_cases hy : y = 0
      · have HE := Aside0.mk (show k = T by have := HK.out; rw [hy] at this; simpa [bl_zero] using this)
        have hd : decide (0 < y) = false := decide_eq_false (by omega)
        have hn2 : y ≤ 0 := by omega
        clear hy
        go_wp2
        go_ret
        exact ⟨ret_int (by rw [← HE.out]), HBB.out⟩
      · have hyp : 0 < y := by omega
        have hkT : k ≤ 1099511627776 := by have := HK.out; omega
        have HE := Aside0.mk (bl_half hyp)
        clear hy
        go_wp2
        go_round
        case rel => exact ⟨k + 1, y / 2, by go_num, by first | rfl | go_num, by omega, ⟨by have := HK.out; have := HE.out; omega⟩⟩
        case measure => simp [intOf]; omega

set_option maxHeartbeats 1000000 in
theorem low_any (l : List Nat) (A : Option Addr) (c : Nat) (w : World) (hr : kU.C w A l.length l) (hc : l.length ≤ c) (hw : Wf l) (hl : l.length ≤ 4294967296) :
    Calls Try.prog 47 #[.slice A l.length c] w fun e w' => e = .returned (.int .i64 (tz (nv l) : Int)) ∧ Below w.heap.size w w' := by
  have HR := Aside0.mk hr
  have HC := Aside0.mk hc
  have HW := Aside0.mk hw
  have HL := Aside0.mk hl
  clear hr hw hc hl
  by_cases h0 : nv l = 0
  · have hz : ((bl (nv l) : Int) == 0) = true := by rw [h0]; rfl
    have HT := Aside0.mk (show tz (nv l) = 0 by rw [h0]; exact tz_zero)
    clear h0
    go_enter Try.func47, Try.ntmps47
    go_wp2_with (go_at_call 16; go_must (refine (len_any l A c w HR.out HC.out HW.out HL.out).mono ?_; rintro e w1 ⟨rfl, hb⟩; have HBB := Aside0.mk hb; clear hb))
    go_ret
    exact ⟨ret_int (by rw [HT.out]; rfl), HBB.out⟩
  · obtain ⟨T, hT⟩ : ∃ T, T = tz (nv l) := ⟨_, rfl⟩
    have hz : ((bl (nv l) : Int) == 0) = false := by rw [bl_pos h0]; simp; omega
    have HS := Aside0.mk (tz_spec _ h0)
    have htb := tz_lt_bl h0
    have hbl : bl (nv l) ≤ 64 * l.length := bl_le_iff.2 (nv_lt HW.out)
    have hTb : T ≤ 1099511627776 := by have := HL.out; omega
    have HT := Aside0.mk hT
    have HM := Aside0.mk (show l.length ≤ 9223372036854775807 by have := HL.out; omega)
    clear h0 hT htb hbl
    rw [← HT.out]
    go_enter Try.func47, Try.ntmps47
    go_wp2_with (go_at_call 16; go_must (refine (len_any l A c w HR.out HC.out HW.out HL.out).mono ?_; rintro e w1 ⟨rfl, hb⟩; have HBB := Aside0.mk hb; clear hb))
    go_loopw [3] (fun v3 wr => ∃ k : Nat, v3 = .int .i64 k ∧ k ≤ T ∧ Aside0 (Below w.heap.size w wr) ∧ Aside0 (∀ j, j < k → nv l / 2 ^ j % 2 = 0)) (fun v3 _ => T - (intOf v3).toNat)
    case atStart => exact ⟨0, rfl, Nat.zero_le _, HBB, ⟨fun j hj => absurd hj (by omega)⟩⟩
    case round =>
      obtain ⟨k, rfl, hk, HB2, HG⟩ := hrel
      cases hb : (nv l / 2 ^ k % 2 == 1)
      · have hkT : k < T := by
          refine Classical.byContradiction fun hc => ?_
          have hkk : k = T := by omega
          rw [hkk, HT.out, beq_eq_false_iff_ne] at hb
          exact hb HS.out.2
        have HZ := Aside0.mk (show nv l / 2 ^ k % 2 = 0 by rw [beq_eq_false_iff_ne] at hb; omega)
        go_wp2_with (go_at_call 60; go_must (refine (bit_any l A c k _ (Kd.C_below HR.out HB2.out) HC.out HW.out HM.out (by omega)).mono ?_; rintro e w' ⟨rfl, n, rfl⟩))
        go_roundw
        case rel => exact ⟨k + 1, by go_num, by omega, ⟨pw_below_drewN HB2.out n⟩, ⟨fun j hj => by
          rcases Nat.lt_succ_iff_lt_or_eq.1 hj with h | rfl
          · exact HG.out j h
          · exact HZ.out⟩⟩
        case measure => simp [intOf]; omega
      · have HE := Aside0.mk (show k = T by rw [HT.out]; exact (tz_of_bits (beq_iff_eq.1 hb) HG.out).symm)
        go_wp2_with (go_at_call 60; go_must (refine (bit_any l A c k _ (Kd.C_below HR.out HB2.out) HC.out HW.out HM.out (by omega)).mono ?_; rintro e w' ⟨rfl, n, rfl⟩))
        go_ret
        exact ⟨ret_int (by rw [← HE.out]), pw_below_drewN HB2.out n⟩
end Go.Proofs.Ytplkmbdoecepeaa
