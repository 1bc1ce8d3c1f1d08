/- The document's naturals (ulpref03): the walk of Shr. -/
import Derived.Test.YtplkmbdoecepeaaRef3a
import Derived.Laws.Bits64b
namespace Go.Proofs.Ytplkmbdoecepeaa
open Go.RowKit Go.Proofs.YtplkmbdoecepeaaW.PrintWords Limb
set_option linter.unusedVariables false
set_option linter.unusedSimpArgs false

theorem at_word_some {w : World} {ad : Addr} {n : Nat} {xs : List Nat} (h : kU.C w (some ad) n xs) (hn : xs.length = n) (i : Nat) (hi : i < n) : w.cell? (ad.add i) = some (.int .u64 ((wd xs i : Nat) : Int)) := by
  obtain ⟨ad', x, e, hx, hc⟩ := at_word h hn i hi
  cases e
  rw [wd_of hx]; exact hc

set_option maxHeartbeats 2000000 in
theorem shr_any (a : List Nat) (A : Option Addr) (na c n : Nat) (hna : a.length = na) (w : World) (ha : kU.C w A na a) (hc : na ≤ c) (wa : Wf a) (la : na ≤ 1073741824) (ln : n ≤ 1099511627776) :
    Calls Try.prog 55 #[.slice A na c, .int .i64 (n : Int)] w fun e w' => ∃ v, e = .returned (.tuple #[v, .bool (nv a % 2 ^ n != 0)]) ∧ kU.R 48 w' w.heap.size (fun _ => True) v (limbs (nv a / 2 ^ n)) ∧ Below w.heap.size w w' := by
  have HA := Aside0.mk ha
  have WA := Aside0.mk wa
  have HNA := Aside0.mk hna
  by_cases hbig : 64 * na ≤ n
  · have hlt : nv a < 2 ^ n := Nat.lt_of_lt_of_le (nv_lt wa) (Nat.pow_le_pow_right (by decide) (by omega))
    have HZ := Aside0.mk (show limbs (nv a / 2 ^ n) = [] by rw [Nat.div_eq_of_lt hlt, limbs_zero])
    have HL := Aside0.mk (show (nv a % 2 ^ n != 0) = decide (0 < bl (nv a)) by
      rw [Nat.mod_eq_of_lt hlt]
      by_cases h : nv a = 0
      · rw [h]; rfl
      · rw [bl_pos h]; simp [h])
    have QL := Aside0.mk (len_any a A c w (by rw [hna]; exact ha) (by omega) wa (by omega))
    rw [hna] at QL
    clear ha wa hna hlt
    go_enter Try.func55, Try.ntmps55
    go_wp2_with (go_at_call 16; go_must (refine QL.out.mono ?_; rintro e w1 ⟨rfl, hb⟩; have HBB := Aside0.mk hb; clear hb))
    go_ret2
    refine ⟨_, ?_, by rw [HZ.out]; exact Kd.R_nil _ _ _ _ _, HBB.out⟩
    rw [HL.out]
    first | rfl | (congr 3; simp)
  · obtain ⟨q, hq⟩ : ∃ q, q = n / 64 := ⟨_, rfl⟩
    obtain ⟨k, hk⟩ : ∃ k, k = n % 64 := ⟨_, rfl⟩
    have hdv : (n : Int).tdiv 64 = (q : Int) := by rw [Int.tdiv_eq_ediv_of_nonneg (by omega)]; omega
    have hmd : (n : Int).tmod 64 = (k : Int) := by rw [Int.tmod_eq_emod_of_nonneg (by omega)]; omega
    have hk63 : k ≤ 63 := by omega
    have hqn : q < na := by omega
    have HNK := Aside0.mk (show n = 64 * q + k by omega)
    obtain ⟨ad, x0, hAe, hx0, hc0⟩ := at_word ha hna q hqn
    subst hAe
    have hsl := run_to na (some ad) c q hc (by omega)
    clear ha wa hna hq hk hx0 hc0
    go_enter Try.func55, Try.ntmps55
    go_wp2
    go_loopw [6, 26] (fun v6 v26 wr => ∃ (i : Nat) (lo : Bool), v6 = .bool lo ∧ v26 = .int .i64 i ∧ i ≤ q ∧ Aside0 (Below w.heap.size w wr) ∧ Aside0 (lo = (nv (a.take i) != 0))) (fun _ v26 _ => q - (intOf v26).toNat)
    case atStart => exact ⟨0, false, rfl, rfl, Nat.zero_le _, ⟨Below.refl _ _⟩, ⟨by simp [nv]⟩⟩
    case round =>
      obtain ⟨i, lo, rfl, rfl, hi, HBB, HLO⟩ := hrel
      by_cases hlt : i < q
      · have hcell := at_word_some (Kd.C_below HA.out HBB.out) HNA.out i (by omega)
        obtain ⟨x, hx⟩ : ∃ x, x = wd a i := ⟨_, rfl⟩
        rw [← hx] at hcell
        have HX := Aside0.mk hx
        have hne : ((x : Int) != 0) = (x != 0) := by rw [Bool.eq_iff_iff]; simp
        clear hx
        have HLO2 : Aside0 ((lo || (x != 0)) = (nv (a.take (i + 1)) != 0)) := ⟨by
          rw [nv_take_succ, HLO.out, ← HX.out]
          have hp := Nat.two_pow_pos (64 * i)
          generalize 2 ^ (64 * i) = p at *
          generalize nv (a.take i) = m
          rw [Bool.eq_iff_iff]
          simp only [Bool.or_eq_true, bne_iff_ne, ne_eq, Nat.add_eq_zero_iff, Nat.mul_eq_zero]
          omega⟩
        obtain ⟨z, hz⟩ : ∃ z, z = (x != 0) := ⟨_, rfl⟩
        rw [← hz] at hne HLO2
        have HZ := Aside0.mk hz
        clear hz
        cases lo
        all_goals
          go_wp2
          go_roundw
          case rel => exact ⟨i + 1, _, rfl, by go_num, by omega, (by first | exact HBB | exact ⟨pw_below_drewN HBB.out _⟩), ⟨by simpa using HLO2.out⟩⟩
          case measure => simp [intOf]; omega
      · obtain rfl : i = q := by omega
        clear hsl
        obtain ⟨V, hV⟩ : ∃ V, V = nv a / 2 ^ n := ⟨_, rfl⟩
        have HV := Aside0.mk hV
        clear hV
        go_wp2
        go_loopw [10, 11] (fun v10 v11 wr => ∃ (j : Nat) (acc : List Nat), v11 = .int .i64 ((i + j : Nat) : Int) ∧ i + j ≤ na ∧ Aside0 (Below w.heap.size w wr) ∧ Aside0 (kU.R 48 wr w.heap.size (fun _ => True) v10 acc) ∧ Aside0 (acc.length = j ∧ Wf acc ∧ nv acc = V % 2 ^ (64 * j))) (fun _ v11 _ => na - (intOf v11).toNat)
        case atStart => exact ⟨0, [], rfl, by omega, HBB, ⟨Kd.R_nil _ _ _ _ _⟩, ⟨rfl, .nil, by simp [nv, Nat.mod_one]⟩⟩
        case round =>
          clear HBB
          obtain ⟨j, acc, rfl, hj, HBB, HO, HG⟩ := hrel
          obtain ⟨p, hp⟩ : ∃ p, p = i + j := ⟨_, rfl⟩
          rw [← hp] at hj ⊢
          have HP := Aside0.mk hp
          by_cases hlt2 : p < na
          · have hcell := at_word_some (Kd.C_below HA.out HBB.out) HNA.out p hlt2
            obtain ⟨x, hx⟩ : ∃ x, x = wd a p := ⟨_, rfl⟩
            obtain ⟨y, hy⟩ : ∃ y, y = wd a (p + 1) := ⟨_, rfl⟩
            have hx64 : x < 18446744073709551616 := by rw [hx]; exact wd_lt WA.out _
            have hy64 : y < 18446744073709551616 := by rw [hy]; exact wd_lt WA.out _
            rw [← hx] at hcell
            obtain ⟨t, ht⟩ : ∃ t, t = (x + 2 ^ 64 * y) / 2 ^ k % 2 ^ 64 := ⟨_, rfl⟩
            have hT : t = V / 2 ^ (64 * j) % 2 ^ 64 := by
              rw [ht, hx, hy, HV.out, HNK.out, hp]
              exact (nv_down WA.out i j k).resolve_right (by omega)
            have ht64 : t < 18446744073709551616 := by rw [ht]; exact Nat.mod_lt _ (by decide)
            have HT := Aside0.mk hT
            have hsr := shr_word (y := y) hx64 (show k ≤ 64 by omega)
            rw [← ht] at hsr
            have QB := Aside0.mk (fun (m : World) (hm : Below w.heap.size w m) (jj : Int) (hjj : jj = ((p + 1 : Nat) : Int)) => word_is a (some ad) c (p + 1) y jj hjj hy.symm m (by rw [HNA.out]; exact Kd.C_below HA.out hm) (by rw [HNA.out]; exact hc) (by rw [HNA.out]; omega))
            rw [HNA.out] at QB
            obtain ⟨x1, hx1⟩ : ∃ x1, x1 = x / 2 ^ k := ⟨_, rfl⟩
            obtain ⟨y1, hy1⟩ : ∃ y1, y1 = y * 2 ^ (64 - k) % 2 ^ 64 := ⟨_, rfl⟩
            rw [← hx1, ← hy1] at hsr
            have hx164 : x1 < 18446744073709551616 := by rw [hx1]; exact Nat.lt_of_le_of_lt (Nat.div_le_self _ _) hx64
            have hy164 : y1 < 18446744073709551616 := by rw [hy1]; exact Nat.mod_lt _ (by decide)
            have hfx : (x : Int) / 2 ^ k = (x1 : Int) := by rw [hx1]; simp
            have hfy : IntKind.u64.wrap ((y : Int) * 2 ^ (64 - k)) = (y1 : Int) := by
              rw [hy1]; unfold IntKind.wrap; simp [IntKind.bits, IntKind.signed]
            have hor : bits .or .u64 (x1 : Int) (y1 : Int) = (t : Int) := by rw [bits_or_u64_nat x1 y1 hx164 hy164, hsr]
            have HX1 := Aside0.mk hx1
            by_cases hk0 : k = 0
            · have hkn : k ≤ 0 := by omega
              have HTX : t = x1 := by
                rw [ht, hx1, hk0]; omega
              subst HTX
              clear hx hy ht hT hsr hx1 hy1 hp hk0
              go_wp2_with ((with_reducible refine gate_builtin (b := .append) (xs := #[.tmp 64, .tmp 66]) rfl ?_); at_builtin; go_must (refine Kd.R_append kU (w0 := w) w.heap.size rfl (.tmp 64) (.tmp 66) 28 48 (.int .u64 0) 8 rfl Try.underlying28 info_word rfl (by decide) (by omega) u10 acc t [.int .u64 ((t : Nat) : Int)] (fun _ => True) (fun _ => False) rfl rfl ?aP (fun _ hk => hk.elim) ?aF ?aO ?aB ?aS ?aL ?_; (case aP => exact rfl); (case aF => exact fun _ _ => trivial); (case aO => exact HO.out); (case aB => exact HBB.out); (case aS => exact (HBB.out).size); (case aL => (have := HG.out.1; have := HP.out; omega)); intro v_1 w_1 ho hb _ _; have HO' := Aside0.mk ho; have HB' := Aside0.mk hb; clear ho hb))
              go_roundw
              case rel =>
                refine ⟨j + 1, acc ++ [t], by rw [show ((i + (j + 1) : Nat) : Int) = (p : Int) + 1 by have := HP.out; omega], by have := HP.out; omega, HB', HO', ⟨by simp [HG.out.1], HG.out.2.1.snoc ht64, ?_⟩⟩
                rw [nv_snoc, HG.out.1, HG.out.2.2, mod_words V j, ← HT.out]
              case measure => simp [intOf]; omega
            · have hkp : 0 < k := by omega
              clear hx hy ht hT hsr hx1 hy1 hp hk0
              go_wp2_with (first | (go_at_call 61; go_must (refine (QB.out _ ?hB _ ?hJ).mono ?_; (case hB => first | exact HBB.out | exact pw_below_drewN HBB.out _); (case hJ => omega); rintro e w' ⟨rfl, n1, rfl⟩)) | ((with_reducible refine gate_builtin (b := .append) (xs := #[.tmp 64, .tmp 66]) rfl ?_); at_builtin; go_must (refine Kd.R_append kU (w0 := w) w.heap.size rfl (.tmp 64) (.tmp 66) 28 48 (.int .u64 0) 8 rfl Try.underlying28 info_word rfl (by decide) (by omega) u10 acc t [.int .u64 ((t : Nat) : Int)] (fun _ => True) (fun _ => False) rfl rfl ?aP (fun _ hk => hk.elim) ?aF ?aO ?aB ?aS ?aL ?_; (case aP => exact rfl); (case aF => exact fun _ _ => trivial); (case aO => exact Kd.R_drewN HO.out _); (case aB => exact pw_below_drewN HBB.out _); (case aS => exact (pw_below_drewN HBB.out _).size); (case aL => (have := HG.out.1; have := HP.out; omega)); intro v_1 w_1 ho hb _ _; have HO' := Aside0.mk ho; have HB' := Aside0.mk hb; clear ho hb)))
              go_roundw
              case rel =>
                refine ⟨j + 1, acc ++ [t], by rw [show ((i + (j + 1) : Nat) : Int) = (p : Int) + 1 by have := HP.out; omega], by have := HP.out; omega, HB', HO', ⟨by simp [HG.out.1], HG.out.2.1.snoc ht64, ?_⟩⟩
                rw [nv_snoc, HG.out.1, HG.out.2.2, mod_words V j, ← HT.out]
              case measure => simp [intOf]; omega
          · obtain rfl : p = na := by omega
            have HF := Aside0.mk (show nv acc = V by
              rw [HG.out.2.2, Nat.mod_eq_of_lt]
              rw [HV.out, HNK.out, Nat.div_lt_iff_lt_mul (Nat.two_pow_pos _), ← Nat.pow_add]
              have h1 := nv_lt WA.out
              rw [HNA.out, HP.out] at h1
              exact Nat.lt_of_lt_of_le h1 (Nat.pow_le_pow_right (by decide) (by omega)))
            have hcell := at_word_some (Kd.C_below HA.out HBB.out) HNA.out i (by omega)
            obtain ⟨x, hx⟩ : ∃ x, x = wd a i := ⟨_, rfl⟩
            have hx64 : x < 18446744073709551616 := by rw [hx]; exact wd_lt WA.out _
            rw [← hx] at hcell
            have hmd2 := mod_down WA.out i k (by omega)
            rw [← HNK.out, ← hx] at hmd2
            have HMD := Aside0.mk hmd2
            have QN := Aside0.mk (fun (A1 : Option Addr) (c1 : Nat) (h1 : kU.C wr A1 acc.length acc) (h2 : acc.length ≤ c1) (m : World) (hm : Below wr.heap.size wr m) => norm_any acc A1 c1 m (Kd.C_below h1 hm) h2 HG.out.2.1 (by have := HG.out.1; have := HP.out; omega))
            obtain ⟨y1, hy1⟩ : ∃ y1, y1 = x * 2 ^ (64 - k) % 2 ^ 64 := ⟨_, rfl⟩
            have hfy : IntKind.u64.wrap ((x : Int) * 2 ^ (64 - k)) = (y1 : Int) := by
              rw [hy1]; unfold IntKind.wrap; simp [IntKind.bits, IntKind.signed]
            obtain ⟨z, hz⟩ : ∃ z, z = (y1 != 0) := ⟨_, rfl⟩
            have hne : ((y1 : Int) != 0) = z := by rw [hz, Bool.eq_iff_iff]; simp
            have HZ := Aside0.mk (show (nv a % 2 ^ n != 0) = (lo || z) by
              rw [hmd2, HLO.out, hz, hy1, up_word x k (by omega)]
              have hp1 := Nat.two_pow_pos (64 * i)
              have hp2 := Nat.two_pow_pos (64 - k)
              generalize 2 ^ (64 * i) = P1 at *
              generalize 2 ^ (64 - k) = P2 at *
              generalize x % 2 ^ k = m
              generalize nv (a.take i) = m2
              rw [Bool.eq_iff_iff]
              simp only [Bool.or_eq_true, bne_iff_ne, ne_eq, Nat.add_eq_zero_iff, Nat.mul_eq_zero]
              omega)
            have HL0 := Aside0.mk (show k = 0 → (nv a % 2 ^ n != 0) = lo by
              intro h; rw [hmd2, h, HLO.out]; simp [Nat.mod_one])
            clear hx hmd2 hy1 hz hp
            by_cases hk0 : k = 0
            · have hkn : k ≤ 0 := by omega
              have HL1 := Aside0.mk (HL0.out hk0)
              clear hk0
              go_wp2_with (go_at_call 45; go_must (obtain ⟨A1, c1, rfl, hc1, hC1⟩ := Kd.R_reads HO.out; refine (QN.out A1 c1 hC1 hc1 _ (by first | exact Below.refl _ _ | exact pw_below_drewN (Below.refl _ _) _)).mono ?_; rintro e w1 ⟨v, rfl, ho, hb⟩; rw [HF.out] at ho; have HO2 := Aside0.mk ho; have HB2 := Aside0.mk hb; clear ho hb))
              go_ret2
              refine ⟨_, by rw [HL1.out]; rfl, by rw [← HV.out]; exact Kd.R_lower HO2.out HBB.out.size, below_then HBB.out HBB.out.size HB2.out⟩
            · have hkp : 0 < k := by omega
              clear hk0
              cases lo
              all_goals
                go_wp2_with (go_at_call 45; go_must (obtain ⟨A1, c1, rfl, hc1, hC1⟩ := Kd.R_reads HO.out; refine (QN.out A1 c1 hC1 hc1 _ (by first | exact Below.refl _ _ | exact pw_below_drewN (Below.refl _ _) _)).mono ?_; rintro e w1 ⟨v, rfl, ho, hb⟩; rw [HF.out] at ho; have HO2 := Aside0.mk ho; have HB2 := Aside0.mk hb; clear ho hb))
                go_ret2
                refine ⟨_, by rw [HZ.out]; rfl, by rw [← HV.out]; exact Kd.R_lower HO2.out (by first | exact HBB.out.size | exact (pw_below_drewN HBB.out _).size), by first | exact below_then HBB.out HBB.out.size HB2.out | exact below_then (pw_below_drewN HBB.out _) (pw_below_drewN HBB.out _).size HB2.out⟩
end Go.Proofs.Ytplkmbdoecepeaa
