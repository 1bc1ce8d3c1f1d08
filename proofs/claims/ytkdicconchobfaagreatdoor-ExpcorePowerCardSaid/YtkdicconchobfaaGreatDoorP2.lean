/- Part 2 of the library of this claim: what the program and the document compute, as contracts of their functions. -/
import Derived.Test.YtkdicconchobfaaGreatDoorP1
import Derived.Deep.RegionWith
import Ieee.Arith
import Derived.Laws.FloatArith
import Derived.Laws.BitsAllLaws
import Derived.Shelf.Abstract
set_option maxRecDepth 100000
set_option maxHeartbeats 8000000
namespace Go.Proofs.YtkdicconchobfaaGreatDoor
open Go.RowKit Go.Proofs.YtkdicconchobfaaGreatDoorW.PrintWords Limb
set_option linter.unusedVariables false
set_option linter.unusedSimpArgs false
theorem addr_add (ad : Addr) (q i : Nat) : (ad.add q).add i = ad.add (q + i) := by
 unfold Addr.add
 split <;> split <;> simp_all <;> omega
theorem run_from (n : Nat) (ad : Addr) (q m : Nat) (hq : q < n) (hm : n - q = m) : ∀ W : World, (Instr.slice 22 (.slice (some ad) n n) (some (.int .i64 (q : Int))) none none).run Tryz.prog W = .ok (.slice (some (ad.add q)) m m) W := by
 obtain ⟨i, hi, he⟩ := Option.map_eq_some_iff.1 info_word
 simp only [Prod.mk.injEq] at he
 intro W
 have hu : Tryz.prog.underlying 22 = some (.slice (Tryz.prog.elem 22)) := by kernel_rfl
 rw [run_slice_l W 22 (some ad) n n hu .i64 q (by omega) (by omega)]
 have hs : (sizeOf (Tryz.prog.elem 22)).run Tryz.prog W = .ok 1 W := by
  rw [show Tryz.prog.elem 22 = 64 by kernel_rfl]
  exact Tryz.sizeOf64 W
 rw [hs]
 show Result.ok (sliced (some ad) ((q : Int)).toNat n n 1) W = _
 rw [Int.toNat_natCast]
 unfold sliced
 rw [if_neg (by omega), Option.map_some, Nat.mul_one, hm]
theorem pshr_any (a : List Nat) (A : Option Addr) (na c n : Nat) (hna : a.length = na) (w : World) (ha : kU.C w A na a) (hc : na ≤ c) (wa : Wf a) (la : na ≤ 1073741824) (ln : n ≤ 68719476736) (hT : TabAt 0 Lib.deBruijn64tab w) :
 Calls Tryz.prog 133 #[.slice A na c, .int .i64 (n : Int)] w fun e w' => ∃ v, e = .returned (.tuple #[v, .bool (nv a % 2 ^ n != 0)]) ∧ PL w' w.heap.size v (limbs (nv a / 2 ^ n)) ∧ BL w w' := by
 subst hna
 have QA := yk (trim_any a A c w ha hc wa (by omega))
 have CA := yk (C_trim ha wa)
 have HTAB := yk hT
 obtain ⟨L, hL⟩ : ∃ L, L = limbs (nv a) := ⟨_, rfl⟩
 obtain ⟨n1, hn1⟩ : ∃ n, n = L.length := ⟨_, rfl⟩
 have ln1 : n1 ≤ 1073741824 := by have := limbs_nv_len wa; rw [hn1, hL]; omega
 have WL := yk (show Wf L by rw [hL]; exact wf_limbs _)
 have VL := yk (show nv L = nv a by rw [hL, nv_limbs])
 have NL := yk hn1.symm
 have HLL := yk hL
 rw [← hL, ← hn1] at QA CA
 clear ha hc wa la hL hn1 hT
 by_cases h0 : n1 = 0
 · subst h0
   have hz : nv a = 0 := by rw [← VL.out, List.length_eq_zero_iff.1 NL.out]; simp [nv]
   have HZ := yk (show limbs (nv a / 2 ^ n) = [] by rw [hz]; simp [limbs_zero])
   have HB := yk (show (nv a % 2 ^ n != 0) = false by rw [hz]; simp)
   clear hz
   go_enter Tryz.func133, Tryz.ntmps133
   go_wp2_with (go_at_call 109; refine QA.out.mono ?_; rintro e w_1 ⟨rfl, nq1, rfl⟩)
   go_ret2
   exact ⟨_, by rw [HB.out]; rfl, by rw [HZ.out]; exact PL.nil _ _, pw_below_drewN yr _⟩
 have h00 : ((n1 : Int) == 0) = false := by simp; exact h0
 obtain ⟨q, hq⟩ : ∃ q, q = n / 64 := ⟨_, rfl⟩
 obtain ⟨k, hk⟩ : ∃ k, k = n % 64 := ⟨_, rfl⟩
 have hdv : (n : Int).tdiv 64 = (q : Int) := by rw [Int.tdiv_eq_ediv_of_nonneg (by omega)]; omega
 have hmd : (n : Int).tmod 64 = (k : Int) := by rw [Int.tmod_eq_emod_of_nonneg (by omega)]; omega
 have hk63 : k ≤ 63 := by omega
 have hq30 : q ≤ 1073741824 := by omega
 have HNK := yk (show n = 64 * q + k by omega)
 have hane : nv a ≠ 0 := fun h => h0 (by rw [← NL.out, HLL.out, h, limbs_zero]; rfl)
 obtain ⟨lost, hlost⟩ : ∃ b, b = (nv a % 2 ^ n != 0) := ⟨_, rfl⟩
 have hlow : decide ((tz (nv a) : Int) < n) = lost := by
  rw [hlost, Bool.eq_iff_iff, decide_eq_true_iff, bne_iff_ne]
  obtain ⟨p1, p2⟩ := tz_spec (nv a) hane
  constructor
  · intro h hm
    have hd := Nat.dvd_of_mod_eq_zero hm
    obtain ⟨e, he⟩ := hd
    have h2 : n = tz (nv a) + 1 + (n - tz (nv a) - 1) := by omega
    rw [h2, Nat.pow_add, Nat.pow_succ, Nat.mul_assoc, Nat.mul_assoc] at he
    have h3 : nv a / 2 ^ tz (nv a) = 2 * (2 ^ (n - tz (nv a) - 1) * e) := Nat.div_eq_of_eq_mul_right (Nat.two_pow_pos _) he
    omega
  · intro h
    refine Classical.byContradiction fun hc => h ?_
    have h2 : tz (nv a) = n + (tz (nv a) - n) := by omega
    rw [p1, h2, Nat.pow_add, Nat.mul_left_comm]
    exact Nat.mul_mod_right _ _
 have QLow := yk (fun (m : World) (hC : kU.C m A n1 L) (hT : TabAt 0 Lib.deBruijn64tab m) => (by
  have h := plow_any L A n1 m (by rw [NL.out]; exact hC) (by rw [NL.out]; exact Nat.le_refl _) WL.out (by rw [NL.out]; exact ln1) hT
  rw [NL.out, VL.out] at h
  exact h : Calls Tryz.prog 132 #[.slice A n1 n1] m fun e w' => e = .returned (.int .i64 (tz (nv a) : Int)) ∧ ∃ n, w' = m.drewN n))
 rw [← hlost]
 clear hq hk hane hlost
 obtain ⟨zz, hzz⟩ : ∃ z, z = tz (nv a) := ⟨_, rfl⟩
 rw [← hzz] at hlow QLow
 have HLOST := yk (show lost = decide (zz < n) by rw [← hlow, decide_eq_decide]; omega)
 clear hzz hlow
 by_cases hbig : n1 ≤ q
 · have hge : decide ((n1 : Int) ≤ (q : Int)) = true := decide_eq_true (by omega)
   have HZ := yk (show limbs (nv a / 2 ^ n) = [] by
    have h1 := nv_lt WL.out
    rw [NL.out, VL.out] at h1
    rw [Nat.div_eq_of_lt (Nat.lt_of_lt_of_le h1 (Nat.pow_le_pow_right (by decide) (by have := HNK.out; omega))), limbs_zero])
   go_enter Tryz.func133, Tryz.ntmps133
   go_wp2_with (first
    | (go_at_call 109; refine QA.out.mono ?_; rintro e w_1 ⟨rfl, nq1, rfl⟩)
    | (go_at_call 132; refine (QLow.out _ (Kd.C_drewN CA.out _) (tab_below HTAB.out (pw_below_drewN (Below.refl w.heap.size w) _))).mono ?_; rintro e w_2 ⟨rfl, nq2, rfl⟩))
   go_ret2
   exact ⟨_, by rw [HLOST.out]; rfl, by rw [HZ.out]; exact PL.nil _ _, pw_below_drewN yr _⟩
 obtain ⟨m, hm⟩ : ∃ m, n1 - q = m := ⟨_, rfl⟩
 have hqn : q < n1 := by omega
 have hm0 : 0 < m := by omega
 have hmn : m ≤ 1073741824 := by omega
 have hge : decide ((n1 : Int) ≤ (q : Int)) = false := decide_eq_false (by omega)
 obtain ⟨ad, x0, hAe, hx0, hc0⟩ := at_word CA.out NL.out q hqn
 subst hAe
 have hsl := run_from n1 ad q m hqn hm
 have HM := yk hm
 obtain ⟨V, hV⟩ : ∃ V, V = nv a / 2 ^ n := ⟨_, rfl⟩
 have HV := yk hV
 rw [← hV]
 clear hx0 hc0 hm hV hbig h0
 go_enter Tryz.func133, Tryz.ntmps133
 go_wp2_with (first
  | (go_at_call 109; refine QA.out.mono ?_; rintro e w_1 ⟨rfl, nq1, rfl⟩)
  | (go_at_call 132; refine (QLow.out _ (Kd.C_drewN CA.out _) (tab_below HTAB.out (pw_below_drewN (Below.refl w.heap.size w) _))).mono ?_; rintro e w_2 ⟨rfl, hw2⟩; have W2 := yk (show BL w w_2 by obtain ⟨m, rfl⟩ := hw2; exact pw_below_drewN (pw_below_drewN yr _) _); have C1 := yk (Kd.C_below CA.out W2.out); clear hw2)
  | ((with_reducible refine gate_dst (N := 32) rfl ?_); go_must (refine Kd.R_make kU (w0 := w_2) w_2.heap.size 64 rfl rfl 22 (.tmp 31) (.tmp 31) rfl (m : Int) ?mx ?my Tryz.underlying22 (.int .u64 0) 8 info_word rfl (by decide) (by decide) 0 (ok := fun _ => True) (okp := fun _ => False) ?mz (fun _ h => h.elim) trivial (by omega) ?ml yr (Nat.le_refl _) ?_; (case mx => rfl); (case my => rfl); (case mz => rfl); (case ml => omega); intro v_3 w_3 ho hb hg hown; obtain ⟨g, cap, rfl, hg1, hg2, _⟩ := Kd.R_form ho (by simp; omega); rw [show (List.replicate ((m : Int)).toNat (0 : Nat)).length = m by simp] at ho ⊢; have HO := yk ho; have B3 := yk hb; have HG := yk hg1; clear ho hb hg hown hg1 hg2)))
 go_loopw [37] (fun v37 wr => ∃ (i : Nat) (o : List Nat), v37 = .int .i64 i ∧ i ≤ m ∧ Aside0 (BL w_2 wr) ∧ Aside0 (kU.R 64 wr w_2.heap.size (fun _ => True) (.slice (some ⟨g, 0, none⟩) m cap) o) ∧ Aside0 (o.length = m ∧ Wf o ∧ nv (o.take i) = V % 2 ^ (64 * i))) (fun v37 _ => m - (intOf v37).toNat)
 case atStart => exact ⟨0, _, rfl, Nat.zero_le _, B3, HO, ⟨by simp, Wf.replicate _, by simp [nv, Nat.mod_one]⟩⟩
 case round =>
  obtain ⟨i, o, rfl, hi, HB, HO1, HG1⟩ := hrel
  by_cases hlt : i < m
  · obtain ⟨ad', x, hA', hx0, hcell0⟩ := at_word (Kd.C_below C1.out HB.out) NL.out (q + i) (by have := HM.out; omega)
    obtain rfl := Option.some.inj hA'
    have hcell : wr.cell? ((ad.add q).add i) = some (.int .u64 (x : Int)) := by rw [addr_add]; exact hcell0
    have HX := yk (wd_of hx0)
    have hx64 : x < 18446744073709551616 := WL.out.get hx0
    obtain ⟨y, hy⟩ : ∃ y, y = wd L (q + i + 1) := ⟨_, rfl⟩
    have hy64 : y < 18446744073709551616 := by rw [hy]; exact wd_lt WL.out _
    obtain ⟨t, ht⟩ : ∃ t, t = (x + 2 ^ 64 * y) / 2 ^ k % 2 ^ 64 := ⟨_, rfl⟩
    have HT := yk (show t = V / 2 ^ (64 * i) % 2 ^ 64 by
     rw [ht, ← HX.out, hy, HV.out, HNK.out, ← VL.out]
     exact (nv_down WL.out q i k).resolve_right (by omega))
    have ht64 : t < 18446744073709551616 := by rw [ht]; exact Nat.mod_lt _ (by decide)
    obtain ⟨x1, hx1⟩ : ∃ x1, x1 = x / 2 ^ k := ⟨_, rfl⟩
    have hx164 : x1 < 18446744073709551616 := by rw [hx1]; exact Nat.lt_of_le_of_lt (Nat.div_le_self _ _) hx64
    have hxs : (x : Int) / 2 ^ k = (x1 : Int) := by rw [hx1]; simp
    have hsr := shr_word (y := y) hx64 (show k ≤ 64 by omega)
    rw [← ht, ← hx1] at hsr
    have HSR := yk hsr
    have HY := yk hy
    have HX1 := yk hx1
    obtain ⟨hw1, hw2, hput⟩ := put_word HO1.out hlt
    have hst := run_store_word (P := Tryz.prog) (u := (x1 : Int)) hw1 hw2
    have HO2 := yk (hput x1)
    have HST := yk (show V % 2 ^ (64 * (i + 1)) = V % 2 ^ (64 * i) + 2 ^ (64 * i) * t by rw [mod_words, ← HT.out])
    clear hcell0 hx0 hy ht hx1 hsr hput hsl hA'
    by_cases hk0 : k = 0
    · have hkn : k ≤ 0 := by omega
      have hkd : decide (0 < (k : Int)) = false := decide_eq_false (by omega)
      have HT1 := yk (show x1 = t by
       have h5 := HSR.out
       subst hk0
       rw [show y * 2 ^ (64 - 0) % 2 ^ 64 = 0 from Nat.mul_mod_left _ _, Nat.or_zero] at h5
       exact h5)
      clear hk0
      go_wp2
      go_roundw
      case rel => exact ⟨i + 1, o.set i x1, by go_num, by omega, ⟨by first | exact HB.out.setCell HG.out _ | exact below_drew (HB.out.setCell HG.out _) | exact pw_below_drewN (HB.out.setCell HG.out _) _⟩, ⟨by first | exact HO2.out | exact Kd.R_drewN HO2.out _⟩, ⟨by rw [List.length_set]; exact HG1.out.1, HG1.out.2.1.set hx164, by rw [nv_take_set o i x1 (by have := HG1.out.1; omega), HG1.out.2.2, HST.out, HT1.out]⟩⟩
      case measure => simp [intOf]; omega
    · have hkn : 0 < k := by omega
      have hkd : decide (0 < (k : Int)) = true := decide_eq_true (by omega)
      have hi1 : IntKind.i64.wrap ((i : Int) + 1) = ((i + 1 : Nat) : Int) := by unfold IntKind.wrap; simp [IntKind.bits, IntKind.signed]; omega
      by_cases hlt2 : i + 1 < m
      · obtain ⟨ad', y', hA', hy0, hcell0⟩ := at_word (Kd.C_below C1.out HB.out) NL.out (q + i + 1) (by have := HM.out; omega)
        obtain rfl := Option.some.inj hA'
        obtain rfl : y' = y := by rw [HY.out]; exact (wd_of hy0).symm
        obtain ⟨i1, hii⟩ : ∃ i1, i1 = i + 1 := ⟨_, rfl⟩
        have hii1 : (i : Int) + 1 = (i1 : Int) := by omega
        have hlt3 : i1 < m := by omega
        have hcell2 : (wr.setCell ⟨g, i, none⟩ (.int .u64 (x1 : Int))).cell? ((ad.add q).add i1) = some (.int .u64 (y' : Int)) := by
         obtain ⟨ad'', y'', hA'', hy0', hcell0'⟩ := at_word (Kd.C_below C1.out (HB.out.setCell HG.out (.int .u64 (x1 : Int)) : Below w_2.heap.size w_2 (wr.setCell ⟨g, i, none⟩ (.int .u64 (x1 : Int))))) NL.out (q + i + 1) (by have := HM.out; omega)
         obtain rfl := Option.some.inj hA''
         rw [hy0] at hy0'
         obtain rfl := Option.some.inj hy0'
         rw [addr_add, hii]; exact hcell0'
        have HII := yk hii
        obtain ⟨y1, hy1⟩ : ∃ y1, y1 = y' * 2 ^ (64 - k) % 2 ^ 64 := ⟨_, rfl⟩
        have hy164 : y1 < 18446744073709551616 := by rw [hy1]; exact Nat.mod_lt _ (by decide)
        have hsh : IntKind.u64.wrap ((y' : Int) * 2 ^ (64 - k)) = (y1 : Int) := by
         rw [hy1]; unfold IntKind.wrap; simp [IntKind.bits, IntKind.signed]
        have hor : bits .or .u64 (x1 : Int) (y1 : Int) = (t : Int) := by
         rw [bits_or_u64_nat x1 y1 hx164 hy164, hy1, HSR.out]
        obtain ⟨hv1, hv2, hput2⟩ := put_word HO2.out hlt
        rw [wd_set o i x1 (by have := HG1.out.1; omega)] at hv1
        have hst2 := run_store_word (P := Tryz.prog) (u := (t : Int)) hv1 hv2
        have HO3 := yk (hput2 t)
        clear hy0 hcell0 hput2 hk0 hii hy1 hlt2 hA' hi1
        go_wp2
        go_region
        go_wp2
        go_roundw
        case rel => exact ⟨i1, (o.set i x1).set i t, rfl, by omega, ⟨below_drew ((HB.out.setCell HG.out _).setCell HG.out _)⟩, ⟨Kd.R_drewN HO3.out 1⟩, ⟨by rw [List.length_set, List.length_set]; exact HG1.out.1, (HG1.out.2.1.set hx164).set ht64, by rw [HII.out, nv_take_set (o.set i x1) i t (by rw [List.length_set]; have := HG1.out.1; omega), take_set, HG1.out.2.2, HST.out]⟩⟩
        case measure => simp [intOf]; omega
      · have hmi : m = i + 1 := by omega
        have hy0 : y = 0 := by rw [HY.out]; exact wd_ge (by rw [NL.out]; have := HM.out; omega)
        have HT1 := yk (show x1 = t by
         have h5 := HSR.out
         rw [hy0, Nat.zero_mul, Nat.zero_mod, Nat.or_zero] at h5
         exact h5)
        clear hk0 hy0
        subst hmi
        go_wp2
        go_roundw
        case rel => exact ⟨i + 1, o.set i x1, by go_num, by omega, ⟨by first | exact HB.out.setCell HG.out _ | exact below_drew (HB.out.setCell HG.out _) | exact pw_below_drewN (HB.out.setCell HG.out _) _⟩, ⟨by first | exact HO2.out | exact Kd.R_drewN HO2.out _⟩, ⟨by rw [List.length_set]; exact HG1.out.1, HG1.out.2.1.set hx164, by rw [nv_take_set o i x1 (by have := HG1.out.1; omega), HG1.out.2.2, HST.out, HT1.out]⟩⟩
        case measure => first | (simp [intOf]; done) | (simp [intOf]; omega)
  · obtain rfl : i = m := by omega
    clear hsl
    have HF := yk (show nv o = V by
     have h5 := HG1.out.2.2
     rw [nv_take_all (by have := HG1.out.1; omega)] at h5
     rw [h5]
     refine Nat.mod_eq_of_lt ?_
     rw [HV.out, HNK.out, Nat.pow_add, ← Nat.div_div_eq_div_mul]
     refine Nat.lt_of_le_of_lt (Nat.div_le_self _ _) ?_
     rw [Nat.div_lt_iff_lt_mul (Nat.two_pow_pos _), ← Nat.pow_add]
     have h6 := nv_lt WL.out
     rw [NL.out, VL.out] at h6
     rw [show 64 * i + 64 * q = 64 * n1 by have := HM.out; omega]
     exact h6)
    have QT := yk (trim_own HO1.out HG1.out.2.1 (by omega))
    go_wp2_with (go_at_call 109; refine QT.out.mono ?_; rintro e w5 ⟨v, rfl, ho, n5, rfl⟩; rw [HF.out] at ho; have HOO := yk ho; clear ho)
    go_ret2
    have HB4 := below_then W2.out W2.out.size HB.out
    exact ⟨_, by rw [HLOST.out]; rfl, HOO.out.lower W2.out.size, pw_below_drewN HB4 _⟩
theorem pmul_any (a b : List Nat) (A B : Option Addr) (na nb c d : Nat) (hna : a.length = na) (hnb : b.length = nb) (w : World) (ha : kU.C w A na a) (hb : kU.C w B nb b) (hc : na ≤ c) (hd : nb ≤ d) (wa : Wf a) (wb : Wf b) (la : na ≤ 1073741824) (lb : nb ≤ 1073741824) :
 Calls Tryz.prog 141 #[.slice A na c, .slice B nb d] w fun e w' => ∃ v, e = .returned v ∧ PL w' w.heap.size v (limbs (nv a * nv b)) ∧ BL w w' := by
 subst hna hnb
 have QA := yk (trim_any a A c w ha hc wa (by omega))
 have QB := yk (fun (m : Nat) => trim_any b B d (w.drewN m) (Kd.C_drewN hb _) hd wb (by omega))
 have CA := yk (C_trim ha wa)
 have CB := yk (C_trim hb wb)
 obtain ⟨L, hL⟩ : ∃ L, L = limbs (nv a) := ⟨_, rfl⟩
 obtain ⟨M, hM⟩ : ∃ M, M = limbs (nv b) := ⟨_, rfl⟩
 obtain ⟨n1, hn1⟩ : ∃ n, n = L.length := ⟨_, rfl⟩
 obtain ⟨n2, hn2⟩ : ∃ n, n = M.length := ⟨_, rfl⟩
 have ln1 : n1 ≤ 1073741824 := by have := limbs_nv_len wa; rw [hn1, hL]; omega
 have ln2 : n2 ≤ 1073741824 := by have := limbs_nv_len wb; rw [hn2, hM]; omega
 have WL := yk (show Wf L by rw [hL]; exact wf_limbs _)
 have WM := yk (show Wf M by rw [hM]; exact wf_limbs _)
 have VL := yk (show nv L = nv a by rw [hL, nv_limbs])
 have VM := yk (show nv M = nv b by rw [hM, nv_limbs])
 have NL := yk hn1.symm
 have NM := yk hn2.symm
 rw [← hL, ← hn1] at QA CA
 rw [← hM, ← hn2] at QB CB
 clear ha hb hc hd wa wb la lb hL hM hn1 hn2
 obtain ⟨N, hN⟩ : ∃ N, N = n1 + n2 := ⟨_, rfl⟩
 have hN1 : (n1 : Int) + n2 = (N : Int) := by omega
 have hN2 : N ≤ 2147483648 := by omega
 have hN3 : n1 ≤ N ∧ n2 ≤ N := by omega
 have HN := yk hN
 clear hN
 by_cases h0 : N = 0
 · subst h0
   obtain rfl : n1 = 0 := by omega
   obtain rfl : n2 = 0 := by omega
   clear hN1 hN2 hN3 HN
   have HZ := yk (show nv a * nv b = 0 by rw [← VL.out, List.length_eq_zero_iff.1 NL.out]; simp [nv])
   go_enter Tryz.func141, Tryz.ntmps141
   go_wp2_with (first
    | (go_at_call 109; first
    | (with_reducible refine QA.out.mono ?_; rintro e w_1 ⟨rfl, nq1, rfl⟩)
    | (with_reducible refine (QB.out _).mono ?_; rintro e w_2 ⟨rfl, nq2, hw2⟩; have W2 := yk (show BL w w_2 by rw [hw2]; exact pw_below_drewN (pw_below_drewN yr _) _); have C1 := yk (Kd.C_below CA.out W2.out); have C2 := yk (Kd.C_below CB.out W2.out); clear hw2))
    | ((with_reducible refine gate_dst (N := 23) rfl ?_); go_must (refine Kd.R_make kU (w0 := w_2) w_2.heap.size 64 rfl rfl 22 (.tmp 22) (.tmp 22) rfl (0 : Int) ?mx ?my Tryz.underlying22 (.int .u64 0) 8 info_word rfl (by decide) (by decide) 0 (ok := fun _ => True) (okp := fun _ => False) ?mz (fun _ h => h.elim) trivial (by omega) ?ml yr (Nat.le_refl _) ?_; (case mx => rfl); (case my => rfl); (case mz => rfl); (case ml => omega); intro v_3 w_3 ho hb hg hown; obtain ⟨A3, c3, rfl⟩ := Kd.R_slice ho; have HO := yk ho; have B3 := yk hb; clear ho hb hg hown)))
   go_loopw [26] (fun v26 wr => v26 = .int .i64 0 ∧ Aside0 (wr = w_3)) (fun _ _ => 0)
   case atStart => exact ⟨rfl, ⟨rfl⟩⟩
   case round =>
    obtain ⟨rfl, HE⟩ := hrel
    obtain rfl := HE.out
    have QT := yk (trim_own HO.out (by simpa using Wf.replicate 0) (by decide))
    have HV := yk (show nv (List.replicate ((0 : Int)).toNat 0) = nv a * nv b by rw [HZ.out]; simp [nv])
    go_wp2_with (go_at_call 109; refine QT.out.mono ?_; rintro e w5 ⟨v, rfl, ho, n5, rfl⟩; rw [HV.out] at ho; have HOO := yk ho; clear ho)
    go_ret
    exact ⟨_, rfl, HOO.out.lower W2.out.size, pw_below_drewN (below_then W2.out W2.out.size B3.out) _⟩
 have hNp : 0 < N := by omega
 clear h0
 go_enter Tryz.func141, Tryz.ntmps141
 go_wp2_with (first
  | (go_at_call 109; first
    | (with_reducible refine QA.out.mono ?_; rintro e w_1 ⟨rfl, nq1, rfl⟩)
    | (with_reducible refine (QB.out _).mono ?_; rintro e w_2 ⟨rfl, nq2, hw2⟩; have W2 := yk (show BL w w_2 by rw [hw2]; exact pw_below_drewN (pw_below_drewN yr _) _); have C1 := yk (Kd.C_below CA.out W2.out); have C2 := yk (Kd.C_below CB.out W2.out); clear hw2))
  | ((with_reducible refine gate_dst (N := 23) rfl ?_); go_must (refine Kd.R_make kU (w0 := w_2) w_2.heap.size 64 rfl rfl 22 (.tmp 22) (.tmp 22) rfl (N : Int) ?mx ?my Tryz.underlying22 (.int .u64 0) 8 info_word rfl (by decide) (by decide) 0 (ok := fun _ => True) (okp := fun _ => False) ?mz (fun _ h => h.elim) trivial (by omega) ?ml yr (Nat.le_refl _) ?_; (case mx => rfl); (case my => rfl); (case mz => rfl); (case ml => omega); intro v_3 w_3 ho hb hg hown; obtain ⟨g, cap, rfl, hg1, hg2, _⟩ := Kd.R_form ho (by simp; omega); rw [show (List.replicate ((N : Int)).toNat (0 : Nat)).length = N by simp] at ho ⊢; have HO := yk ho; have B3 := yk hb; have HG := yk hg1; clear ho hb hg hown hg1 hg2)))
 go_loopw [26] (fun v26 wr => ∃ (k : Nat) (o : List Nat), v26 = .int .i64 k ∧ k ≤ n1 ∧ Aside0 (BL w_2 wr) ∧ Aside0 (kU.R 64 wr w_2.heap.size (fun _ => True) (.slice (some ⟨g, 0, none⟩) N cap) o) ∧ Aside0 (o.length = N ∧ Wf o ∧ nv o = nv (L.take k) * nv M)) (fun v26 _ => n1 - (intOf v26).toNat)
 case atStart => exact ⟨0, _, rfl, Nat.zero_le _, B3, HO, ⟨by simp, Wf.replicate _, by rw [nv_replicate]; simp [nv]⟩⟩
 case round =>
  obtain ⟨k, o, rfl, hk, HB, HO1, HG1⟩ := hrel
  by_cases hlt : k < n1
  · obtain ⟨ad, x, hA', hx0, hcell⟩ := at_word (Kd.C_below C1.out HB.out) NL.out k hlt
    subst hA'
    have HX := yk (wd_of hx0)
    have hx64 : x < 18446744073709551616 := WL.out.get hx0
    clear hx0
    have hp0 : k + n2 < N := by have := HN.out; omega
    go_wp2
    go_loopw [8, 33] (fun v8 v33 wr => ∃ (j cy : Nat) (o : List Nat), v8 = .int .u64 cy ∧ v33 = .int .i64 j ∧ j ≤ n2 ∧ cy ≤ 18446744073709551615 ∧ Aside0 (BL w_2 wr) ∧ Aside0 (kU.R 64 wr w_2.heap.size (fun _ => True) (.slice (some ⟨g, 0, none⟩) N cap) o) ∧ Aside0 (o.length = N ∧ Wf o ∧ nv o + 2 ^ (64 * (k + j)) * cy = nv (L.take k) * nv M + 2 ^ (64 * k) * (x * nv (M.take j)) ∧ wd o (k + n2) = 0)) (fun _ v33 _ => n2 - (intOf v33).toNat)
    case atStart =>
     refine ⟨0, 0, o, rfl, rfl, Nat.zero_le _, by omega, HB, HO1, ⟨HG1.out.1, HG1.out.2.1, by rw [HG1.out.2.2]; simp [nv], ?_⟩⟩
     refine wd_small HG1.out.2.1 (k := k + n2) ?_ (Nat.le_refl _)
     rw [HG1.out.2.2, Nat.mul_add, Nat.pow_add]
     have h1 := nv_take_lt WL.out k
     have h2 := nv_lt WM.out
     rw [NM.out] at h2
     exact Nat.mul_lt_mul'' h1 h2
    case round =>
     clear HO1 HG1
     obtain ⟨j, cy, o, rfl, rfl, hj, hcy, HB', HO2, HG2⟩ := hrel
     by_cases hlt2 : j < n2
     · obtain ⟨bd, y, hB', hy0, hcell2⟩ := at_word (Kd.C_below C2.out HB'.out) NM.out j hlt2
       subst hB'
       have HY := yk (wd_of hy0)
       have hy64 : y < 18446744073709551616 := WM.out.get hy0
       clear hy0
       obtain ⟨p, hp⟩ : ∃ p, p = k + j := ⟨_, rfl⟩
       have hpN : p < N := by omega
       have hp1 : (k : Int) + j = (p : Int) := by omega
       have HP := yk hp
       obtain ⟨hw1, hw2, hput⟩ := put_word HO2.out hpN
       obtain ⟨w0, hw0⟩ : ∃ w0, w0 = wd o p := ⟨_, rfl⟩
       have hw64 : w0 < 18446744073709551616 := by rw [hw0]; exact wd_lt HG2.out.2.1 p
       rw [← hw0] at hw1
       obtain ⟨lo, hi, hlo, hlh, QM⟩ : ∃ lo hi : Nat, lo < 18446744073709551616 ∧ lo + 18446744073709551616 * hi = x * y ∧ ∀ m : World, Calls Tryz.prog 151 #[.int .u64 (x : Int), .int .u64 (y : Int)] m fun e w' => e = .returned (.tuple #[.int .u64 (hi : Int), .int .u64 (lo : Int)]) ∧ w' = m := ⟨x * y % 18446744073709551616, x * y / 18446744073709551616, Nat.mod_lt _ (by decide), Nat.mod_add_div _ _, fun m => Tryz.bits_Mul64 x y hx64 hy64 m⟩
       have QT := yk QM
       obtain ⟨s, c1', hs1, hs2, hs3, hs4⟩ : ∃ s c' : Nat, s < 18446744073709551616 ∧ c' ≤ 1 ∧ s + 18446744073709551616 * c' = lo + cy + 0 ∧ ∀ W : World, (callFunc 134 #[.int .u64 (lo : Int), .int .u64 (cy : Int), .int .u64 0]).run Tryz.prog W = .ok (.value (.tuple #[.int .u64 (s : Int), .int .u64 (c' : Int)])) W := ⟨(lo + cy + 0) % 18446744073709551616, (lo + cy + 0) / 18446744073709551616, by omega, by omega, by omega, fun W => Tryz.bits_Add64 lo cy 0 (by decide) W⟩
       obtain ⟨t, c2', ht1, ht2, ht3, ht4⟩ : ∃ s' c' : Nat, s' < 18446744073709551616 ∧ c' ≤ 1 ∧ s' + 18446744073709551616 * c' = w0 + s + 0 ∧ ∀ W : World, (callFunc 134 #[.int .u64 (w0 : Int), .int .u64 (s : Int), .int .u64 0]).run Tryz.prog W = .ok (.value (.tuple #[.int .u64 (s' : Int), .int .u64 (c' : Int)])) W := ⟨(w0 + s + 0) % 18446744073709551616, (w0 + s + 0) / 18446744073709551616, by omega, by omega, by omega, fun W => Tryz.bits_Add64 w0 s 0 (by decide) W⟩
       have hxy : x * y ≤ 18446744073709551615 * 18446744073709551615 := Nat.mul_le_mul (by omega) (by omega)
       obtain ⟨h1', hh1⟩ : ∃ h, h = hi + c1' := ⟨_, rfl⟩
       obtain ⟨h2', hh2⟩ : ∃ h, h = h1' + c2' := ⟨_, rfl⟩
       have hhi : h2' ≤ 18446744073709551615 := by omega
       have HT := yk (show t + 2 ^ 64 * h2' = w0 + x * y + cy by omega)
       have e1 : IntKind.u64.wrap ((hi : Int) + c1') = (h1' : Int) := by unfold IntKind.wrap; simp [IntKind.bits, IntKind.signed]; omega
       have e2 : IntKind.u64.wrap ((h1' : Int) + c2') = (h2' : Int) := by unfold IntKind.wrap; simp [IntKind.bits, IntKind.signed]; omega
       have HW0 := yk hw0
       have HPUT := yk hput
       have hst := run_store_word (P := Tryz.prog) (u := (t : Int)) hw1 hw2
       clear hw0 hp hput hxy hs3 ht3 hlh QM hh1 hh2
       go_wp2_with (go_at_call 151; refine (QT.out _).mono ?_; rintro e w' ⟨rfl, rfl⟩)
       go_roundw
       case rel =>
        refine ⟨j + 1, _, o.set p t, rfl, by go_num, by omega, by omega, ?hB, ?hO, ?hG⟩
        case hB => exact ⟨HB'.out.setCell HG.out _⟩
        case hO => exact ⟨HPUT.out t⟩
        case hG =>
         have hl : p < o.length := by have := HG2.out.1; omega
         refine ⟨by simp [HG2.out.1], HG2.out.2.1.set ht1, ?_, ?_⟩
         · rw [nv_take_succ M, HY.out]
           refine mul_step HG2.out.2.2.1 ?_ HT.out
           rw [← HP.out, HW0.out]
           exact nv_set hl t
         · rw [wd_set_ne (by have := HP.out; omega)]
           exact HG2.out.2.2.2
       case measure => simp [intOf]; omega
     · obtain rfl : j = n2 := by omega
       obtain ⟨p, hp⟩ : ∃ p, p = k + j := ⟨_, rfl⟩
       have hpN : p < N := by omega
       have hp1 : (k : Int) + j = (p : Int) := by omega
       have HP := yk hp
       obtain ⟨hw1, hw2, hput⟩ := put_word HO2.out hpN
       have HPUT := yk hput
       have hst := run_store_word (P := Tryz.prog) (u := (cy : Int)) hw1 hw2
       clear hp hput
       go_wp2
       go_roundw
       case rel =>
        refine ⟨k + 1, o.set p cy, by go_num, by omega, ?hB, ?hO, ?hG⟩
        case hB => exact ⟨HB'.out.setCell HG.out _⟩
        case hO => exact ⟨HPUT.out cy⟩
        case hG =>
         have hl : p < o.length := by have := HG2.out.1; omega
         refine ⟨by simp [HG2.out.1], HG2.out.2.1.set (by omega), ?_⟩
         rw [nv_take_succ L, HX.out]
         have e1 := nv_set hl cy
         have e2 := HG2.out.2.2.2
         rw [← HP.out] at e2
         rw [e2, HP.out] at e1
         have e3 := HG2.out.2.2.1
         rw [nv_take_all (l := M) (by rw [NM.out]; omega)] at e3
         rw [HP.out]
         exact mul_row e3 rfl (by omega)
       case measure => simp [intOf]; omega
  · obtain rfl : k = n1 := by omega
    have HF := yk (show nv o = nv a * nv b by rw [HG1.out.2.2, nv_take_all (by rw [NL.out]; omega), VL.out, VM.out])
    have QT := yk (trim_own HO1.out HG1.out.2.1 (by omega))
    go_wp2_with (go_at_call 109; refine QT.out.mono ?_; rintro e w5 ⟨v, rfl, ho, n5, rfl⟩; rw [HF.out] at ho; have HOO := yk ho; clear ho)
    go_ret
    have HB4 := below_then W2.out W2.out.size HB.out
    exact ⟨_, rfl, HOO.out.lower W2.out.size, pw_below_drewN HB4 _⟩
def PDy (w : World) (base : Nat) (v : Value) (z e : Int) : Prop :=
 ∃ A n c, v = .agg #[.bool (cneg z), .slice A n c, .int .i64 (cexp z e)] ∧ PL w base (.slice A n c) (limbs (cman z))
theorem PDy.c {w : World} {base : Nat} {v : Value} {z e : Int} (h : PDy w base v z e) : CDy w v z e := by
 obtain ⟨A, n, c, rfl, hr⟩ := h
 obtain ⟨A', c', he, hc, hC⟩ := hr.c
 injection he with h1 h2 h3
 subst h1 h2 h3
 exact ⟨A, _, c, rfl, hC, rfl, hc⟩
theorem PDy.lower {w : World} {b b' : Nat} {v : Value} {z e : Int} (h : PDy w b v z e) (hb : b' ≤ b) : PDy w b' v z e := by
 obtain ⟨A, n, c, rfl, hr⟩ := h
 exact ⟨A, n, c, rfl, hr.lower hb⟩
theorem PDy.below {w w1 : World} {b : Nat} {v : Value} {z e : Int} (h : PDy w b v z e) (hb : BL w w1) : PDy w1 b v z e := by
 obtain ⟨A, n, c, rfl, hr⟩ := h
 exact ⟨A, n, c, rfl, hr.below hb⟩
theorem PDy.grown {w w1 : World} {b g : Nat} {v : Value} {z e : Int} (h : PDy w b v z e) (hg : w.grownBy w1 (some g)) (hgb : g < b) : PDy w1 b v z e := by
 obtain ⟨A, n, c, rfl, hr⟩ := h
 exact ⟨A, n, c, rfl, hr.grown hg hgb⟩
theorem PDy.scale {w : World} {b : Nat} {v : Value} {z e : Int} (k : Nat) (h : PDy w b v z (e + k)) : PDy w b v (z * 2 ^ k) e := by
 obtain ⟨A, n, c, rfl, hr⟩ := h
 exact ⟨A, n, c, by rw [cneg_mul, cexp_mul], by rw [cman_mul]; exact hr⟩
theorem pform_any (neg : Bool) (l : List Nat) (A : Option Addr) (n c : Nat) (ex : Int) (hn : l.length = n) (w : World) (hl : kU.C w A n l) (hc : n ≤ c) (wl : Wf l) (ln : n ≤ 1073741824) (le1 : -1099511627776 ≤ ex) (le2 : ex ≤ 1099511627776) (hT : TabAt 0 Lib.deBruijn64tab w) :
 Calls Tryz.prog 102 #[.bool neg, .slice A n c, .int .i64 ex] w fun e w' => ∃ v, e = .returned v ∧ PDy w' w.heap.size v (sgn neg (nv l)) ex ∧ BL w w' := by
 subst hn
 have QN := yk (fun (m : World) (hm : BL w m) => trim_any l A c m (Kd.C_below hl hm) hc wl (by omega))
 have CL := yk (fun (m : World) (hm : BL w m) => C_trim (Kd.C_below hl hm) wl)
 have HT := yk (fun (m : World) (hm : BL w m) => tab_below hT hm)
 by_cases h0 : nv l = 0
 · have HZ := yk (show (limbs (nv l)).length = 0 by rw [h0, limbs_zero]; rfl)
   have HV := yk (show sgn neg (nv l) = 0 by rw [h0]; exact sgn_zero neg)
   rw [HZ.out] at QN
   clear hl h0 CL
   go_enter Tryz.func102, Tryz.ntmps102
   go_wp2_with (first
    | (go_at_call 109; go_must (refine (QN.out _ (below_alloc yr _)).mono ?_; rintro e w1 ⟨rfl, hw⟩; have hb := quiet_below hw; have HB := yk hb; have HH := yk (yb (blk_new w _) hb); clear hb hw))
    | ((with_reducible refine gate_store (p := 6) rfl ?_); go_must (refine sdy 6 (.tmp 15) rfl rfl rfl rfl rfl HH.out rfl ?_; intro wb HX HG)))
   refine bodyPost_ret (results_dyad rfl _ _ w.heap.size _ rfl HX.out rfl) rfl ?_
   refine ⟨_, rfl, ⟨none, 0, 0, by rw [HV.out]; rfl, by rw [HV.out, cman_zero, limbs_zero]; exact PL.nil _ _⟩, ?_⟩
   exact (below_then (below_alloc yr _) (below_alloc (Below.refl w.heap.size w) _).size HB.out).grown HG.out (below_then (below_alloc yr _) (below_alloc (Below.refl w.heap.size w) _).size HB.out).size (fun k hk => by cases hk; exact Nat.le_refl _)
 · obtain ⟨L, hL⟩ : ∃ L, L = limbs (nv l) := ⟨_, rfl⟩
   obtain ⟨n1, hn1⟩ : ∃ n, n = L.length := ⟨_, rfl⟩
   obtain ⟨k, hk⟩ : ∃ k, k = tz (nv l) := ⟨_, rfl⟩
   have hn0 : n1 ≠ 0 := by
    rw [hn1, hL]; intro h; exact h0 (limbs_eq_nil.1 (List.length_eq_zero_iff.1 h))
   have hnn : n1 ≤ 1073741824 := by have := limbs_nv_len wl; rw [hn1, hL]; omega
   have hkb : k ≤ 68719476736 := by
    have h1 := tz_lt_bl h0
    have h2 : bl (nv l) ≤ 64 * l.length := bl_le_iff.2 (nv_lt wl)
    omega
   have WL := yk (show Wf L by rw [hL]; exact wf_limbs _)
   have VL := yk (show nv L = nv l by rw [hL, nv_limbs])
   have NL := yk hn1.symm
   have HK := yk hk
   have HN0 := yk h0
   rw [← hL, ← hn1] at QN CL
   have QLow := yk (fun (m : World) (hm : BL w m) => (by
    have q := plow_any L A n1 m (by rw [NL.out]; exact CL.out m hm) (by rw [NL.out]; exact Nat.le_refl _) WL.out (by rw [NL.out]; exact hnn) (HT.out m hm)
    rw [NL.out, VL.out, ← HK.out] at q
    exact q : Calls Tryz.prog 132 #[.slice A n1 n1] m fun e w' => e = .returned (.int .i64 (k : Int)) ∧ ∃ n, w' = m.drewN n))
   have QShr := yk (fun (m : World) (hm : BL w m) => (by
    have q := pshr_any L A n1 n1 k NL.out m (CL.out m hm) (Nat.le_refl _) WL.out hnn hkb (HT.out m hm)
    rw [VL.out] at q
    exact q : Calls Tryz.prog 133 #[.slice A n1 n1, .int .i64 (k : Int)] m fun e w' => ∃ v, e = .returned (.tuple #[v, .bool (nv l % 2 ^ k != 0)]) ∧ PL w' m.heap.size v (limbs (nv l / 2 ^ k)) ∧ BL m w'))
   clear hl h0 hL hn1 hk
   have hz : ((n1 : Int) == 0) = false := by simp; omega
   have hex : IntKind.i64.wrap (ex + (k : Int)) = ex + k := wrap_i64 (by omega) (by omega)
   go_enter Tryz.func102, Tryz.ntmps102
   go_wp2_with (first
    | (go_at_call 109; go_must (refine (QN.out _ (below_alloc yr _)).mono ?_; rintro e w1 ⟨rfl, hw⟩; have hb := quiet_below hw; have HB := yk (below_then (below_alloc yr _) (below_alloc (Below.refl w.heap.size w) _).size hb); have HH := yk (yb (blk_new w _) hb); clear hb hw))
    | (go_at_call 132; go_must (refine (QLow.out _ HB.out).mono ?_; rintro e w2 ⟨rfl, hw⟩; have hb := quiet_below hw; have HB2 := yk (below_then HB.out HB.out.size hb); have HH2 := yk (yb HH.out hb); clear hb hw))
    | (go_at_call 133; go_must (refine (QShr.out _ HB2.out).mono ?_; rintro e w3 ⟨v, rfl, ho, hb⟩; obtain ⟨A2, c2, rfl, hc2, hC2⟩ := ho.c; have HO := yk ho; have HB3 := yk hb; have HH3 := yk (yb HH2.out hb); clear hb ho hC2))
    | ((with_reducible refine gate_store (p := 6) rfl ?_); go_must (refine sdy 6 (.tmp 29) rfl rfl rfl rfl rfl HH3.out rfl ?_; intro wb HX HG)))
   refine bodyPost_ret (results_dyad rfl _ _ w.heap.size _ rfl HX.out rfl) rfl ?_
   have b2 := below_then HB2.out HB2.out.size HB3.out
   refine ⟨_, rfl, ?_, b2.grown HG.out b2.size (fun k hk => by cases hk; exact Nat.le_refl _)⟩
   refine PDy.lower (b := w2.heap.size) ?_ HB2.out.size
   refine PDy.grown (w := w3) ?_ HG.out ?_
   · refine ⟨A2, (limbs (nv l / 2 ^ k)).length, c2, ?_, ?_⟩
     · rw [cneg_sgn HN0.out, cexp_sgn HN0.out, ← HK.out]
     · rw [cman_sgn, ← HK.out]; exact HO.out
   · exact blk_lt HH2.out
theorem form_at_self (z e : Int) (b : Bool) (h : b = cneg z ∨ z = 0) (k : Int) {w : World} {base : Nat} {v : Value} (hr : PDy w base v (sgn b (cman z)) (cexp z e + k)) : PDy w base v z (e + k) := by
 by_cases h0 : z = 0
 · subst h0
   rw [cman_zero, sgn_zero] at hr
   obtain ⟨A, n, c, rfl, hr⟩ := hr
   exact ⟨A, n, c, rfl, hr⟩
 · obtain rfl := h.resolve_right h0
   obtain ⟨j, e1, e2, _⟩ := of_form (e := e) h0
   rw [e1, show e + (j : Int) + k = e + k + j by omega] at hr
   have := PDy.scale j hr
   rw [← sgn_pow, ← e2] at this
   exact this
theorem cman_neg (z : Int) : cman (-z) = cman z := by unfold cman; rw [Int.natAbs_neg]
theorem cexp_neg (z e : Int) : cexp (-z) e = cexp z e := by unfold cexp; rw [Int.natAbs_neg]; by_cases h : z = 0 <;> simp [h]
theorem cman_abs (z : Int) : cman (z.natAbs : Int) = cman z := by unfold cman; rw [Int.natAbs_natCast]
theorem cexp_abs (z e : Int) : cexp (z.natAbs : Int) e = cexp z e := by unfold cexp; rw [Int.natAbs_natCast]; by_cases h : z = 0 <;> simp [h]
theorem cneg_abs (z : Int) : cneg (z.natAbs : Int) = false := by unfold cneg; exact decide_eq_false (by omega)
theorem cneg_neg {z : Int} (h : z ≠ 0) : cneg (-z) = !cneg z := by
 unfold cneg
 by_cases h1 : z < 0
 · rw [decide_eq_true h1, decide_eq_false (by omega)]; rfl
 · rw [decide_eq_false h1, decide_eq_true (by omega)]; rfl
theorem pone_dy (v : Value) (z e : Int) (w : World) (h : CDy w v z e) (hl : (limbs (cman z)).length ≤ 1073741824) (le1 : -549755813888 ≤ cexp z e) (le2 : cexp z e ≤ 549755813888) (hT : TabAt 0 Lib.deBruijn64tab w) :
 Calls Tryz.prog 66 #[v] w fun en w' => ∃ v', en = .returned v' ∧ PDy w' w.heap.size v' (z) (e) ∧ BL w w' := by
 obtain ⟨A, n, c, rfl, hC, hn, hc⟩ := h
 have QF := yk (fun (m : World) (hm : BL w m) => (by
  have q := pform_any (cneg z) (limbs (cman z)) A n c (cexp z e) hn m (Kd.C_below hC hm) hc (wf_limbs _) (by omega) (by omega) (by omega) (tab_below hT hm)
  refine q.mono ?_
  rintro en w' ⟨v', rfl, hr, hb⟩
  rw [nv_limbs] at hr
  exact ⟨v', rfl, by have := form_at_self z e (cneg z) (.inl rfl) 0 (by rw [Int.add_zero]; exact hr); rw [Int.add_zero] at this; exact this, hb⟩ : Calls Tryz.prog 102 #[.bool (cneg z), .slice A n c, .int .i64 (cexp z e)] m fun en w' => ∃ v', en = .returned v' ∧ PDy w' m.heap.size v' (z) (e) ∧ BL m w'))
 obtain ⟨x0, hx0⟩ : ∃ x, x = cexp z e := ⟨_, rfl⟩
 obtain ⟨b0, hb0⟩ : ∃ x, x = cneg z := ⟨_, rfl⟩
 rw [← hx0] at le1 le2
 simp only [← hx0, ← hb0] at QF
 rw [← hx0, ← hb0]
 clear hC hx0 hb0 hT
 go_enter Tryz.func66, Tryz.ntmps66
 go_wp2_with (first
  | (go_at_call 102; go_must (refine (QF.out _ (below_alloc (below_alloc yr _) _)).mono ?_; rintro e w1 ⟨v, rfl, ⟨A2, n2, c2, rfl, hr⟩, hb⟩; have HR := yk hr; have HB := yk (below_then (below_alloc (below_alloc (Below.refl w.heap.size w) _) _) (below_alloc (below_alloc (Below.refl w.heap.size w) _) _).size hb); have hh := yb (blk_new _ _) hb; rw [size_alloc'] at hh; have HH := yk hh; clear hr hb hh))
  | ((with_reducible refine gate_store (p := 2) rfl ?_); go_must (refine sdy 2 (.tmp 9) rfl rfl rfl rfl rfl HH.out rfl ?_; intro wb HX HG)))
 refine bodyPost_ret (results_dyad rfl _ _ (w.heap.size + 1) _ rfl HX.out rfl) rfl ?_
 refine ⟨_, rfl, PDy.lower (b := w.heap.size + 2) (PDy.grown (w := w1) ?_ HG.out (by omega)) (by omega), HB.out.grown HG.out HB.out.size (fun k hk => by cases hk; omega)⟩
 have h := HR.out
 rw [size_alloc', size_alloc'] at h
 exact ⟨A2, n2, c2, rfl, h⟩
theorem pneg_dy (v : Value) (z e : Int) (w : World) (h : CDy w v z e) (hl : (limbs (cman z)).length ≤ 1073741824) (le1 : -549755813888 ≤ cexp z e) (le2 : cexp z e ≤ 549755813888) (hT : TabAt 0 Lib.deBruijn64tab w) :
 Calls Tryz.prog 106 #[v] w fun en w' => ∃ v', en = .returned v' ∧ PDy w' w.heap.size v' (-z) (e) ∧ BL w w' := by
 obtain ⟨A, n, c, rfl, hC, hn, hc⟩ := h
 have QF := yk (fun (m : World) (hm : BL w m) => (by
  have q := pform_any (!cneg z) (limbs (cman z)) A n c (cexp z e) hn m (Kd.C_below hC hm) hc (wf_limbs _) (by omega) (by omega) (by omega) (tab_below hT hm)
  refine q.mono ?_
  rintro en w' ⟨v', rfl, hr, hb⟩
  rw [nv_limbs] at hr
  exact ⟨v', rfl, by have := form_at_self (-z) e (!cneg z) (by by_cases h0 : z = 0; exact .inr (by omega); exact .inl (cneg_neg h0).symm) 0 (by rw [Int.add_zero, cman_neg, cexp_neg]; exact hr); rw [Int.add_zero] at this; exact this, hb⟩ : Calls Tryz.prog 102 #[.bool (!cneg z), .slice A n c, .int .i64 (cexp z e)] m fun en w' => ∃ v', en = .returned v' ∧ PDy w' m.heap.size v' (-z) (e) ∧ BL m w'))
 obtain ⟨x0, hx0⟩ : ∃ x, x = cexp z e := ⟨_, rfl⟩
 obtain ⟨b0, hb0⟩ : ∃ x, x = cneg z := ⟨_, rfl⟩
 rw [← hx0] at le1 le2
 simp only [← hx0, ← hb0] at QF
 rw [← hx0, ← hb0]
 clear hC hx0 hb0 hT
 go_enter Tryz.func106, Tryz.ntmps106
 go_wp2_with (first
  | (go_at_call 102; go_must (refine (QF.out _ (below_alloc (below_alloc yr _) _)).mono ?_; rintro e w1 ⟨v, rfl, ⟨A2, n2, c2, rfl, hr⟩, hb⟩; have HR := yk hr; have HB := yk (below_then (below_alloc (below_alloc (Below.refl w.heap.size w) _) _) (below_alloc (below_alloc (Below.refl w.heap.size w) _) _).size hb); have hh := yb (blk_new _ _) hb; rw [size_alloc'] at hh; have HH := yk hh; clear hr hb hh))
  | ((with_reducible refine gate_store (p := 2) rfl ?_); go_must (refine sdy 2 (.tmp 10) rfl rfl rfl rfl rfl HH.out rfl ?_; intro wb HX HG)))
 refine bodyPost_ret (results_dyad rfl _ _ (w.heap.size + 1) _ rfl HX.out rfl) rfl ?_
 refine ⟨_, rfl, PDy.lower (b := w.heap.size + 2) (PDy.grown (w := w1) ?_ HG.out (by omega)) (by omega), HB.out.grown HG.out HB.out.size (fun k hk => by cases hk; omega)⟩
 have h := HR.out
 rw [size_alloc', size_alloc'] at h
 exact ⟨A2, n2, c2, rfl, h⟩
theorem pabs_dy (v : Value) (z e : Int) (w : World) (h : CDy w v z e) (hl : (limbs (cman z)).length ≤ 1073741824) (le1 : -549755813888 ≤ cexp z e) (le2 : cexp z e ≤ 549755813888) (hT : TabAt 0 Lib.deBruijn64tab w) :
 Calls Tryz.prog 68 #[v] w fun en w' => ∃ v', en = .returned v' ∧ PDy w' w.heap.size v' ((z.natAbs : Int)) (e) ∧ BL w w' := by
 obtain ⟨A, n, c, rfl, hC, hn, hc⟩ := h
 have QF := yk (fun (m : World) (hm : BL w m) => (by
  have q := pform_any (false) (limbs (cman z)) A n c (cexp z e) hn m (Kd.C_below hC hm) hc (wf_limbs _) (by omega) (by omega) (by omega) (tab_below hT hm)
  refine q.mono ?_
  rintro en w' ⟨v', rfl, hr, hb⟩
  rw [nv_limbs] at hr
  exact ⟨v', rfl, by have := form_at_self (z.natAbs : Int) e false (.inl (cneg_abs z).symm) 0 (by rw [Int.add_zero, cman_abs, cexp_abs]; exact hr); rw [Int.add_zero] at this; exact this, hb⟩ : Calls Tryz.prog 102 #[.bool (false), .slice A n c, .int .i64 (cexp z e)] m fun en w' => ∃ v', en = .returned v' ∧ PDy w' m.heap.size v' ((z.natAbs : Int)) (e) ∧ BL m w'))
 obtain ⟨x0, hx0⟩ : ∃ x, x = cexp z e := ⟨_, rfl⟩
 obtain ⟨b0, hb0⟩ : ∃ x, x = cneg z := ⟨_, rfl⟩
 rw [← hx0] at le1 le2
 simp only [← hx0, ← hb0] at QF
 rw [← hx0, ← hb0]
 clear hC hx0 hb0 hT
 go_enter Tryz.func68, Tryz.ntmps68
 go_wp2_with (first
  | (go_at_call 102; go_must (refine (QF.out _ (below_alloc (below_alloc yr _) _)).mono ?_; rintro e w1 ⟨v, rfl, ⟨A2, n2, c2, rfl, hr⟩, hb⟩; have HR := yk hr; have HB := yk (below_then (below_alloc (below_alloc (Below.refl w.heap.size w) _) _) (below_alloc (below_alloc (Below.refl w.heap.size w) _) _).size hb); have hh := yb (blk_new _ _) hb; rw [size_alloc'] at hh; have HH := yk hh; clear hr hb hh))
  | ((with_reducible refine gate_store (p := 2) rfl ?_); go_must (refine sdy 2 (.tmp 7) rfl rfl rfl rfl rfl HH.out rfl ?_; intro wb HX HG)))
 refine bodyPost_ret (results_dyad rfl _ _ (w.heap.size + 1) _ rfl HX.out rfl) rfl ?_
 refine ⟨_, rfl, PDy.lower (b := w.heap.size + 2) (PDy.grown (w := w1) ?_ HG.out (by omega)) (by omega), HB.out.grown HG.out HB.out.size (fun k hk => by cases hk; omega)⟩
 have h := HR.out
 rw [size_alloc', size_alloc'] at h
 exact ⟨A2, n2, c2, rfl, h⟩
theorem pshift_dy (v : Value) (z e : Int) (k : Int) (w : World) (h : CDy w v z e) (hl : (limbs (cman z)).length ≤ 1073741824) (le1 : -549755813888 ≤ cexp z e) (le2 : cexp z e ≤ 549755813888) (lk1 : -549755813888 ≤ k) (lk2 : k ≤ 549755813888) (hT : TabAt 0 Lib.deBruijn64tab w) :
 Calls Tryz.prog 96 #[v, .int .i64 k] w fun en w' => ∃ v', en = .returned v' ∧ PDy w' w.heap.size v' (z) (e + k) ∧ BL w w' := by
 obtain ⟨A, n, c, rfl, hC, hn, hc⟩ := h
 have QF := yk (fun (m : World) (hm : BL w m) => (by
  have q := pform_any (cneg z) (limbs (cman z)) A n c (cexp z e + k) hn m (Kd.C_below hC hm) hc (wf_limbs _) (by omega) (by omega) (by omega) (tab_below hT hm)
  refine q.mono ?_
  rintro en w' ⟨v', rfl, hr, hb⟩
  rw [nv_limbs] at hr
  exact ⟨v', rfl, form_at_self z e (cneg z) (.inl rfl) k hr, hb⟩ : Calls Tryz.prog 102 #[.bool (cneg z), .slice A n c, .int .i64 (cexp z e + k)] m fun en w' => ∃ v', en = .returned v' ∧ PDy w' m.heap.size v' (z) (e + k) ∧ BL m w'))
 obtain ⟨x0, hx0⟩ : ∃ x, x = cexp z e := ⟨_, rfl⟩
 obtain ⟨b0, hb0⟩ : ∃ x, x = cneg z := ⟨_, rfl⟩
 rw [← hx0] at le1 le2
 simp only [← hx0, ← hb0] at QF
 rw [← hx0, ← hb0]
 clear hC hx0 hb0 hT
 have hk : IntKind.i64.wrap (x0 + k) = x0 + k := wrap_i64 (by omega) (by omega)
 go_enter Tryz.func96, Tryz.ntmps96
 go_wp2_with (first
  | (go_at_call 102; go_must (refine (QF.out _ (below_alloc (below_alloc yr _) _)).mono ?_; rintro e w1 ⟨v, rfl, ⟨A2, n2, c2, rfl, hr⟩, hb⟩; have HR := yk hr; have HB := yk (below_then (below_alloc (below_alloc (Below.refl w.heap.size w) _) _) (below_alloc (below_alloc (Below.refl w.heap.size w) _) _).size hb); have hh := yb (blk_new _ _) hb; rw [size_alloc'] at hh; have HH := yk hh; clear hr hb hh))
  | ((with_reducible refine gate_store (p := 4) rfl ?_); go_must (refine sdy 4 (.tmp 13) rfl rfl rfl rfl rfl HH.out rfl ?_; intro wb HX HG)))
 refine bodyPost_ret (results_dyad rfl _ _ (w.heap.size + 1) _ rfl HX.out rfl) rfl ?_
 refine ⟨_, rfl, PDy.lower (b := w.heap.size + 2) (PDy.grown (w := w1) ?_ HG.out (by omega)) (by omega), HB.out.grown HG.out HB.out.size (fun k hk => by cases hk; omega)⟩
 have h := HR.out
 rw [size_alloc', size_alloc'] at h
 exact ⟨A2, n2, c2, rfl, h⟩
theorem pzero_dy (v : Value) (z e : Int) (w : World) (h : CDy w v z e) (hl : (limbs (cman z)).length ≤ 1073741824) :
 Calls Tryz.prog 79 #[v] w fun en w' => en = .returned (.bool (decide (z = 0))) ∧ BL w w' := by
 obtain ⟨A, n, c, rfl, hC, hn, hc⟩ := h
 have QN := yk (fun (m : World) (hm : BL w m) => trim_any (limbs (cman z)) A c m (by rw [hn]; exact Kd.C_below hC hm) (by omega) (wf_limbs _) (by omega))
 rw [hn, nv_limbs] at QN
 obtain ⟨n1, hn1⟩ : ∃ k, k = (limbs (cman z)).length := ⟨_, rfl⟩
 obtain ⟨x, hx⟩ : ∃ x, x = cexp z e := ⟨_, rfl⟩
 obtain ⟨b, hb⟩ : ∃ x, x = cneg z := ⟨_, rfl⟩
 have hz : ((n1 : Int) == 0) = decide (z = 0) := by
  rw [Bool.eq_iff_iff]
  simp only [beq_iff_eq, decide_eq_true_eq]
  rw [hn1]
  constructor
  · intro h
    exact cman_eq_zero.1 (limbs_eq_nil.1 (List.length_eq_zero_iff.1 (by omega)))
  · rintro rfl
    rw [cman_zero, limbs_zero]; rfl
 rw [← hn1] at QN
 rw [← hx, ← hb]
 clear hC hn1 hn hx hb
 go_enter Tryz.func79, Tryz.ntmps79
 go_wp2_with (go_at_call 109; go_must (refine (QN.out _ (below_alloc yr _)).mono ?_; rintro e w1 ⟨rfl, hw⟩; have hb := quiet_below hw; have HB : Aside0 (BL w w1) := ⟨(by exact below_of_alloc hb)⟩; clear hb hw))
 go_ret
 exact ⟨ret_bool (by first | rfl | exact hz), HB.out⟩
theorem psign_dy (v : Value) (z e : Int) (w : World) (h : CDy w v z e) (hl : (limbs (cman z)).length ≤ 1073741824) :
 Calls Tryz.prog 49 #[v] w fun en w' => en = .returned (.int .i64 (sgnI z)) ∧ BL w w' := by
 have QZ := yk (fun (m : World) (hm : BL w m) => pzero_dy v z e m (h.below hm) hl)
 obtain ⟨A, n, c, rfl, hC, hn, hc⟩ := h
 obtain ⟨x, hx⟩ : ∃ x, x = cexp z e := ⟨_, rfl⟩
 obtain ⟨b, hb⟩ : ∃ x, x = cneg z := ⟨_, rfl⟩
 rw [← hx, ← hb] at QZ
 rw [← hx, ← hb]
 obtain ⟨d, hd⟩ : ∃ d, d = decide (z = 0) := ⟨_, rfl⟩
 rw [← hd] at QZ
 have HS := yk (show sgnI z = if d then 0 else if b then -1 else 1 by
  rw [hd, hb]; unfold sgnI cneg
  by_cases h0 : z = 0
  · simp [h0]
  · simp [h0])
 clear hC hx hb hd
 cases d
 all_goals cases b
 all_goals
  go_enter Tryz.func49, Tryz.ntmps49
  go_wp2_with (go_at_call 79; go_must (refine (QZ.out _ (below_alloc yr _)).mono ?_; rintro e w1 ⟨rfl, hb⟩; have HB : Aside0 (BL w w1) := ⟨(by exact below_of_alloc hb)⟩; have hh : w1.heap[w.heap.size]? = some (.cells #[.bool _, .slice A n c, .int .i64 x] 25 (0, 0)) := (by exact yb (blk_new _ _) hb); have c0 := (cell_of_row w1 _ 0 _ _ _ hh).trans rfl; clear hb hh))
  go_ret
  exact ⟨ret_int (by rw [HS.out]; rfl), HB.out⟩
theorem ptop_dy (v : Value) (z e : Int) (w : World) (h : CDy w v z e) (hl : (limbs (cman z)).length ≤ 1073741824) (le1 : -1099511627776 ≤ cexp z e) (le2 : cexp z e ≤ 1099511627776) :
 Calls Tryz.prog 80 #[v] w fun en w' => en = .returned (.int .i64 (cexp z e + bl (cman z) - 1)) ∧ BL w w' := by
 obtain ⟨A, n, c, rfl, hC, hn, hc⟩ := h
 have QL := yk (fun (m : World) (hm : BL w m) => plen_any (limbs (cman z)) A c m (by rw [hn]; exact Kd.C_below hC hm) (by omega) (wf_limbs _) (by omega))
 rw [hn] at QL
 obtain ⟨T, hT⟩ : ∃ T, T = bl (cman z) := ⟨_, rfl⟩
 have hTb : T ≤ 68719476736 := by
  have := nv_lt (wf_limbs (cman z))
  rw [nv_limbs] at this
  have := bl_le_iff.2 this
  omega
 rw [nv_limbs, ← hT] at QL
 rw [← hT]
 obtain ⟨x, hx⟩ : ∃ x, x = cexp z e := ⟨_, rfl⟩
 rw [← hx] at le1 le2 ⊢
 have hw3 : IntKind.i64.wrap (IntKind.i64.wrap (x + T) - 1) = x + T - 1 := by rw [show IntKind.i64.wrap (x + T) = x + T from wrap_i64 (by omega) (by omega)]; exact wrap_i64 (by omega) (by omega)
 clear hC hT hx
 go_enter Tryz.func80, Tryz.ntmps80
 go_wp2
 go_region_with (go_at_call 116; refine (QL.out _ ?hB).mono ?_; (case hB => first | exact below_alloc yr _ | exact below_drew (below_alloc yr _) | exact pw_below_drewN (below_alloc yr _) _); rintro e w1 ⟨rfl, hw⟩; have hb := quiet_below hw; have HB : Aside0 (BL w w1) := ⟨(by first | exact below_of_alloc hb | exact below_of_drew hb)⟩; have hh : w1.heap[w.heap.size]? = some (.cells #[.bool (cneg z), .slice A n c, .int .i64 x] 25 (0, 0)) := (by first | exact yb (blk_new _ _) hb | exact yb (blk_drew (blk_new _ _)) hb | exact yb (blk_drewN (blk_new _ _) _) hb); have c2 : w1.cell? ⟨w.heap.size, 2, none⟩ = some (.int .i64 x) := (cell_of_row w1 _ 2 _ _ _ hh).trans rfl; clear hb hh hw)
 all_goals
  go_wp2
  go_ret
  exact ⟨ret_int (by first | rfl | exact hw3), HB.out⟩
theorem times_pform {w : World} {b : Nat} {v : Value} {y z e e' : Int} (h : PDy w b v (sgn (!(cneg y == cneg z)) (cman y * cman z)) (cexp y e + cexp z e')) : PDy w b v (y * z) (e + e') := by
 by_cases hy : y = 0
 · subst hy
   rw [cman_zero, Nat.zero_mul, sgn_zero] at h
   rw [Int.zero_mul]
   obtain ⟨A, n, c, rfl, hr⟩ := h
   exact ⟨A, n, c, rfl, hr⟩
 by_cases hz : z = 0
 · subst hz
   rw [cman_zero, Nat.mul_zero, sgn_zero] at h
   rw [Int.mul_zero]
   obtain ⟨A, n, c, rfl, hr⟩ := h
   exact ⟨A, n, c, rfl, hr⟩
 obtain ⟨j, e1, e2, _⟩ := of_form (e := e) hy
 obtain ⟨k, e3, e4, _⟩ := of_form (e := e') hz
 rw [e1, e3, show e + (j : Int) + (e' + (k : Int)) = e + e' + ((j + k : Nat) : Int) by omega] at h
 have h2 := PDy.scale (j + k) h
 rw [← sgn_pow] at h2
 have e5 : cman y * cman z * 2 ^ (j + k) = (cman y * 2 ^ j) * (cman z * 2 ^ k) := by rw [Nat.pow_add]; simp only [Nat.mul_assoc, Nat.mul_comm, Nat.mul_left_comm]
 have e6 : (!(cneg y == cneg z)) = (cneg y != cneg z) := rfl
 rw [e5, e6, sgn_mul, ← e2, ← e4] at h2
 exact h2
theorem pint_dy (n : Int) (w : World) (h1 : -9223372036854775808 ≤ n) (h2 : n < 9223372036854775808) (hT : TabAt 0 Lib.deBruijn64tab w) :
 Calls Tryz.prog 69 #[.int .i64 n] w fun en w' => ∃ v', en = .returned v' ∧ PDy w' w.heap.size v' n 0 ∧ BL w w' := by
 obtain ⟨m, hm⟩ : ∃ m, m = n.natAbs := ⟨_, rfl⟩
 have hm64 : m < 18446744073709551616 := by omega
 have QO := yk (fun (W : World) => pof_any m hm64 W)
 have QF := yk (fun (A : Option Addr) (c : Nat) (W : World) (hb : BL w W) (hC : kU.C W A (limbs m).length (limbs m)) (hc : (limbs m).length ≤ c) => (by
  have hl : (limbs m).length ≤ 1 := limbs_len_le (by omega)
  have q := pform_any (decide (n < 0)) (limbs m) A _ c 0 rfl W hC hc (wf_limbs _) (by omega) (by omega) (by omega) (tab_below hT hb)
  rw [nv_limbs, hm, show sgn (decide (n < 0)) n.natAbs = n from sgn_self n, ← hm] at q
  exact q : Calls Tryz.prog 102 #[.bool (decide (n < 0)), .slice A (limbs m).length c, .int .i64 0] W fun en w' => ∃ v', en = .returned v' ∧ PDy w' W.heap.size v' n 0 ∧ BL W w'))
 by_cases hn : n < 0
 · obtain ⟨a0, e1, e2⟩ : ∃ a0 : Nat, IntKind.u64.wrap n = (a0 : Int) ∧ IntKind.u64.wrap (-(a0 : Int)) = (m : Int) := ⟨(n % 18446744073709551616).toNat, by unfold IntKind.wrap; simp [IntKind.bits, IntKind.signed]; omega, by unfold IntKind.wrap; simp [IntKind.bits, IntKind.signed]; omega⟩
   have hd : decide (n < 0) = true := decide_eq_true hn
   rw [hd] at QF
   clear hm hn
   go_enter Tryz.func69, Tryz.ntmps69
   go_wp2_with (first
    | (go_at_call 110; refine (QO.out _).mono ?_; rintro e w1 ⟨v1, rfl, hr, hb⟩; obtain ⟨A, c, rfl, hc1, hC1⟩ := hr.c; have HC := yk hC1; have HCC := yk hc1; have HB := yk (below_then (below_alloc yr _) (below_alloc (Below.refl w.heap.size w) _).size hb); have HH := yk (yb (blk_new w _) hb); clear hr hb hc1 hC1)
    | (go_at_call 102; refine (QF.out A c _ HB.out HC.out HCC.out).mono ?_; rintro e w2 ⟨v2, rfl, ⟨A2, n2, c2, rfl, hr⟩, hb⟩; have HR := yk hr; have HB2 := yk (below_then HB.out HB.out.size hb); have HH2 := yk (yb HH.out hb); have HSZ := yk (blk_lt HH.out); clear hr hb)
    | ((with_reducible refine gate_store (p := 2) rfl ?_); go_must (refine sdy 2 (.tmp 14) rfl rfl rfl rfl rfl HH2.out rfl ?_; intro wb HX HG)))
   refine bodyPost_ret (results_dyad rfl _ _ w.heap.size _ rfl HX.out rfl) rfl ?_
   exact ⟨_, rfl, PDy.lower (PDy.grown (w := w2) ⟨A2, n2, c2, rfl, HR.out⟩ HG.out HSZ.out) HB.out.size, HB2.out.grown HG.out HB2.out.size (fun k hk => by cases hk; exact Nat.le_refl _)⟩
 · have e1 : IntKind.u64.wrap n = (m : Int) := by unfold IntKind.wrap; simp [IntKind.bits, IntKind.signed]; omega
   have hd : decide (n < 0) = false := decide_eq_false hn
   have hn2 : 0 ≤ n := by omega
   rw [hd] at QF
   clear hm hn
   go_enter Tryz.func69, Tryz.ntmps69
   go_wp2_with (first
    | (go_at_call 110; refine (QO.out _).mono ?_; rintro e w1 ⟨v1, rfl, hr, hb⟩; obtain ⟨A, c, rfl, hc1, hC1⟩ := hr.c; have HC := yk hC1; have HCC := yk hc1; have HB := yk (below_then (below_alloc yr _) (below_alloc (Below.refl w.heap.size w) _).size hb); have HH := yk (yb (blk_new w _) hb); clear hr hb hc1 hC1)
    | (go_at_call 102; refine (QF.out A c _ HB.out HC.out HCC.out).mono ?_; rintro e w2 ⟨v2, rfl, ⟨A2, n2, c2, rfl, hr⟩, hb⟩; have HR := yk hr; have HB2 := yk (below_then HB.out HB.out.size hb); have HH2 := yk (yb HH.out hb); have HSZ := yk (blk_lt HH.out); clear hr hb)
    | ((with_reducible refine gate_store (p := 2) rfl ?_); go_must (refine sdy 2 (.tmp 14) rfl rfl rfl rfl rfl HH2.out rfl ?_; intro wb HX HG)))
   refine bodyPost_ret (results_dyad rfl _ _ w.heap.size _ rfl HX.out rfl) rfl ?_
   exact ⟨_, rfl, PDy.lower (PDy.grown (w := w2) ⟨A2, n2, c2, rfl, HR.out⟩ HG.out HSZ.out) HB.out.size, HB2.out.grown HG.out HB2.out.size (fun k hk => by cases hk; exact Nat.le_refl _)⟩
theorem pamounts_dy (u v : Value) (y z e : Int) (E : Int) (k0 k1 : Nat) (w : World) (h : CDy w u y e) (h' : CDy w v z e) (hE : E = min (cexp y e) (cexp z e)) (hk0 : cexp y e - E = k0) (hk1 : cexp z e - E = k1) (hl : (limbs (cman y)).length ≤ 268435456) (hl' : (limbs (cman z)).length ≤ 268435456) (le1 : -8589934592 ≤ cexp y e) (le2 : cexp y e ≤ 8589934592) (le1' : -8589934592 ≤ cexp z e) (le2' : cexp z e ≤ 8589934592) :
 Calls Tryz.prog 101 #[u, v] w fun en w' => ∃ p q, en = .returned (.tuple #[p, q, .int .i64 E]) ∧ PL w' w.heap.size p (limbs (cman y * 2 ^ k0)) ∧ PL w' w.heap.size q (limbs (cman z * 2 ^ k1)) ∧ BL w w' := by
 obtain ⟨A, n, c, rfl, hC, hn, hc⟩ := h
 obtain ⟨A', n', c', rfl, hC', hn', hc'⟩ := h'
 obtain ⟨x0, hx0⟩ : ∃ x, x = cexp y e := ⟨_, rfl⟩
 obtain ⟨x1, hx1⟩ : ∃ x, x = cexp z e := ⟨_, rfl⟩
 obtain ⟨b0, hb0⟩ : ∃ x, x = cneg y := ⟨_, rfl⟩
 obtain ⟨b1, hb1⟩ : ∃ x, x = cneg z := ⟨_, rfl⟩
 have QA := yk (fun (m : World) (hm : BL w m) => (by have q := pshl_any (limbs (cman y)) A n c k0 hn m (Kd.C_below hC hm) hc (wf_limbs _) (by omega) (by omega); rw [nv_limbs] at q; exact q : Calls Tryz.prog 131 #[.slice A n c, .int .i64 (k0 : Int)] m fun e w' => ∃ v, e = .returned v ∧ PL w' m.heap.size v (limbs (cman y * 2 ^ k0)) ∧ BL m w'))
 have QB := yk (fun (m : World) (hm : BL w m) => (by have q := pshl_any (limbs (cman z)) A' n' c' k1 hn' m (Kd.C_below hC' hm) hc' (wf_limbs _) (by omega) (by omega); rw [nv_limbs] at q; exact q : Calls Tryz.prog 131 #[.slice A' n' c', .int .i64 (k1 : Int)] m fun e w' => ∃ v, e = .returned v ∧ PL w' m.heap.size v (limbs (cman z * 2 ^ k1)) ∧ BL m w'))
 have HX0 := yk (show IntKind.i64.wrap (x0 - E) = (k0 : Int) by rw [hx0, hk0]; exact wrap_i64 (by omega) (by omega))
 have HX1 := yk (show IntKind.i64.wrap (x1 - E) = (k1 : Int) by rw [hx1, hk1]; exact wrap_i64 (by omega) (by omega))
 have hmin : (if x0 ≤ x1 then x0 else x1) = E := by rw [hE, hx0, hx1]; split <;> omega
 rw [← hx0, ← hb0, ← hx1, ← hb1]
 clear hC hC' hb0 hb1
 have hEx : E = min x0 x1 := by rw [hx0, hx1]; exact hE
 clear hx0 hx1 hE hk0 hk1 le1 le2 le1' le2'
 obtain ⟨W0, hW0⟩ : ∃ W0, W0 = ((w.alloc (.cells #[.bool b0, .slice A n c, .int .i64 x0] 25)).alloc (.cells #[.bool b1, .slice A' n' c', .int .i64 x1] 25)) := ⟨_, rfl⟩
 have hh0 : Aside0 (W0.heap[w.heap.size]? = some (.cells #[.bool b0, .slice A n c, .int .i64 x0] 25 (0, 0))) := ⟨by rw [hW0]; exact blk_alloc (blk_new _ _) _⟩
 have hh1 : Aside0 (W0.heap[w.heap.size + 1]? = some (.cells #[.bool b1, .slice A' n' c', .int .i64 x1] 25 (0, 0))) := ⟨by rw [hW0]; have := blk_new (w.alloc (.cells #[.bool b0, .slice A n c, .int .i64 x0] 25)) (.cells #[.bool b1, .slice A' n' c', .int .i64 x1] 25); rw [size_alloc'] at this; exact this⟩
 have HW : Aside0 (BL w W0 ∧ w.heap.size + 2 ≤ W0.heap.size) := ⟨by rw [hW0]; exact ⟨below_alloc (below_alloc yr _) _, by rw [size_alloc', size_alloc']; exact Nat.le_refl _⟩⟩
 go_enter Tryz.func101, Tryz.ntmps101
 go_upto_region 1 with fail
 rw [← hW0]
 clear hW0
 obtain ⟨q0, _⟩ := box_cell (v := .int .i64 x0) hh0.out 2 rfl
 obtain ⟨q1, _⟩ := box_cell (v := .int .i64 x1) hh1.out 2 rfl
 go_upto_region 2 with fail
 rw [← hEx]
 clear hEx q0 q1
 obtain ⟨JA, hJA⟩ : ∃ J : (Nat → Prop) → World → Prop, J = fun L0 W => (BL w W ∧ w.heap.size + 2 ≤ W.heap.size) ∧ W.heap[w.heap.size]? = some (.cells #[.bool b0, .slice A n c, .int .i64 x0] 25 (0, 0)) ∧ W.heap[w.heap.size + 1]? = some (.cells #[.bool b1, .slice A' n' c', .int .i64 x1] 25 (0, 0)) := ⟨_, rfl⟩
 refine wp_region_slotsL [13, 14, 15, 16, 17, 18, 19, 20, 21, 22, 23, 24, 25, 26, 27, 4, 5, 6] (by kernel_rfl) (by kernel_rfl)
  (F := fun j q W => match j with | 0 => q = .pointer (some ⟨w.heap.size, 1, none⟩) | 1 => q = .slice A n c | 2 => q = .pointer (some ⟨w.heap.size, 2, none⟩) | 3 => q = .int .i64 x0 | 4 => q = .int .i64 E | 5 => q = .int .i64 (k0 : Int) | 6 => PL W (w.heap.size + 2) q (limbs (cman y * 2 ^ k0)) | 7 => q = .pointer (some ⟨w.heap.size + 1, 1, none⟩) | 8 => q = .slice A' n' c' | 9 => q = .pointer (some ⟨w.heap.size + 1, 2, none⟩) | 10 => q = .int .i64 x1 | 11 => q = .int .i64 E | 12 => q = .int .i64 (k1 : Int) | 13 => PL W (w.heap.size + 2) q (limbs (cman z * 2 ^ k1)) | 14 => q = .int .i64 E | 15 => PL W (w.heap.size + 2) q (limbs (cman y * 2 ^ k0)) | 16 => PL W (w.heap.size + 2) q (limbs (cman z * 2 ^ k1)) | 17 => q = .int .i64 E | _ => True)
  (J := JA) ?h0A ?hstepA ?hendA
 case h0A =>
  rw [hJA]
  have hd := below_drew (Below.refl W0.heap.size W0)
  exact ⟨⟨below_drew HW.out.1, HW.out.2⟩, yb hh0.out hd, yb hh1.out hd⟩
 case hstepA =>
  intro k o ho v W L0 hJW hF hnk haft hcl K hK
  rw [hJA] at hJW
  obtain ⟨hBW, hb0, hb1⟩ := hJW
  have hJM : ∀ (k : Nat) (w4 : World), BL W w4 → JA (fun j => L0 j ∨ j = k) w4 := by
   intro k w4 hb
   rw [hJA]
   refine ⟨⟨below_then hBW.1 hBW.1.size hb, Nat.le_trans hBW.2 hb.size⟩, yb hb0 hb, yb hb1 hb⟩
  have HJM := yk hJM
  clear hJM hcl
  rcases k with _ | _ | _ | _ | _ | _ | _ | _ | _ | _ | _ | _ | _ | _ | _ | _ | _ | _ | k
  all_goals first
   | (cases ho; done)
   | (obtain rfl := (Option.some.inj ho).symm
      clear ho
      rw [if_pos (by rfl)]
      simp only [setAll, List.setIfInBounds_toArray, List.set_cons_zero, List.set_cons_succ, List.getElem_toArray, List.getElem_cons_zero, List.getElem_cons_succ, Nat.reduceAdd] at haft hF hK ⊢)
  ·
   have key := hK.out (.pointer (some ⟨w.heap.size, 1, none⟩)) W (HJM.out 0 W yr) (fun _ _ h => h) rfl
   go_simp
   simpa [upd] using key
  ·
   have f0 : v 0 = .pointer (some ⟨w.heap.size, 1, none⟩) := hF 0 (haft ⟨0, .data⟩ (by simp) rfl)
   have cc := (box_cell (v := .slice A n c) hb0 1 rfl).1
   have key := hK.out (.slice A n c) W (HJM.out 1 W yr) (fun _ _ h => h) rfl
   go_simp
   simpa [upd, f0] using key
  ·
   have key := hK.out (.pointer (some ⟨w.heap.size, 2, none⟩)) W (HJM.out 2 W yr) (fun _ _ h => h) rfl
   go_simp
   simpa [upd] using key
  ·
   have f2 : v 2 = .pointer (some ⟨w.heap.size, 2, none⟩) := hF 2 (haft ⟨2, .data⟩ (by simp) rfl)
   have cc := (box_cell (v := .int .i64 x0) hb0 2 rfl).1
   have key := hK.out (.int .i64 x0) W (HJM.out 3 W yr) (fun _ _ h => h) rfl
   go_simp
   simpa [upd, f2] using key
  ·
   have key := hK.out (.int .i64 E) W (HJM.out 4 W yr) (fun _ _ h => h) rfl
   go_simp
   simpa [upd] using key
  ·
   have f3 : v 3 = .int .i64 x0 := hF 3 (haft ⟨3, .data⟩ (by simp) rfl)
   have f4 : v 4 = .int .i64 E := hF 4 (haft ⟨4, .data⟩ (by simp) rfl)
   have hw := HX0.out
   have key := hK.out (.int .i64 (k0 : Int)) W (HJM.out 5 W yr) (fun _ _ h => h) rfl
   go_simp
   simpa [upd, f3, f4, hw] using key
  ·
   have f1 : v 1 = .slice A n c := hF 1 (haft ⟨1, .data⟩ (by simp) rfl)
   have f5 : v 5 = .int .i64 (k0 : Int) := hF 5 (haft ⟨5, .data⟩ (by simp) rfl)
   go_simp
   go_at_call 131
   refine (QA.out W hBW.1).mono ?_
   rintro en w4 ⟨v1, rfl, hr, hb⟩
   have key := hK.out (v1) w4 (HJM.out 6 w4 hb) ?monoA_6 (hr.lower hBW.2)
   · simpa [upd, f1, f5] using key
   intro j hj hf
   rcases j with _ | _ | _ | _ | _ | _ | _ | _ | _ | _ | _ | _ | _ | _ | _ | _ | _ | _ | j <;> first | exact hf | exact PDy.below hf hb | exact PL.below hf hb | exact RDy.below hf hb
  ·
   have key := hK.out (.pointer (some ⟨w.heap.size + 1, 1, none⟩)) W (HJM.out 7 W yr) (fun _ _ h => h) rfl
   go_simp
   simpa [upd] using key
  ·
   have f7 : v 7 = .pointer (some ⟨w.heap.size + 1, 1, none⟩) := hF 7 (haft ⟨7, .data⟩ (by simp) rfl)
   have cc := (box_cell (v := .slice A' n' c') hb1 1 rfl).1
   have key := hK.out (.slice A' n' c') W (HJM.out 8 W yr) (fun _ _ h => h) rfl
   go_simp
   simpa [upd, f7] using key
  ·
   have key := hK.out (.pointer (some ⟨w.heap.size + 1, 2, none⟩)) W (HJM.out 9 W yr) (fun _ _ h => h) rfl
   go_simp
   simpa [upd] using key
  ·
   have f9 : v 9 = .pointer (some ⟨w.heap.size + 1, 2, none⟩) := hF 9 (haft ⟨9, .data⟩ (by simp) rfl)
   have cc := (box_cell (v := .int .i64 x1) hb1 2 rfl).1
   have key := hK.out (.int .i64 x1) W (HJM.out 10 W yr) (fun _ _ h => h) rfl
   go_simp
   simpa [upd, f9] using key
  ·
   have key := hK.out (.int .i64 E) W (HJM.out 11 W yr) (fun _ _ h => h) rfl
   go_simp
   simpa [upd] using key
  ·
   have f10 : v 10 = .int .i64 x1 := hF 10 (haft ⟨10, .data⟩ (by simp) rfl)
   have f11 : v 11 = .int .i64 E := hF 11 (haft ⟨11, .data⟩ (by simp) rfl)
   have hw := HX1.out
   have key := hK.out (.int .i64 (k1 : Int)) W (HJM.out 12 W yr) (fun _ _ h => h) rfl
   go_simp
   simpa [upd, f10, f11, hw] using key
  ·
   have f8 : v 8 = .slice A' n' c' := hF 8 (haft ⟨8, .data⟩ (by simp) rfl)
   have f12 : v 12 = .int .i64 (k1 : Int) := hF 12 (haft ⟨12, .data⟩ (by simp) rfl)
   go_simp
   go_at_call 131
   refine (QB.out W hBW.1).mono ?_
   rintro en w4 ⟨v1, rfl, hr, hb⟩
   have key := hK.out (v1) w4 (HJM.out 13 w4 hb) ?monoA_13 (hr.lower hBW.2)
   · simpa [upd, f8, f12] using key
   intro j hj hf
   rcases j with _ | _ | _ | _ | _ | _ | _ | _ | _ | _ | _ | _ | _ | _ | _ | _ | _ | _ | j <;> first | exact hf | exact PDy.below hf hb | exact PL.below hf hb | exact RDy.below hf hb
  ·
   have key := hK.out (.int .i64 E) W (HJM.out 14 W yr) (fun _ _ h => h) rfl
   go_simp
   simpa [upd] using key
  ·
   have f6 : PL W (w.heap.size + 2) (v 6) (limbs (cman y * 2 ^ k0)) := hF 6 (haft ⟨6, .data⟩ (by simp) rfl)
   have key := hK.out (v 6) W (HJM.out 15 W yr) (fun _ _ h => h) f6
   go_simp
   simpa [upd] using key
  ·
   have f13 : PL W (w.heap.size + 2) (v 13) (limbs (cman z * 2 ^ k1)) := hF 13 (haft ⟨13, .data⟩ (by simp) rfl)
   have key := hK.out (v 13) W (HJM.out 16 W yr) (fun _ _ h => h) f13
   go_simp
   simpa [upd] using key
  ·
   have f14 : v 14 = .int .i64 E := hF 14 (haft ⟨14, .data⟩ (by simp) rfl)
   have key := hK.out (.int .i64 E) W (HJM.out 17 W yr) (fun _ _ h => h) rfl
   go_simp
   simpa [upd, f14] using key
 case hendA =>
  intro v W L0 hall hJW hF
  rw [hJA] at hJW
  obtain ⟨hBW, _, _⟩ := hJW
  have f15 : PL W (w.heap.size + 2) (v 15) (limbs (cman y * 2 ^ k0)) := hF 15 (by decide)
  have f16 : PL W (w.heap.size + 2) (v 16) (limbs (cman z * 2 ^ k1)) := hF 16 (by decide)
  have f17 : v 17 = .int .i64 E := hF 17 (by decide)
  have P1 := yk (f15.lower (b' := w.heap.size) (by omega))
  have P2 := yk (f16.lower (b' := w.heap.size) (by omega))
  have BF := yk hBW.1
  clear hF hall f15 f16 hBW
  simp only [setAll, List.setIfInBounds_toArray, List.set_cons_zero, List.set_cons_succ, Nat.reduceAdd, f17]
  go_wp2
  go_ret3
  exact ⟨_, _, rfl, P1.out, P2.out, BF.out⟩
def cmpZ (y z : Int) : Int := if y < z then -1 else if z < y then 1 else 0
def Two (w : World) (b : Nat) (v : Value) (l m : List Nat) (E : Int) : Prop := ∃ p q, v = .tuple #[p, q, .int .i64 E] ∧ PL w b p l ∧ PL w b q m
theorem abs_form {z e : Int} (h : z ≠ 0) : ∃ k : Nat, cexp z e = e + k ∧ z.natAbs = cman z * 2 ^ k := by
 obtain ⟨k, e1, e2, _⟩ := of_form (e := e) h
 refine ⟨k, e1, ?_⟩
 have := congrArg Int.natAbs e2
 rw [sgn_abs] at this
 exact this
theorem top_lt {y z e : Int} (hy : y ≠ 0) (hz : z ≠ 0) (h : cexp y e + bl (cman y) - 1 < cexp z e + bl (cman z) - 1) : y.natAbs < z.natAbs := by
 obtain ⟨j, e1, e2⟩ := abs_form (e := e) hy
 obtain ⟨k, e3, e4⟩ := abs_form (e := e) hz
 have h1 : bl y.natAbs = bl (cman y) + j := by rw [e2]; exact bl_mul_pow (fun h => hy (cman_eq_zero.1 h)) j
 have h2 : bl z.natAbs = bl (cman z) + k := by rw [e4]; exact bl_mul_pow (fun h => hz (cman_eq_zero.1 h)) k
 refine Classical.byContradiction fun hc => ?_
 have h3 := bl_lt y.natAbs
 have h4 : z.natAbs < 2 ^ bl y.natAbs := by omega
 have h5 := bl_le_iff.2 h4
 omega
theorem cmp_amounts {y z e E : Int} {k0 k1 : Nat} (hy : y ≠ 0) (hz : z ≠ 0) (hE : E = min (cexp y e) (cexp z e)) (h0 : cexp y e - E = k0) (h1 : cexp z e - E = k1) : cmpN (cman y * 2 ^ k0) (cman z * 2 ^ k1) = cmpN y.natAbs z.natAbs := by
 obtain ⟨j, e1, e2⟩ := abs_form (e := e) hy
 obtain ⟨k, e3, e4⟩ := abs_form (e := e) hz
 obtain ⟨d, hd⟩ : ∃ d : Nat, E = e + d := ⟨min j k, by omega⟩
 have a1 : j = k0 + d := by omega
 have a2 : k = k1 + d := by omega
 rw [e2, e4, a1, a2, Nat.pow_add, Nat.pow_add, ← Nat.mul_assoc, ← Nat.mul_assoc]
 have hp := Nat.two_pow_pos d
 unfold cmpN
 simp only [Nat.mul_lt_mul_right hp]
theorem cmpZ_sign {y z s : Int} (hy : sgnI y = s) (hz : sgnI z = s) (h0 : s ≠ 0) : cmpZ y z = s * cmpN y.natAbs z.natAbs := by
 unfold sgnI at hy hz
 unfold cmpZ cmpN
 split at hy
 · omega
 · split at hz
   · omega
   · split at hy <;> split at hz <;> subst hy <;> first | (exfalso; revert hz; decide) | skip
     all_goals
      repeat' split
      all_goals omega
theorem cmpZ_lt {y z : Int} (h : sgnI y < sgnI z) : cmpZ y z = -1 := by
 unfold sgnI at h
 unfold cmpZ
 rw [if_pos]
 revert h
 repeat' split
 all_goals omega
theorem cmpZ_gt {y z : Int} (h : sgnI z < sgnI y) : cmpZ y z = 1 := by
 unfold sgnI at h
 unfold cmpZ
 rw [if_neg, if_pos]
 all_goals
  revert h
  repeat' split
  all_goals omega
end Go.Proofs.YtkdicconchobfaaGreatDoor

namespace EftPure
def Rep (n : Int) : Prop := ∃ (m : Int) (e : Nat), n = m * 2 ^ e ∧ m.natAbs ≤ 2 ^ 53
structure IsRN (n r : Int) : Prop where
 rep : Rep r
 near : ∀ x, Rep x → (r - n).natAbs ≤ (x - n).natAbs
end EftPure

namespace EftPure
open Ieee
def IsF (x : Nat) (A : Int) : Prop := ∃ s m k, double.read x = .number s m ((k : Nat) - 1074 : Int) ∧ A = signed s m k ∧ m < 2 ^ 53
def oneMore (q r u : Nat) : Nat := if u < 2 * r ∨ u = 2 * r ∧ q % 2 = 1 then 1 else 0
def rnN (n : Nat) : Nat := (n / 2 ^ (n.log2 - 52) + oneMore (n / 2 ^ (n.log2 - 52)) (n % 2 ^ (n.log2 - 52)) (2 ^ (n.log2 - 52))) * 2 ^ (n.log2 - 52)
def rnI (n : Int) : Int := if n < 0 then -((rnN n.natAbs : Nat) : Int) else ((rnN n.natAbs : Nat) : Int)
def TT : Nat := 2098
def DD : Nat := 1074
def UU : Nat := 622
end EftPure

namespace Go.Proofs.YtkdicconchobfaaGreatDoor
open Go.RowKit Go.Proofs.YtkdicconchobfaaGreatDoorW.PrintWords Limb Ieee EftPure
set_option linter.unusedVariables false
set_option linter.unusedSimpArgs false
theorem tdiv_nat (x m : Nat) : (x : Int).tdiv (m : Int) = ((x / m : Nat) : Int) := by rw [Int.tdiv_eq_ediv_of_nonneg (by omega)]; rfl
def valI (x : Nat) : Int := sgn (decide (9223372036854775808 ≤ x)) ((if x / 4503599627370496 % 2048 = 0 then x % 4503599627370496 else 4503599627370496 + x % 4503599627370496) * 2 ^ (x / 4503599627370496 % 2048 - 1))
def Z0 : Value := .agg #[.bool false, .slice none 0 0, .int .i64 0]
open Go.RowKit Go.Proofs.YtkdicconchobfaaGreatDoorW.PrintWords Limb
def Ok (z e : Int) : Prop := bl z.natAbs ≤ 65536 ∧ -65536 ≤ e ∧ e ≤ 65536
theorem CDy.scale {w : World} {v : Value} {z e : Int} (k : Nat) (h : CDy w v z (e + k)) : CDy w v (z * 2 ^ k) e := by
 obtain ⟨A, n, c, h1, h2, h3, h4⟩ := h
 exact ⟨A, n, c, by rw [cneg_mul, cexp_mul]; exact h1, by rw [cman_mul]; exact h2, by rw [cman_mul]; exact h3, h4⟩
def BelN (w : World) (k : Nat) (W : World) : Prop := BL w W ∧ w.heap.size + k ≤ W.heap.size
theorem BelN.next {w W W' : World} {k : Nat} (h : BelN w k W) (hb : BL W W') : BelN w k W' := ⟨below_then h.1 h.1.size hb, Nat.le_trans h.2 hb.size⟩
theorem BelN.grown {w W W' : World} {k g : Nat} (h : BelN w k W) (hg : W.grownBy W' (some g)) (hk : w.heap.size ≤ g) : BelN w k W' := ⟨h.1.grown hg h.1.size (fun k hk' => by cases hk'; exact hk), Nat.le_trans h.2 hg.size⟩
theorem BelN.zero (w : World) : BelN w 0 w := ⟨Below.refl _ _, Nat.le_refl _⟩
theorem BelN.alloc {w W : World} {k : Nat} (h : BelN w k W) (o : Obj) : BelN w (k + 1) (W.alloc o) := ⟨below_alloc h.1 o, by rw [size_alloc']; have := h.2; omega⟩
theorem BelN.less {w W : World} {k j : Nat} (h : BelN w k W) (hj : j ≤ k) : BelN w j W := ⟨h.1, Nat.le_trans (Nat.add_le_add_left hj _) h.2⟩
theorem blk_grown {w w1 : World} {k g : Nat} {o : Obj} (h : w.heap[k]? = some o) (hg : w.grownBy w1 (some g)) (hk : k ≠ g) : w1.heap[k]? = some o :=
 (hg.block _ (blk_lt h) (fun he => hk (Option.some.inj he))).trans h
theorem agg_inj {a b c a' b' c' : Value} (h : Value.agg #[a, b, c] = .agg #[a', b', c']) : a = a' ∧ b = b' ∧ c = c' := by
 injection h with h
 simp at h
 exact h
theorem slice_inj {A A' : Option Addr} {n n' c c' : Nat} (h : Value.slice A n c = .slice A' n' c') : A = A' ∧ n = n' ∧ c = c' := by
 injection h with h1 h2 h3
 exact ⟨h1, h2, h3⟩
theorem al1 (w : World) (k : Nat) (c0 : Array Value) (t0 : TypeId) (hk : k ≤ 1 := by decide) : Aside0 (BelN w k (w.alloc (.cells c0 t0))) ∧ Aside0 ((w.alloc (.cells c0 t0)).heap[w.heap.size]? = some (.cells c0 t0 (0, 0))) := ⟨⟨((BelN.zero w).alloc _).less hk⟩, ⟨by have h := blk_new w (.cells c0 t0); exact h⟩⟩
theorem al2 (w : World) (k : Nat) (c0 : Array Value) (t0 : TypeId) (c1 : Array Value) (t1 : TypeId) (hk : k ≤ 2 := by decide) : Aside0 (BelN w k ((w.alloc (.cells c0 t0)).alloc (.cells c1 t1))) ∧ Aside0 (((w.alloc (.cells c0 t0)).alloc (.cells c1 t1)).heap[w.heap.size]? = some (.cells c0 t0 (0, 0))) ∧ Aside0 (((w.alloc (.cells c0 t0)).alloc (.cells c1 t1)).heap[w.heap.size + 1]? = some (.cells c1 t1 (0, 0))) := ⟨⟨(((BelN.zero w).alloc _).alloc _).less hk⟩, ⟨by have h := blk_new w (.cells c0 t0); exact blk_alloc (h) _⟩, ⟨by have h := blk_new (w.alloc (.cells c0 t0)) (.cells c1 t1); rw [size_alloc'] at h; exact h⟩⟩
theorem al3 (w : World) (k : Nat) (c0 : Array Value) (t0 : TypeId) (c1 : Array Value) (t1 : TypeId) (c2 : Array Value) (t2 : TypeId) (hk : k ≤ 3 := by decide) : Aside0 (BelN w k (((w.alloc (.cells c0 t0)).alloc (.cells c1 t1)).alloc (.cells c2 t2))) ∧ Aside0 ((((w.alloc (.cells c0 t0)).alloc (.cells c1 t1)).alloc (.cells c2 t2)).heap[w.heap.size]? = some (.cells c0 t0 (0, 0))) ∧ Aside0 ((((w.alloc (.cells c0 t0)).alloc (.cells c1 t1)).alloc (.cells c2 t2)).heap[w.heap.size + 1]? = some (.cells c1 t1 (0, 0))) ∧ Aside0 ((((w.alloc (.cells c0 t0)).alloc (.cells c1 t1)).alloc (.cells c2 t2)).heap[w.heap.size + 1 + 1]? = some (.cells c2 t2 (0, 0))) := ⟨⟨((((BelN.zero w).alloc _).alloc _).alloc _).less hk⟩, ⟨by have h := blk_new w (.cells c0 t0); exact blk_alloc (blk_alloc (h) _) _⟩, ⟨by have h := blk_new (w.alloc (.cells c0 t0)) (.cells c1 t1); rw [size_alloc'] at h; exact blk_alloc (h) _⟩, ⟨by have h := blk_new ((w.alloc (.cells c0 t0)).alloc (.cells c1 t1)) (.cells c2 t2); rw [size_alloc', size_alloc'] at h; exact h⟩⟩
theorem al4 (w : World) (k : Nat) (c0 : Array Value) (t0 : TypeId) (c1 : Array Value) (t1 : TypeId) (c2 : Array Value) (t2 : TypeId) (c3 : Array Value) (t3 : TypeId) (hk : k ≤ 4 := by decide) : Aside0 (BelN w k ((((w.alloc (.cells c0 t0)).alloc (.cells c1 t1)).alloc (.cells c2 t2)).alloc (.cells c3 t3))) ∧ Aside0 (((((w.alloc (.cells c0 t0)).alloc (.cells c1 t1)).alloc (.cells c2 t2)).alloc (.cells c3 t3)).heap[w.heap.size]? = some (.cells c0 t0 (0, 0))) ∧ Aside0 (((((w.alloc (.cells c0 t0)).alloc (.cells c1 t1)).alloc (.cells c2 t2)).alloc (.cells c3 t3)).heap[w.heap.size + 1]? = some (.cells c1 t1 (0, 0))) ∧ Aside0 (((((w.alloc (.cells c0 t0)).alloc (.cells c1 t1)).alloc (.cells c2 t2)).alloc (.cells c3 t3)).heap[w.heap.size + 1 + 1]? = some (.cells c2 t2 (0, 0))) ∧ Aside0 (((((w.alloc (.cells c0 t0)).alloc (.cells c1 t1)).alloc (.cells c2 t2)).alloc (.cells c3 t3)).heap[w.heap.size + 1 + 1 + 1]? = some (.cells c3 t3 (0, 0))) := ⟨⟨(((((BelN.zero w).alloc _).alloc _).alloc _).alloc _).less hk⟩, ⟨by have h := blk_new w (.cells c0 t0); exact blk_alloc (blk_alloc (blk_alloc (h) _) _) _⟩, ⟨by have h := blk_new (w.alloc (.cells c0 t0)) (.cells c1 t1); rw [size_alloc'] at h; exact blk_alloc (blk_alloc (h) _) _⟩, ⟨by have h := blk_new ((w.alloc (.cells c0 t0)).alloc (.cells c1 t1)) (.cells c2 t2); rw [size_alloc', size_alloc'] at h; exact blk_alloc (h) _⟩, ⟨by have h := blk_new (((w.alloc (.cells c0 t0)).alloc (.cells c1 t1)).alloc (.cells c2 t2)) (.cells c3 t3); rw [size_alloc', size_alloc', size_alloc'] at h; exact h⟩⟩
section
variable {P : Program} {ops : Array Oper} {Q : Exit → Act → World → Prop}
end
theorem PDy.ex {w : World} {b : Nat} {v : Value} {z e : Int} (h : PDy w b v z e) : ∃ bb A n c x, v = .agg #[.bool bb, .slice A n c, .int .i64 x] := by
 obtain ⟨A, n, c, rfl, hr⟩ := h
 exact ⟨_, _, _, _, _, rfl⟩
theorem CDy.ex {w : World} {v : Value} {z e : Int} (h : CDy w v z e) : ∃ bb A n c x, v = .agg #[.bool bb, .slice A n c, .int .i64 x] := by
 obtain ⟨A, n, c, rfl, hr⟩ := h
 exact ⟨_, _, _, _, _, rfl⟩
theorem CDy.parts {w : World} {z e : Int} {bb : Bool} {A : Option Addr} {n c : Nat} {x : Int} (h : CDy w (.agg #[.bool bb, .slice A n c, .int .i64 x]) z e) : bb = cneg z ∧ x = cexp z e ∧ kU.C w A n (limbs (cman z)) ∧ (limbs (cman z)).length = n ∧ n ≤ c := by
 obtain ⟨A', n', c', h1, h2, h3, h4⟩ := h
 obtain ⟨e1, e2, e3⟩ := agg_inj h1
 obtain ⟨rfl, rfl, rfl⟩ := slice_inj e2
 injection e1 with e1
 injection e3 with _ e3
 exact ⟨e1, e3, h2, h3, h4⟩
theorem results_big {P : Program} {fn : Func} {p : Tmp} {t : TypeId} {n : Nat} (hany : (P.underlying t).any (fun d => match d with | .struct _ | .array _ _ => true | _ => false) = true) (hi : (P.info? t).map (·.size) = some n) (h : fn.results = #[.cell p t]) (tmps : Array Value) (w : World) (g : Nat) (cs : Array Value) (hp : tmps.getD p undef = .pointer (some ⟨g, 0, none⟩)) (hg : w.heap[g]? = some (.cells cs t (0, 0))) (hs : cs.size = n) :
 (results fn tmps).run P w = .ok (.agg cs) w := by
 obtain ⟨d, hu, hd⟩ : ∃ d, P.underlying t = some d ∧ (match d with | .struct _ | .array _ _ => true | _ => false) = true := by
  cases hd : P.underlying t with
  | none => rw [hd] at hany; cases hany
  | some d => rw [hd] at hany; exact ⟨d, rfl, hany⟩
 refine results_single h (.cell g _ cs (0, 0) d hp hg hu ?_ (by rw [hs]; exact hi) .nil)
 revert hu hd
 cases d <;> intro hu hd <;> first | rfl | cases hd
open Go.RowKit Go.Proofs.YtkdicconchobfaaGreatDoorW.PrintWords Limb Exq
def PQ (w : World) (b : Nat) (v : Value) (q : Rat) (N : Nat) : Prop := ∃ z e, PDy w b v z e ∧ q = Dv z e ∧ Bd N z e
def CQ (w : World) (v : Value) (q : Rat) (N : Nat) : Prop := ∃ z e, CDy w v z e ∧ q = Dv z e ∧ Bd N z e
theorem PQ.c {w : World} {b N : Nat} {v : Value} {q : Rat} (h : PQ w b v q N) : CQ w v q N := by
 obtain ⟨z, e, h1, h2⟩ := h; exact ⟨z, e, h1.c, h2⟩
theorem PQ.below {w w1 : World} {b N : Nat} {v : Value} {q : Rat} (h : PQ w b v q N) (hb : BL w w1) : PQ w1 b v q N := by
 obtain ⟨z, e, h1, h2⟩ := h; exact ⟨z, e, h1.below hb, h2⟩
theorem CQ.below {w w1 : World} {N : Nat} {v : Value} {q : Rat} (h : CQ w v q N) (hb : BL w w1) : CQ w1 v q N := by
 obtain ⟨z, e, h1, h2⟩ := h; exact ⟨z, e, h1.below hb, h2⟩
theorem PQ.lower {w : World} {b b' N : Nat} {v : Value} {q : Rat} (h : PQ w b v q N) (hb : b' ≤ b) : PQ w b' v q N := by
 obtain ⟨z, e, h1, h2⟩ := h; exact ⟨z, e, h1.lower hb, h2⟩
theorem PQ.more {w : World} {b N M : Nat} {v : Value} {q : Rat} (h : PQ w b v q N) (hm : N ≤ M) : PQ w b v q M := by
 obtain ⟨z, e, h1, h2, h3⟩ := h; exact ⟨z, e, h1, h2, h3.more hm⟩
theorem PQ.ex {w : World} {b N : Nat} {v : Value} {q : Rat} (h : PQ w b v q N) : ∃ bb A n c x, v = .agg #[.bool bb, .slice A n c, .int .i64 x] := by
 obtain ⟨z, e, h1, -⟩ := h; exact h1.ex
theorem CQ.ex {w : World} {N : Nat} {v : Value} {q : Rat} (h : CQ w v q N) : ∃ bb A n c x, v = .agg #[.bool bb, .slice A n c, .int .i64 x] := by
 obtain ⟨z, e, h1, -⟩ := h; exact h1.ex
theorem bd_man {N : Nat} {z e : Int} (h : Bd N z e) : cman z < 2 ^ N := Nat.lt_of_le_of_lt (Nat.div_le_self _ _) h.1
theorem bd_len {N : Nat} {z e : Int} (h : Bd N z e) : (limbs (cman z)).length ≤ N :=
 limbs_len_le (Nat.lt_of_lt_of_le (bd_man h) (Nat.pow_le_pow_right (by decide) (by omega)))
theorem bd_lo {N : Nat} {z e : Int} (h : Bd N z e) : -(N : Int) ≤ cexp z e := by
 by_cases h0 : z = 0
 · subst h0; rw [cexp_zero]; omega
 · obtain ⟨k, h1, -, -⟩ := of_form (e := e) h0
   have := h.2.1; omega
theorem bd_hi {N : Nat} {z e : Int} (h : Bd N z e) : cexp z e ≤ 2 * (N : Int) := by
 by_cases h0 : z = 0
 · subst h0; rw [cexp_zero]; omega
 · obtain ⟨k, h1, -, h3⟩ := of_form (e := e) h0
   have h4 := tz_lt_bl (show z.natAbs ≠ 0 by omega)
   have h5 := bl_le_iff.2 h.1
   have := h.2.2; omega
theorem CQ.two {w : World} {u v : Value} {a b : Rat} {N M : Nat} (h : CQ w u a N) (h' : CQ w v b M) : ∃ y z g, CDy w u y g ∧ CDy w v z g ∧ a = Dv y g ∧ b = Dv z g ∧ Bd (2 * (N + M)) y g ∧ Bd (2 * (N + M)) z g := by
 obtain ⟨y, e, h1, rfl, h3⟩ := h
 obtain ⟨z, f, k1, rfl, k3⟩ := h'
 obtain ⟨g, i, j, rfl, rfl, hij⟩ := Dv_common e f
 have hi : i ≤ N + M := by have := h3.2; have := k3.2; omega
 have hj : j ≤ N + M := by have := h3.2; have := k3.2; omega
 have hg : -((N + M : Nat) : Int) ≤ g := by have := h3.2; have := k3.2; omega
 exact ⟨y * 2 ^ i, z * 2 ^ j, g, h1.scale i, k1.scale j, (Dv_shift y g i).symm, (Dv_shift z g j).symm,
  (h3.shift rfl hi (by omega)).more (by omega), (k3.shift rfl hj (by omega)).more (by omega)⟩
def cmpQ (a b : Rat) : Int := if a < b then -1 else if b < a then 1 else 0
def sgnQ (a : Rat) : Int := if a = 0 then 0 else if a < 0 then -1 else 1
def ab (a : Rat) : Rat := if 0 ≤ a then a else -a
theorem cmp_Dv (y z e : Int) : cmpQ (Dv y e) (Dv z e) = cmpZ y z := by
 unfold cmpQ cmpZ
 simp only [Dv_lt]
theorem sgn_Dv (z e : Int) : sgnQ (Dv z e) = sgnI z := by
 unfold sgnQ sgnI
 simp only [Dv_eq_zero, Dv_lt_zero]
theorem ab_Dv (z e : Int) : ab (Dv z e) = Dv (z.natAbs : Int) e := by
 unfold ab
 by_cases h : 0 ≤ z
 · rw [if_pos (Dv_nonneg.2 h)]; congr 1; omega
 · rw [if_neg (fun q => h (Dv_nonneg.1 q)), ← Dv_neg]; congr 1; omega
theorem one_q {v : Value} {a : Rat} {N : Nat} {w : World} (h : CQ w v a N) (hN : N ≤ 67108864) (hT : TabAt 0 Lib.deBruijn64tab w) :
 Calls Tryz.prog 66 #[v] w fun en w' => ∃ v', en = .returned v' ∧ PQ w' w.heap.size v' a N ∧ BL w w' := by
 obtain ⟨z, e, h1, rfl, h3⟩ := h
 have l := (bd_len h3); have lo := (bd_lo h3); have hi := (bd_hi h3)
 exact (pone_dy v z e w h1 (by omega) (by omega) (by omega) hT).mono fun en w' ⟨v', q1, q2, q3⟩ => ⟨v', q1, ⟨z, e, q2, rfl, h3⟩, q3⟩
theorem neg_q {v : Value} {a : Rat} {N : Nat} {w : World} (h : CQ w v a N) (hN : N ≤ 67108864) (hT : TabAt 0 Lib.deBruijn64tab w) :
 Calls Tryz.prog 106 #[v] w fun en w' => ∃ v', en = .returned v' ∧ PQ w' w.heap.size v' (-a) N ∧ BL w w' := by
 obtain ⟨z, e, h1, rfl, h3⟩ := h
 have l := (bd_len h3); have lo := (bd_lo h3); have hi := (bd_hi h3)
 exact (pneg_dy v z e w h1 (by omega) (by omega) (by omega) hT).mono fun en w' ⟨v', q1, q2, q3⟩ => ⟨v', q1, ⟨-z, e, q2, (Dv_neg z e).symm, h3.neg⟩, q3⟩
theorem abs_q {v : Value} {a : Rat} {N : Nat} {w : World} (h : CQ w v a N) (hN : N ≤ 67108864) (hT : TabAt 0 Lib.deBruijn64tab w) :
 Calls Tryz.prog 68 #[v] w fun en w' => ∃ v', en = .returned v' ∧ PQ w' w.heap.size v' (ab a) N ∧ BL w w' := by
 obtain ⟨z, e, h1, rfl, h3⟩ := h
 have l := (bd_len h3); have lo := (bd_lo h3); have hi := (bd_hi h3)
 exact (pabs_dy v z e w h1 (by omega) (by omega) (by omega) hT).mono fun en w' ⟨v', q1, q2, q3⟩ => ⟨v', q1, ⟨_, e, q2, ab_Dv z e, ⟨by rw [Int.natAbs_natCast]; exact h3.1, h3.2⟩⟩, q3⟩
theorem shift_q {v : Value} {a : Rat} {N K : Nat} {w : World} (k : Int) (h : CQ w v a N) (hN : N ≤ 67108864) (hk : k.natAbs ≤ K) (hK : K ≤ 67108864) (hT : TabAt 0 Lib.deBruijn64tab w) :
 Calls Tryz.prog 96 #[v, .int .i64 k] w fun en w' => ∃ v', en = .returned v' ∧ PQ w' w.heap.size v' (a * (2 : Rat) ^ k) (N + K) ∧ BL w w' := by
 obtain ⟨z, e, h1, rfl, h3⟩ := h
 have l := (bd_len h3); have lo := (bd_lo h3); have hi := (bd_hi h3)
 exact (pshift_dy v z e k w h1 (by omega) (by omega) (by omega) (by omega) (by omega) hT).mono fun en w' ⟨v', q1, q2, q3⟩ => ⟨v', q1, ⟨z, e + k, q2, by rw [← Dv_one, Dv_mul, Int.mul_one], ⟨Nat.lt_of_lt_of_le h3.1 (Nat.pow_le_pow_right (by decide) (by omega)), by have := h3.2; omega, by have := h3.2; omega⟩⟩, q3⟩
open Go Go.RowKit Go.Proofs.YtkdicconchobfaaGreatDoorW.PrintWords
inductive Sy where
 | lit (v : Value)
 | var (i : Nat)
 | ptr (b o : Nat)
 | fn (f : List Value → Value) (l : List Sy)
mutual
def Sy.ev (E : List Value) (g : Nat → Nat) : Sy → Value
 | .lit v => v
 | .var i => E.getD i undef
 | .ptr b o => .pointer (some ⟨g b, o, none⟩)
 | .fn f l => f (Sy.evs E g l)
def Sy.evs (E : List Value) (g : Nat → Nat) : List Sy → List Value
 | [] => []
 | a :: r => Sy.ev E g a :: Sy.evs E g r
end
mutual
def Sy.ok (n : Nat) (B : List Nat) : Sy → Bool
 | .lit _ => true
 | .var i => decide (i < n)
 | .ptr b _ => B.contains b
 | .fn _ l => Sy.oks n B l
def Sy.oks (n : Nat) (B : List Nat) : List Sy → Bool
 | [] => true
 | a :: r => Sy.ok n B a && Sy.oks n B r
end
mutual
theorem Sy.ev_mono {n : Nat} {B : List Nat} {E E' : List Value} {g g' : Nat → Nat} (hE : ∀ i, i < n → E'.getD i undef = E.getD i undef) (hg : ∀ b, b ∈ B → g' b = g b) : ∀ s : Sy, s.ok n B = true → s.ev E' g' = s.ev E g
 | .lit v, _ => by simp [Sy.ev]
 | .var i, h => by
   simp only [Sy.ok, decide_eq_true_eq] at h
   simp only [Sy.ev]; exact hE i h
 | .ptr b o, h => by
   simp only [Sy.ok, List.contains_iff_mem] at h
   simp only [Sy.ev]; rw [hg b h]
 | .fn f l, h => by
   simp only [Sy.ok] at h
   simp only [Sy.ev]; rw [Sy.evs_mono hE hg l h]
theorem Sy.evs_mono {n : Nat} {B : List Nat} {E E' : List Value} {g g' : Nat → Nat} (hE : ∀ i, i < n → E'.getD i undef = E.getD i undef) (hg : ∀ b, b ∈ B → g' b = g b) : ∀ l : List Sy, Sy.oks n B l = true → Sy.evs E' g' l = Sy.evs E g l
 | [], _ => by simp [Sy.evs]
 | a :: r, h => by
   simp only [Sy.oks, Bool.and_eq_true] at h
   simp only [Sy.evs]
   rw [Sy.ev_mono hE hg a h.1, Sy.evs_mono hE hg r h.2]
end
theorem Sy.evs_length (E : List Value) (g : Nat → Nat) : ∀ l : List Sy, (Sy.evs E g l).length = l.length
 | [] => by simp [Sy.evs]
 | a :: r => by simp [Sy.evs, Sy.evs_length E g r]
theorem Sy.evs_getD (E : List Value) (g : Nat → Nat) : ∀ (l : List Sy) (i : Nat), (Sy.evs E g l).getD i undef = (l.getD i (.lit undef)).ev E g
 | [], i => by simp [Sy.evs, Sy.ev]
 | a :: r, 0 => by simp [Sy.evs]
 | a :: r, i + 1 => by
   have := Sy.evs_getD E g r i
   simpa [Sy.evs] using this
theorem Sy.evs_set (E : List Value) (g : Nat → Nat) (x : Sy) : ∀ (l : List Sy) (i : Nat), Sy.evs E g (l.set i x) = (Sy.evs E g l).set i (x.ev E g)
 | [], i => by simp [Sy.evs]
 | a :: r, 0 => by simp [Sy.evs]
 | a :: r, i + 1 => by simp [Sy.evs, Sy.evs_set E g x r i]
theorem Sy.ok_more {n m : Nat} {B C : List Nat} (hn : n ≤ m) (hB : ∀ b ∈ B, b ∈ C) : (s : Sy) → s.ok n B = true → s.ok m C = true := fun s => by
 refine Sy.rec (motive_1 := fun s => s.ok n B = true → s.ok m C = true) (motive_2 := fun l => Sy.oks n B l = true → Sy.oks m C l = true) ?_ ?_ ?_ ?_ ?_ ?_ s
 · intro v _; simp [Sy.ok]
 · intro i h
   simp only [Sy.ok, decide_eq_true_eq] at h ⊢; omega
 · intro b o h
   simp only [Sy.ok, List.contains_iff_mem] at h ⊢; exact hB b h
 · intro f l ih h
   simp only [Sy.ok] at h ⊢; exact ih h
 · intro _; simp [Sy.oks]
 · intro a r ha hr h
   simp only [Sy.oks, Bool.and_eq_true] at h ⊢
   exact ⟨ha h.1, hr h.2⟩
section
variable {P : Program}
def runP {α : Type} (P : Program) : Sem α → Option α
 | .pure a => some a
 | .program k => runP P (k P)
 | .mark _ k => runP P k
 | _ => none
def runA {α : Type} (P : Program) (g : Nat) : Sem α → Option (α × Obj)
 | .new o k => (runP P (k g)).map (fun a => (a, o))
 | .program k => runA P g (k P)
 | .mark _ k => runA P g k
 | _ => none
theorem runP_ok {α : Type} (s : Sem α) : ∀ {a : α}, runP P s = some a → ∀ W, s.run P W = .ok a W := by
 induction s with
 | pure x => intro a h W; simp only [runP, Option.some.injEq] at h; subst h; rfl
 | program k ih => intro a h W; exact ih P (a := a) h W
 | mark m k ih => intro a h W; exact ih h W
 | _ => intro a h; simp [runP] at h
theorem runA_ok {α : Type} {W : World} (s : Sem α) : ∀ {a : α} {o : Obj}, runA P W.heap.size s = some (a, o) → s.run P W = .ok a (W.alloc o) := by
 induction s with
 | new o k ih =>
   intro a o' h
   simp only [runA, Option.map_eq_some_iff, Prod.mk.injEq] at h
   obtain ⟨x, h1, rfl, rfl⟩ := h
   exact runP_ok _ h1 _
 | program k ih => intro a o h; exact ih P h
 | mark m k ih => intro a o h; exact ih h
 | _ => intro a o h; simp [runA] at h
def loadB (P : Program) (t : TypeId) (cs : List Value) (o : Nat) : Option Value :=
 match P.underlying t with
 | some (.struct _) | some (.array _ _) =>
   match P.info? t with
   | some i => if o + i.size ≤ cs.length then some (.agg ((cs.drop o).take i.size).toArray) else none
   | none => none
 | some _ => cs[o]?
 | none => none
theorem run_under {W : World} {t : TypeId} {d : TypeDesc} (h : P.underlying t = some d) : (underlying t).run P W = .ok d W := by
 simp only [underlying, go_sem]
 simp [h, go_sem]
theorem load_ok {W : World} {g o t T : Nat} {cs : List Value} {v : Value} (hh : W.heap[g]? = some (.cells cs.toArray T (0, 0))) (h : loadB P t cs o = some v) :
 (Instr.loadAt t (.pointer (some ⟨g, o, none⟩))).run P W = .ok v W := by
 have hc : ∀ j v, cs[j]? = some v → W.cell? ⟨g, j, none⟩ = some v := fun j v hv => by
  rw [cell_of_row W g j _ _ _ hh]; simpa using hv
 unfold loadB at h
 have agg : ∀ d, P.underlying t = some d → (match d with | .struct _ | .array _ _ => true | _ => false) = true → (match P.info? t with
  | some i => if o + i.size ≤ cs.length then some (Value.agg ((cs.drop o).take i.size).toArray) else none
  | none => none) = some v → (Instr.loadAt t (.pointer (some ⟨g, o, none⟩))).run P W = .ok v W := by
  intro d hu hd h
  cases hi : P.info? t with
  | none => rw [hi] at h; cases h
  | some i =>
    rw [hi] at h
    dsimp only at h
    split at h
    · rename_i hle
      injection h with h; subst h
      have hl := run_loadCells_list (P := P) (w := W) ⟨g, o, none⟩ ((cs.drop o).take i.size) (fun j v hv => by
       have hj : j < i.size := by
        have := List.getElem?_eq_some_iff.1 hv
        obtain ⟨h1, -⟩ := this
        simp at h1; omega
       rw [List.getElem?_take_of_lt hj, List.getElem?_drop] at hv
       have := hc (o + j) v hv
       rcases Nat.eq_zero_or_pos j with rfl | hj0
       · simpa [Addr.add] using this
       · simpa [Addr.add, Nat.ne_of_gt hj0] using this)
      have hlen : ((cs.drop o).take i.size).length = i.size := by simp; omega
      rw [hlen] at hl
      have h1 : (isAgg t).run P W = .ok true W := by
       unfold isAgg
       rw [Sem.run_bind, run_under hu]
       cases d <;> simp_all
      have h2 : (sizeOf t).run P W = .ok i.size W := by
       simp [sizeOf, typeInfo, go_sem, hi]
      simp [Instr.loadAt, Instr.sureAddr, loadVar, Sem.run_bind, h1, h2, hl]
    · cases h
 have one : ∀ d, P.underlying t = some d → (match d with | .struct _ | .array _ _ => true | _ => false) = false → cs[o]? = some v → (Instr.loadAt t (.pointer (some ⟨g, o, none⟩))).run P W = .ok v W := by
  intro d hu hd h
  have h1 : (isAgg t).run P W = .ok false W := by
   unfold isAgg
   rw [Sem.run_bind, run_under hu]
   cases d <;> simp_all
  simp [Instr.loadAt, Instr.sureAddr, loadVar, Sem.run_bind, h1, hc o v h]
 cases hu : P.underlying t with
 | none => rw [hu] at h; cases h
 | some d =>
   rw [hu] at h
   cases d <;> first | exact agg _ hu rfl h | exact one _ hu rfl h
end
theorem opt_congr {ρ ρ' : Operand → Value} {o : Option Operand} (h : ∀ x ∈ o.toArray, ρ x = ρ' x) : o.map ρ = o.map ρ' := by
 cases o with
 | none => rfl
 | some x => simp [h x (by simp)]
theorem arr_congr {ρ ρ' : Operand → Value} {a : Array Operand} (h : ∀ x ∈ a, ρ x = ρ' x) : a.map ρ = a.map ρ' := Array.map_congr_left h
theorem parts_congr {ρ ρ' : Operand → Value} {a : Array (Nat × Operand)} (h : ∀ x ∈ (a.toList.map (·.2)).toArray, ρ x = ρ' x) : (a.map fun (i, x) => (i, ρ x)) = (a.map fun (i, x) => (i, ρ' x)) := by
 refine Array.map_congr_left ?_
 intro x hx
 have : x.2 ∈ (a.toList.map (·.2)).toArray := by
  simp only [List.mem_toArray, List.mem_map]
  exact ⟨x, by simpa using hx, rfl⟩
 simp [h x.2 this]
theorem resolve_congr {ρ ρ' : Operand → Value} {c : Call} {t : TypeId} (h : ∀ x ∈ c.operands, ρ x = ρ' x) : resolve ρ c t = resolve ρ' c t := by
 have h1 : c.args.map ρ = c.args.map ρ' := arr_congr fun x hx => h x (by simp [Call.operands, hx])
 unfold resolve
 rw [h1]
 cases hc : c.callee with
 | value f => simp [h f (by simp [Call.operands, hc])]
 | invoke r m => simp [h r (by simp [Call.operands, hc])]
 | builtin b => rfl
def noSel (o : Oper) : Bool := match o.op with | .select _ _ => false | _ => true
theorem execOp_congr {ρ ρ' : Operand → Value} {o : Oper} (hs : noSel o = true) (h : ∀ x ∈ o.op.operands, ρ x = ρ' x) : execOp ρ o = execOp ρ' o := by
 obtain ⟨dst, op, ty, pos, after, guard⟩ := o
 cases op with
 | move x => simp [execOp, h x (by simp [Op.operands])]
 | assign x => simp [execOp, h x (by simp [Op.operands])]
 | pick c a b => simp [execOp, h c (by simp [Op.operands]), h a (by simp [Op.operands]), h b (by simp [Op.operands])]
 | alloc e => rfl
 | box e v => simp [execOp, h v (by simp [Op.operands])]
 | build t ps => simp only [execOp]; rw [parts_congr h]
 | buildSlice t n ps => simp only [execOp]; rw [parts_congr h]
 | insert t m k v => simp [execOp, h m (by simp [Op.operands]), h k (by simp [Op.operands]), h v (by simp [Op.operands])]
 | load t a => simp [execOp, h a (by simp [Op.operands])]
 | store t a v => simp [execOp, h a (by simp [Op.operands]), h v (by simp [Op.operands])]
 | ready g => rfl
 | waits g => rfl
 | nilCheck x => simp [execOp, h x (by simp [Op.operands])]
 | binOp op t x y yt =>
   have e : eqGuard op t x y (ρ x) (ρ y) = eqGuard op t x y (ρ' x) (ρ' y) := by rw [h x (by simp [Op.operands]), h y (by simp [Op.operands])]
   simp only [execOp]; rw [e, h x (by simp [Op.operands]), h y (by simp [Op.operands])]
 | unOp op t x => simp [execOp, h x (by simp [Op.operands])]
 | convert s d x => simp [execOp, h x (by simp [Op.operands])]
 | sliceToArrayPointer d x => simp [execOp, h x (by simp [Op.operands])]
 | makeInterface t x => simp [execOp, h x (by simp [Op.operands])]
 | makeFunc f a b =>
   simp only [execOp]
   rw [arr_congr (a := a) fun x hx => h x (by simp [Op.operands, hx]), arr_congr (a := b) fun x hx => h x (by simp [Op.operands, hx])]
 | makeMap t r => simp only [execOp]; rw [opt_congr h]
 | makeChan t x => simp [execOp, h x (by simp [Op.operands])]
 | makeSlice t l c => simp [execOp, h l (by simp [Op.operands]), h c (by simp [Op.operands])]
 | slice t x lo hi mx =>
   simp only [execOp]
   rw [h x (by simp [Op.operands]), opt_congr (o := lo) fun x hx => h x (by simp only [Op.operands]; simp only [Array.mem_append]; exact .inl (.inl (.inr hx))), opt_congr (o := hi) fun x hx => h x (by simp only [Op.operands]; simp only [Array.mem_append]; exact .inl (.inr hx)), opt_congr (o := mx) fun x hx => h x (by simp only [Op.operands]; simp only [Array.mem_append]; exact .inr hx)]
 | fieldAddr t x f => simp [execOp, h x (by simp [Op.operands])]
 | field t x f => simp [execOp, h x (by simp [Op.operands])]
 | indexAddr t x i => simp [execOp, h x (by simp [Op.operands]), h i (by simp [Op.operands])]
 | index t x i => simp [execOp, h x (by simp [Op.operands]), h i (by simp [Op.operands])]
 | lookup t x i ok => simp [execOp, h x (by simp [Op.operands]), h i (by simp [Op.operands])]
 | mapUpdate t m k v => simp [execOp, h m (by simp [Op.operands]), h k (by simp [Op.operands]), h v (by simp [Op.operands])]
 | mapEntry t m k => simp [execOp, h m (by simp [Op.operands]), h k (by simp [Op.operands])]
 | entryStore t m k v => simp [execOp, h m (by simp [Op.operands]), h k (by simp [Op.operands]), h v (by simp [Op.operands])]
 | range t x => simp [execOp, h x (by simp [Op.operands])]
 | next i s => simp [execOp, h i (by simp [Op.operands])]
 | entry i => simp [execOp, h i (by simp [Op.operands])]
 | typeAssert x a b c => simp [execOp, h x (by simp [Op.operands])]
 | extract t i => simp [execOp, h t (by simp [Op.operands])]
 | call c => simp only [execOp]; rw [resolve_congr h]
 | go c => simp only [execOp]; rw [resolve_congr h]
 | defer c => simp only [execOp]; rw [resolve_congr h]
 | panic x => simp [execOp, h x (by simp [Op.operands])]
 | send c x => simp [execOp, h c (by simp [Op.operands]), h x (by simp [Op.operands])]
 | recv t c k => simp only [execOp]; rw [h c (by simp [Op.operands])]
 | select cs b => simp [noSel] at hs
structure Lat (u : TypeId) (h W : World) : Prop where
 os : W.os = h.os
 tape : W.tape = h.tape
 output : W.output = h.output
 size : h.heap.size ≤ W.heap.size
 blk : ∀ k, k < h.heap.size → W.heap[k]? = h.heap[k]? ∨ ∃ cs cs' t, t ≠ u ∧ h.heap[k]? = some (.cells cs t (0, 0)) ∧ W.heap[k]? = some (.cells cs' t (0, 0))
theorem Lat.refl (u : TypeId) (h : World) : Lat u h h := ⟨rfl, rfl, rfl, Nat.le_refl _, fun _ _ => .inl rfl⟩
theorem Lat.of_below {u : TypeId} {h W : World} (b : BL h W) : Lat u h W := ⟨b.os, b.tape, b.output, b.size, fun k hk => .inl (b.block k hk)⟩
theorem Lat.trans {u : TypeId} {a b c : World} (h : Lat u a b) (k : Lat u b c) : Lat u a c := by
 refine ⟨k.os.trans h.os, k.tape.trans h.tape, k.output.trans h.output, Nat.le_trans h.size k.size, fun i hi => ?_⟩
 rcases h.blk i hi with h1 | ⟨cs, cs', t, ht, h1, h2⟩
 · rcases k.blk i (Nat.lt_of_lt_of_le hi h.size) with k1 | ⟨ds, ds', t, ht, k1, k2⟩
   · exact .inl (k1.trans h1)
   · exact .inr ⟨ds, ds', t, ht, by rw [← h1]; exact k1, k2⟩
 · rcases k.blk i (Nat.lt_of_lt_of_le hi h.size) with k1 | ⟨ds, ds', t', ht', k1, k2⟩
   · exact .inr ⟨cs, cs', t, ht, h1, k1.trans h2⟩
   · rw [h2] at k1
     injection k1 with k1; injection k1 with k1 k3
     subst k3
     exact .inr ⟨cs, ds', t, ht, h1, k2⟩
structure Reach (u : TypeId) (w0 : World) (H : List World) (W : World) : Prop where
 first : BL w0 W
 at_ : ∀ (i : Nat) (h : World), H[i]? = some h → Lat u h W
theorem Reach.next {u : TypeId} {w0 : World} {H : List World} {W W' : World} (h : Reach u w0 H W) (k : BL W W') : Reach u w0 H W' :=
 ⟨below_then h.first h.first.size k, fun i x hx => (h.at_ i x hx).trans (.of_below k)⟩
theorem Reach.push {u : TypeId} {w0 : World} {H : List World} {W : World} (h : Reach u w0 H W) : Reach u w0 (H ++ [W]) W :=
 ⟨h.first, fun i x hx => by
  rw [List.getElem?_append] at hx
  split at hx
  · exact h.at_ i x hx
  · rename_i hi
    cases hj : i - H.length with
    | zero => rw [hj] at hx; simp at hx; subst hx; exact .refl _ _
    | succ j => rw [hj] at hx; simp at hx⟩
theorem Reach.zero {u : TypeId} (w : World) : Reach u w [] w := ⟨Below.refl _ _, fun i x hx => by simp at hx⟩
structure Bx where
 t : TypeId
 c : List Sy
 ro : Bool
inductive Kd where
 | val
 | fx
 | pk
 | ld (b o : Nat)
 | al (b : Nat)
 | cl (i : Nat) (f : FuncId) (args : List Sy) (nv : Nat) (bs : List Nat)
structure Pn where
 res : Sy
 need : Nat
 bs : List Nat
 kd : Kd
 full : Sy
structure Rg where
 n : Nat
 n0 : Nat
 nb : Nat
 F : List Sy
 bx : List Bx
 ps : List Pn
 ch : List Nat
instance : Inhabited Sy := ⟨.lit undef⟩
instance : Inhabited Kd := ⟨.val⟩
instance : Inhabited Pn := ⟨⟨default, 0, [], .val, default⟩⟩
def boolOf : Value → Bool | .bool b => b | _ => false
def tbF : List Value → Value | [v] => .bool (boolOf v) | _ => undef
def pkF : List Value → Value | [c, a, b] => .bool (if boolOf c then boolOf a else boolOf b) | _ => undef
def yieldsV : Value → Option Bool | .bool b => some b | _ => none
def grdv (want : Bool) (c v : Value) : Value := if yieldsV c = some want then v else undef
section
variable (P : Program) (ops : Array Oper) (R : Rg)
def Rg.p (k : Nat) : Pn := R.ps.getD k default
def dstO (k : Nat) : Option Tmp := (ops[k]?).bind (·.dst)
def grdO (k : Nat) : Option (Nat × Bool) := (ops[k]?).bind (·.guard)
def Kd.call : Kd → Bool | .cl .. => true | _ => false
def Kd.ci : Kd → Nat | .cl i .. => i | _ => 0
def Kd.nv : Kd → Nat | .cl _ _ _ n _ => n | _ => 0
def Pn.after (p : Pn) : Nat := match p.kd with | .cl i .. => i + 1 | _ => p.need
def nvAt (m : Nat) : Nat := R.n0 + ((R.ch.take m).map fun k => (R.p k).kd.nv).sum
def slotOf (s : Tmp) : Option Nat := (List.range R.n).find? fun j => dstO ops j == some s
def slotSy (gk : Option (Nat × Bool)) (s : Tmp) : Sy :=
 match slotOf ops R s with
 | some j => if grdO ops j == gk then (R.p j).res else (R.p j).full
 | none => R.F.getD s default
def rho (gk : Option (Nat × Bool)) (E : List Value) (g : Nat → Nat) : Operand → Value
 | .tmp s => (slotSy ops R gk s).ev E g
 | .const v => v
 | .global g => .pointer (some ⟨g, 0, none⟩)
 | .func f => .func (.func f) #[] #[]
structure Cp where
 f : FuncId
 args : List Sy
 nv : Nat
 res : Sy
 bs : List Nat
 grd : Option (Sy × Bool)
def cpOf (k : Nat) : Cp :=
 match (R.p k).kd with
 | .cl _ f args nv bs => ⟨f, args, nv, (R.p k).res, bs, (grdO ops k).map fun (j, w) => ((R.p j).full, w)⟩
 | _ => ⟨0, [], 0, default, [], none⟩
def Obl (u : TypeId) (w0 : World) (bx : List Bx) (Fin : List Value → List World → Prop) : List Cp → List Value → List World → Prop
 | [], E, H => Fin E H
 | c :: cs, E, H =>
   match c.grd with
   | none => ∀ W g, Reach u w0 H W → (∀ b ∈ c.bs, ∀ x, bx[b]? = some x → W.heap[g b]? = some (.cells (Sy.evs E g x.c).toArray x.t (0, 0))) →
      Calls P c.f (Sy.evs E g c.args).toArray W fun e W' => ∃ xs : List Value, xs.length = c.nv ∧ (xs.all (·.oneCell')) = true ∧ e = .returned (c.res.ev (E ++ xs) g) ∧ BL W W' ∧ Obl u w0 bx Fin cs (E ++ xs) (H ++ [W'])
   | some (s, want) => (yieldsV (s.ev E fun _ => 0) = some want → ∀ W g, Reach u w0 H W → (∀ b ∈ c.bs, ∀ x, bx[b]? = some x → W.heap[g b]? = some (.cells (Sy.evs E g x.c).toArray x.t (0, 0))) →
      Calls P c.f (Sy.evs E g c.args).toArray W fun e W' => ∃ xs : List Value, xs.length = c.nv ∧ (xs.all (·.oneCell')) = true ∧ e = .returned (c.res.ev (E ++ xs) g) ∧ BL W W' ∧ Obl u w0 bx Fin cs (E ++ xs) (H ++ [W'])) ∧
     (yieldsV (s.ev E fun _ => 0) ≠ some want → Obl u w0 bx Fin cs (E ++ List.replicate c.nv (.bool false)) H)
inductive Out where
 | n (x : Option Next)
 | l (p : Value) (x : Option Value)
 | a (x : Option (Next × Obj))
 | c (x : Value) (l : Array Value)
 | s (p : Value) (vs : List Value) (n : Option Nat) (ok : List Bool)
 | bad
def lhsK (E : List Value) (g : Nat → Nat) (k : Nat) : Out :=
 match ops[k]? with
 | none => .bad
 | some o =>
   let ρ := rho ops R o.guard E g
   match (R.p k).kd with
   | .val => .n (runP P (execOp ρ o))
   | .fx => .n (some (.value ((R.p k).res.ev E g)))
   | .pk => match o.op with
     | .pick (.tmp s) y z => (match slotOf ops R s with
       | some j => .s undef [rho ops R o.guard E g (.tmp s), rho ops R (some (j, true)) E g y, rho ops R (some (j, false)) E g z, (R.p k).res.ev E g] none []
       | none => .bad)
     | _ => .bad
   | .ld b off => match o.op with | .load t x => .l (ρ x) (loadB P t (Sy.evs E g ((R.bx.map (·.c)).getD b [])) off) | _ => .bad
   | .al b => .a (runA P (g b) (execOp ρ o))
   | .cl .. => match o.op with | .call c => (match c.callee with | .value x => (match ρ x with | .func fn fs cs => .c (.func fn #[] #[]) (fs ++ c.args.map ρ ++ cs) | _ => .bad) | _ => .bad) | _ => .bad
def rhsK (ops : Array Oper) (R : Rg) (E : List Value) (g : Nat → Nat) (k : Nat) : Out :=
 match (R.p k).kd with
 | .val | .fx => .n (some (.value ((R.p k).res.ev E g)))
 | .pk => match ops[k]? with
   | some o => (match o.op with
     | .pick (.tmp s) y z => (match slotOf ops R s with
       | some j => .s undef [tbF [rho ops R o.guard E g (.tmp s)], tbF [rho ops R (some (j, true)) E g y], tbF [rho ops R (some (j, false)) E g z], pkF [rho ops R o.guard E g (.tmp s), rho ops R (some (j, true)) E g y, rho ops R (some (j, false)) E g z]] none []
       | none => .l undef none)
     | _ => .l undef none)
   | none => .l undef none
 | .ld b off => .l (.pointer (some ⟨g b, off, none⟩)) (some ((R.p k).res.ev E g))
 | .al b => .a (some (.value ((R.p k).res.ev E g), .cells (Sy.evs E g ((R.bx.map (·.c)).getD b [])).toArray ((R.bx.map (·.t)).getD b 0) (0, 0)))
 | .cl _ f args _ _ => .c (.func (.func f) #[] #[]) (Sy.evs E g args).toArray
def grdK (E : List Value) (g : Nat → Nat) (k : Nat) : Value :=
 match grdO ops k with
 | none => (R.p k).res.ev E g
 | some (j, w) => grdv w ((R.p j).full.ev E g) ((R.p k).res.ev E g)
def tmpsOf (o : Oper) : List Tmp := o.op.operands.toList.filterMap fun | .tmp t => some t | _ => none
def edge (k j : Nat) : Bool := ((ops[k]?).map fun o => o.after.any fun e => Region.binds .any e && e.on == j).getD false
def gal (b : Nat) : Bool := (List.range R.n).any fun j => (match (R.p j).kd with | .al b' => b == b' | _ => false) && (grdO ops j).isSome
def leans (k j b : Nat) : Bool := !gal ops R b || grdO ops j == grdO ops k
def hits : Nat → Nat → Nat → Bool
 | 0, k, j => edge ops k j
 | f + 1, k, j => edge ops k j || (List.range k).any fun i => edge ops k i && hits f i j
def allowed (p : Pn) : List Nat := List.range R.nb ++ p.bs
def staticK (k : Nat) : Bool :=
 match ops[k]? with
 | none => false
 | some o =>
   let p := R.p k
   noSel o &&
   (match o.dst with | some d => decide (d < R.F.length) && (List.range k).all (fun j => dstO ops j != some d) | none => false) &&
   (tmpsOf o).all (fun s => (List.range R.n).all fun j => dstO ops j != some s || edge ops k j) &&
   (match o.guard with | none => true | some (j, _) => decide (j < k) && edge ops k j && (R.p j).full.ok (nvAt R p.need) []) &&
   (p.need == 0 || (List.range k).any fun j => edge ops k j && decide (p.need ≤ (R.p j).after)) &&
   p.bs.all (fun b => (match p.kd with | .al b' => b == b' | _ => false) || (List.range k).any fun j => edge ops k j && (R.p j).bs.contains b && leans ops R k j b) &&
   (match p.kd with
     | .val | .fx | .pk => p.res.ok (nvAt R p.need) (allowed R p) && p.full.ok (nvAt R p.need) (allowed R p)
     | .ld b _ => decide (b < R.nb) && decide (b < R.bx.length) && p.res.ok (nvAt R p.need) (allowed R p) && p.full.ok (nvAt R p.need) (allowed R p)
     | .al b => decide (R.nb ≤ b) && decide (b < R.bx.length) && p.bs.contains b && p.res.ok (nvAt R p.need) (allowed R p) && p.full.ok (nvAt R p.need) (allowed R p) &&
        Sy.oks (nvAt R p.need) (allowed R p) ((R.bx.map (·.c)).getD b []) && (List.range k).all (fun j => match (R.p j).kd with | .al b' => b != b' | _ => true)
     | .cl i f args nv bs => p.need == i && R.ch[i]? == some k && (i == 0 || hits ops 3 k (R.ch.getD (i - 1) 0)) && p.res.ok (nvAt R (i + 1)) [] && p.full.ok (nvAt R (i + 1)) (allowed R p) &&
        Sy.oks (nvAt R i) bs args && bs.all (fun b => decide (b < R.nb) || (List.range k).any fun j => edge ops k j && (R.p j).bs.contains b && leans ops R k j b) && bs.all (fun b => Sy.oks (nvAt R i) bs ((R.bx.map (·.c)).getD b [])))
end
section
variable {P : Program} {ops : Array Oper} {R : Rg} {u : TypeId} {w0 : World} {Fin : List Value → List World → Prop} {Pr : List Value → Prop}
def Tk (ops : Array Oper) (R : Rg) (j : Nat) (E : List Value) : Prop :=
 match grdO ops j with | none => True | some (i, w) => yieldsV ((R.p i).full.ev E fun _ => 0) = some w
def alive (ops : Array Oper) (R : Rg) (L : Nat → Bool) (E : List Value) (b : Nat) : Prop := b < R.nb ∨ ∃ j, j < R.n ∧ L j = true ∧ (R.p j).kd = .al b ∧ Tk ops R j E
structure Inv (P : Program) (ops : Array Oper) (R : Rg) (u : TypeId) (w0 : World) (Fin : List Value → List World → Prop) (Pr : List Value → Prop) (L : Nat → Bool) (m : Nat) (E : List Value) (g : Nat → Nat) (H : List World) (a : Act) (W : World) : Prop where
 defers : a.defers = []
 size : a.tmps.size = R.F.length
 old : ∀ s, (∀ j, j < R.n → L j = true → dstO ops j ≠ some s) → a.tmps.getD s undef = (R.F.getD s default).ev E g
 new : ∀ j d, j < R.n → L j = true → dstO ops j = some d → a.tmps.getD d undef = (R.p j).full.ev E g
 len : E.length = nvAt R m
 one : (E.all (·.oneCell')) = true
 pre : Pr E
 call : ∀ k, k < R.n → (R.p k).kd.call = true → (L k = true ↔ (R.p k).kd.ci < m)
 need : ∀ j, j < R.n → L j = true → (R.p j).after ≤ m
 clos : ∀ j o, ops[j]? = some o → L j = true → ∀ e ∈ o.after, Region.binds .any e = true → L e.on = true
 box : ∀ b x, alive ops R L E b → R.bx[b]? = some x → W.heap[g b]? = some (.cells (Sy.evs E g x.c).toArray x.t (0, 0))
 low : ∀ b x, alive ops R L E b → R.bx[b]? = some x → (x.ro = false → w0.heap.size ≤ g b) ∧ g b < W.heap.size
 inj : ∀ b b' x x', alive ops R L E b → alive ops R L E b' → R.bx[b]? = some x → R.bx[b']? = some x' → (x.ro = false ∨ x'.ro = false) → g b = g b' → b = b'
 isb : ∀ b, alive ops R L E b → ∃ x, R.bx[b]? = some x
 bsok : ∀ j, j < R.n → L j = true → ∀ b ∈ (R.p j).bs, (gal ops R b = true → Tk ops R j E) → alive ops R L E b
 obl : Obl P u w0 R.bx Fin ((R.ch.drop m).map (cpOf ops R)) E H
 reach : Reach u w0 H W
structure Sta (P : Program) (ops : Array Oper) (R : Rg) (Pr : List Value → Prop) : Prop where
 n : R.n ≤ ops.size
 k : ∀ k, k < R.n → staticK ops R k = true
 sem : ∀ k, k < R.n → ∀ E g, Pr E → lhsK P ops R E g k = rhsK ops R E g k ∧ (R.p k).full.ev E g = grdK ops R E g k
 F : Sy.oks R.n0 (List.range R.nb) R.F = true
 bx : ∀ b x, b < R.nb → R.bx[b]? = some x → Sy.oks R.n0 (List.range R.nb) x.c = true
 ch : ∀ i k, R.ch[i]? = some k → k < R.n ∧ (R.p k).kd.call = true ∧ (R.p k).kd.ci = i
 al : ∀ b, R.nb ≤ b → b < R.bx.length → ∃ j, j < R.n ∧ (R.p j).kd = .al b
 fx : ∀ k o, k < R.n → ops[k]? = some o → (R.p k).kd = .fx → ∀ E g, Pr E → runP P (execOp (rho ops R o.guard E g) o) = some (.value ((R.p k).res.ev E g))
 ent : ∀ k, k < R.n → ∀ i f args nv bs, (R.p k).kd = .cl i f args nv bs → Enters P f
theorem nvAt_mono {m m' : Nat} (h : m ≤ m') : nvAt R m ≤ nvAt R m' := by
 unfold nvAt
 have : R.ch.take m' = R.ch.take m ++ (R.ch.drop m).take (m' - m) := by
  rw [← List.take_add]; congr 1; omega
 rw [this, List.map_append, List.sum_append]; omega
theorem nvAt_zero : R.n0 ≤ nvAt R 0 := by simp [nvAt]
theorem oks_of_getD {n : Nat} {B : List Nat} : ∀ {l : List Sy} (i : Nat), Sy.oks n B l = true → (l.getD i default).ok n B = true
 | [], i, _ => by simp [default, Sy.ok]
 | a :: r, 0, h => by simp only [Sy.oks, Bool.and_eq_true] at h; simpa using h.1
 | a :: r, i + 1, h => by
   simp only [Sy.oks, Bool.and_eq_true] at h
   simpa using oks_of_getD i h.2
theorem edge_of (k j : Nat) {o : Oper} (ho : ops[k]? = some o) (h : edge ops k j = true) : ∃ e ∈ o.after, Region.binds .any e = true ∧ e.on = j := by
 simp only [edge, ho, Option.map_some, Option.getD_some, Array.any_eq_true'] at h
 obtain ⟨e, he, h2⟩ := h
 simp only [Bool.and_eq_true, beq_iff_eq] at h2
 exact ⟨e, he, h2.1, h2.2⟩
theorem slot_some {s j : Nat} (h : slotOf ops R s = some j) : j < R.n ∧ dstO ops j = some s := by
 unfold slotOf at h
 have h1 := List.find?_some h
 have h2 := List.mem_of_find?_eq_some h
 exact ⟨List.mem_range.1 h2, by simpa using h1⟩
theorem slot_none {s : Nat} (h : slotOf ops R s = none) (j : Nat) (hj : j < R.n) : dstO ops j ≠ some s := by
 unfold slotOf at h
 have := List.find?_eq_none.1 h j (List.mem_range.2 hj)
 simpa using this
def Wn (R : Rg) (gk : Option (Nat × Bool)) (E : List Value) (g : Nat → Nat) : Prop :=
 match gk with | none => True | some (j, w) => yieldsV ((R.p j).full.ev E g) = some w
section
variable {L : Nat → Bool} {m : Nat} {E : List Value} {g : Nat → Nat} {H : List World} {a : Act} {W : World} {k : Nat} {o : Oper}
structure StK (ops : Array Oper) (R : Rg) (k : Nat) (o : Oper) : Prop where
 sel : noSel o = true
 dst : ∃ d, o.dst = some d ∧ d < R.F.length ∧ ∀ j, j < k → dstO ops j ≠ some d
 tm : ∀ s ∈ tmpsOf o, ∀ j, j < R.n → dstO ops j = some s → edge ops k j = true
 grd : ∀ j w, o.guard = some (j, w) → j < k ∧ edge ops k j = true ∧ True ∧ (R.p j).full.ok (nvAt R (R.p k).need) [] = true
 need : (R.p k).need = 0 ∨ ∃ j, j < k ∧ edge ops k j = true ∧ (R.p k).need ≤ (R.p j).after
 bs : ∀ b ∈ (R.p k).bs, (R.p k).kd = .al b ∨ ∃ j, j < k ∧ edge ops k j = true ∧ b ∈ (R.p j).bs ∧ leans ops R k j b = true
 full : (R.p k).full.ok (nvAt R (R.p k).after) (allowed R (R.p k)) = true
 res : (R.p k).res.ok (nvAt R (R.p k).after) (allowed R (R.p k)) = true
theorem stK (S : Sta P ops R Pr) (hk : k < R.n) (ho : ops[k]? = some o) : StK ops R k o := by
 have h := S.k k hk
 unfold staticK at h
 rw [ho] at h
 simp only [Bool.and_eq_true] at h
 obtain ⟨⟨⟨⟨⟨⟨h1, h2⟩, h3⟩, h4⟩, h5⟩, h6⟩, h7⟩ := h
 refine ⟨h1, ?_, ?_, ?_, ?_, ?_, ?_, ?_⟩
 · cases hd : o.dst with
   | none => rw [hd] at h2; cases h2
   | some d =>
     rw [hd] at h2
     simp only [Bool.and_eq_true, decide_eq_true_eq, List.all_eq_true, List.mem_range, bne_iff_ne] at h2
     exact ⟨d, rfl, h2.1, h2.2⟩
 · intro s hs j hj hd
   rw [List.all_eq_true] at h3
   have := h3 s hs
   rw [List.all_eq_true] at this
   have := this j (List.mem_range.2 hj)
   simpa [hd] using this
 · intro j w hg
   rw [hg] at h4
   simp only [Bool.and_eq_true, decide_eq_true_eq] at h4
   exact ⟨h4.1.1, h4.1.2, trivial, h4.2⟩
 · simp only [Bool.or_eq_true, beq_iff_eq, List.any_eq_true, List.mem_range, Bool.and_eq_true, decide_eq_true_eq] at h5
   rcases h5 with h | ⟨j, hj, h8, h9⟩
   · exact .inl h
   · exact .inr ⟨j, hj, h8, h9⟩
 · intro b hb
   rw [List.all_eq_true] at h6
   have := h6 b hb
   simp only [Bool.or_eq_true, List.any_eq_true, List.mem_range, Bool.and_eq_true, List.contains_iff_mem] at this
   rcases this with h | ⟨j, hj, ⟨h8, h9⟩, h10⟩
   · left
     cases hkd : (R.p k).kd with
     | al b' => rw [hkd] at h; simp at h; rw [h]
     | _ => rw [hkd] at h; cases h
   · exact .inr ⟨j, hj, h8, h9, h10⟩
 · cases hkd : (R.p k).kd with
   | val => rw [hkd] at h7; simp only [Bool.and_eq_true] at h7; simpa [Pn.after, hkd] using h7.2
   | fx => rw [hkd] at h7; simp only [Bool.and_eq_true] at h7; simpa [Pn.after, hkd] using h7.2
   | pk => rw [hkd] at h7; simp only [Bool.and_eq_true] at h7; simpa [Pn.after, hkd] using h7.2
   | ld b c => rw [hkd] at h7; simp only [Bool.and_eq_true] at h7; simpa [Pn.after, hkd] using h7.2
   | al b => rw [hkd] at h7; simp only [Bool.and_eq_true] at h7; simpa [Pn.after, hkd] using h7.1.1.2
   | cl i f args nv bs => rw [hkd] at h7; simp only [Bool.and_eq_true] at h7; simpa [Pn.after, hkd] using h7.1.1.1.2
 · cases hkd : (R.p k).kd with
   | val => rw [hkd] at h7; simp only [Bool.and_eq_true] at h7; simpa [Pn.after, hkd] using h7.1
   | fx => rw [hkd] at h7; simp only [Bool.and_eq_true] at h7; simpa [Pn.after, hkd] using h7.1
   | pk => rw [hkd] at h7; simp only [Bool.and_eq_true] at h7; simpa [Pn.after, hkd] using h7.1
   | ld b c => rw [hkd] at h7; simp only [Bool.and_eq_true] at h7; simpa [Pn.after, hkd] using h7.1.2
   | al b => rw [hkd] at h7; simp only [Bool.and_eq_true] at h7; simpa [Pn.after, hkd] using h7.1.1.1.2
   | cl i f args nv bs =>
     rw [hkd] at h7; simp only [Bool.and_eq_true] at h7
     have := h7.1.1.1.1.2
     simp only [Pn.after, hkd]
     exact Sy.ok_more (Nat.le_refl _) (fun b hb => by cases hb) _ this
theorem eval_told {gk : Option (Nat × Bool)} (S : Sta P ops R Pr) (I : Inv P ops R u w0 Fin Pr L m E g H a W) (hk : k < R.n) (ho : ops[k]? = some o) (haft : ∀ e ∈ o.after, Region.binds .any e = true → L e.on = true) (hw : Wn R gk E g) :
 ∀ x ∈ o.op.operands, a.eval x = rho ops R gk E g x := by
 intro x hx
 cases x with
 | const v => rfl
 | global v => rfl
 | func f => rfl
 | tmp s =>
   have hs : s ∈ tmpsOf o := by
    unfold tmpsOf
    rw [List.mem_filterMap]
    exact ⟨.tmp s, by simpa using hx, rfl⟩
   show a.tmps.getD s undef = (slotSy ops R gk s).ev E g
   unfold slotSy
   cases hsl : slotOf ops R s with
   | none =>
     exact I.old s fun j hj _ => slot_none hsl j hj
   | some j =>
     obtain ⟨hj, hd⟩ := slot_some hsl
     obtain ⟨e, he, hb, rfl⟩ := edge_of k j ho ((stK S hk ho).tm s hs j hj hd)
     have hL := haft e he hb
     rw [I.new _ s hj hL hd]
     dsimp only
     split
     · rename_i hgg
       rw [(S.sem _ hj E g I.pre).2]
       unfold grdK
       have hgg' : grdO ops e.on = gk := by simpa using hgg
       rw [hgg']
       cases hgd : gk with
       | none => rfl
       | some p =>
         obtain ⟨i, w⟩ := p
         rw [hgd] at hw
         simp only [Wn] at hw
         simp [grdv, hw]
     · rfl
theorem wanted_iff (S : Sta P ops R Pr) (I : Inv P ops R u w0 Fin Pr L m E g H a W) (hk : k < R.n) (ho : ops[k]? = some o) (haft : ∀ e ∈ o.after, Region.binds .any e = true → L e.on = true) :
 Region.wanted o (yielded ops a.tmps) = true ↔ Wn R o.guard E g := by
 unfold Region.wanted Wn
 cases hgd : o.guard with
 | none => simp
 | some p =>
   obtain ⟨j, w⟩ := p
   obtain ⟨h1, h2, -, -⟩ := (stK S hk ho).grd j w hgd
   obtain ⟨e, he, hb, rfl⟩ := edge_of k j ho h2
   have hL := haft e he hb
   have hj : e.on < R.n := Nat.lt_trans h1 hk
   have hj2 : e.on < ops.size := Nat.lt_of_lt_of_le hj S.n
   obtain ⟨d, hd, hdl, -⟩ := (stK S hj (Array.getElem?_eq_getElem hj2)).dst
   have hdo : dstO ops e.on = some d := by simp [dstO, Array.getElem?_eq_getElem hj2, hd]
   have hv := I.new _ d hj hL hdo
   have hsz : d < a.tmps.size := by rw [I.size]; exact hdl
   have : yielded ops a.tmps e.on = yieldsV ((R.p e.on).full.ev E g) := by
    unfold yielded
    rw [show ((ops[e.on]?).bind (·.dst)) = some d from hdo]
    simp only [Option.bind_some]
    rw [← hv]
    rw [Array.getElem?_eq_getElem hsz]
    simp only [Array.getD, hsz, dif_pos]
    show (match some a.tmps[d] with | some (Value.bool b) => some b | _ => none) = yieldsV a.tmps[d]
    cases a.tmps[d] <;> rfl
   simp only [this, beq_iff_eq]
end
end
section
variable {P : Program} {ops : Array Oper} {R : Rg} {u : TypeId} {w0 : World} {Fin : List Value → List World → Prop} {Pr : List Value → Prop}
variable {L : Nat → Bool} {m m' : Nat} {E E' : List Value} {g g' : Nat → Nat} {H H' : List World} {a : Act} {W W' : World} {k : Nat} {o : Oper}
structure AlK (R : Rg) (ops : Array Oper) (k b : Nat) : Prop where
 ge : R.nb ≤ b
 lt : b < R.bx.length
 mem : b ∈ (R.p k).bs
 ok : Sy.oks (nvAt R (R.p k).need) (allowed R (R.p k)) ((R.bx.map (·.c)).getD b []) = true
 uniq : ∀ j, j < k → (R.p j).kd ≠ .al b
theorem alK (S : Sta P ops R Pr) (hk : k < R.n) {b : Nat} (h : (R.p k).kd = .al b) : AlK R ops k b := by
 have hs := S.k k hk
 unfold staticK at hs
 cases ho : ops[k]? with
 | none => rw [ho] at hs; cases hs
 | some o =>
   rw [ho] at hs
   simp only [Bool.and_eq_true] at hs
   have h7 := hs.2
   rw [h] at h7
   simp only [Bool.and_eq_true, decide_eq_true_eq, List.contains_iff_mem, List.all_eq_true, List.mem_range] at h7
   obtain ⟨⟨⟨⟨⟨⟨h1, h2⟩, h3⟩, h4⟩, h5⟩, h6⟩, h8⟩ := h7
   refine ⟨h1, h2, h3, h6, ?_⟩
   intro j hj he
   have := h8 j hj
   rw [he] at this; simp at this
theorem cGet {b : Nat} {x : Bx} (h : R.bx[b]? = some x) : (R.bx.map (·.c)).getD b [] = x.c ∧ (R.bx.map (·.t)).getD b 0 = x.t := by
 simp [List.getD_eq_getElem?_getD, h]
theorem after_le (S : Sta P ops R Pr) (I : Inv P ops R u w0 Fin Pr L m E g H a W) {j : Nat} (hj : j < R.n) (hL : L j = true) : nvAt R (R.p j).after ≤ E.length := by
 rw [I.len]; exact nvAt_mono (I.need j hj hL)
theorem alive_allowed (I : Inv P ops R u w0 Fin Pr L m E g H a W) {j : Nat} (hj : j < R.n) (hL : L j = true) (ht : Tk ops R j E) : ∀ b ∈ allowed R (R.p j), alive ops R L E b := by
 intro b hb
 unfold allowed at hb
 rcases List.mem_append.1 hb with h | h
 · exact .inl (List.mem_range.1 h)
 · exact I.bsok j hj hL b h fun _ => ht
theorem guard_ev (S : Sta P ops R Pr) {j i : Nat} {w : Bool} (hj : j < R.n) (hg : grdO ops j = some (i, w)) : i < j ∧ edge ops j i = true ∧ (R.p i).full.ok (nvAt R (R.p j).need) [] = true := by
 have hj2 : j < ops.size := Nat.lt_of_lt_of_le hj S.n
 have ho := Array.getElem?_eq_getElem hj2
 have : ops[j].guard = some (i, w) := by simpa [grdO, ho] using hg
 obtain ⟨h1, h2, -, h3⟩ := (stK S hj ho).grd i w this
 exact ⟨h1, h2, h3⟩
theorem need_le (S : Sta P ops R Pr) {j : Nat} (hj : j < R.n) : (R.p j).need ≤ (R.p j).after := by
 have hs := S.k j hj
 unfold staticK at hs
 cases hoi : ops[j]? with
 | none => rw [hoi] at hs; cases hs
 | some o' =>
   rw [hoi] at hs
   simp only [Bool.and_eq_true] at hs
   have h7 := hs.2
   cases hkd : (R.p j).kd with
   | cl i' f args nv bs =>
     rw [hkd] at h7
     simp only [Bool.and_eq_true] at h7
     have := h7.1.1.1.1.1.1.1
     simp only [beq_iff_eq] at this
     simp only [Pn.after, hkd]; omega
   | _ => simp [Pn.after, hkd]
theorem not_gal {b : Nat} {j : Nat} (hj : j < R.n) (hkd : (R.p j).kd = .al b) (hg : gal ops R b = true → Tk ops R j E) : Tk ops R j E := by
 cases hgal : gal ops R b with
 | true => exact hg hgal
 | false =>
   unfold gal at hgal
   rw [List.any_eq_false] at hgal
   have := hgal j (List.mem_range.2 hj)
   rw [hkd] at this
   unfold Tk
   cases hgo : grdO ops j with
   | none => trivial
   | some p => rw [hgo] at this; simp at this
theorem leans_tk {k j b : Nat} (h : leans ops R k j b = true) (hg : gal ops R b = true) (ht : Tk ops R k E) : Tk ops R j E := by
 unfold leans at h
 rw [hg] at h
 simp only [Bool.not_true, Bool.false_or, beq_iff_eq] at h
 unfold Tk
 rw [h]; exact ht
theorem tk_kept (S : Sta P ops R Pr) {j : Nat} (hj : j < R.n) (hn : nvAt R (R.p j).need ≤ E.length) (hE : ∀ i, i < E.length → E'.getD i undef = E.getD i undef) : Tk ops R j E' ↔ Tk ops R j E := by
 unfold Tk
 cases hg : grdO ops j with
 | none => exact Iff.rfl
 | some p =>
   obtain ⟨i, w⟩ := p
   have h := (guard_ev S hj hg).2.2
   have : (R.p i).full.ev E' (fun _ => 0) = (R.p i).full.ev E (fun _ => 0) := Sy.ev_mono (fun i hi => hE i (Nat.lt_of_lt_of_le hi hn)) (fun b hb => by cases hb) _ h
   simp only [this]
theorem al_kept (S : Sta P ops R Pr) (I : Inv P ops R u w0 Fin Pr L m E g H a W) (hE : ∀ i, i < E.length → E'.getD i undef = E.getD i undef) (hg : ∀ b, alive ops R L E b → g' b = g b) {b : Nat} {x : Bx} (hb : alive ops R L E b) (hx : R.bx[b]? = some x) : Sy.evs E' g' x.c = Sy.evs E g x.c := by
 rcases hb with h | ⟨j, hj, hL, hkd, ht⟩
 · refine Sy.evs_mono (n := R.n0) (B := List.range R.nb) (fun i hi => hE i (Nat.lt_of_lt_of_le hi ?_)) (fun b hb => hg b (.inl (List.mem_range.1 hb))) _ (S.bx b x h hx)
   rw [I.len]; exact Nat.le_trans nvAt_zero (nvAt_mono (Nat.zero_le _))
 · have ha := alK S hj hkd
   have hok := ha.ok
   rw [(cGet hx).1] at hok
   refine Sy.evs_mono (fun i hi => hE i (Nat.lt_of_lt_of_le hi ?_)) (fun b hb => hg b (alive_allowed I hj hL ht b hb)) _ hok
   have := after_le S I hj hL
   rwa [show (R.p j).after = (R.p j).need by simp [Pn.after, hkd]] at this
theorem tk_old (S : Sta P ops R Pr) (I : Inv P ops R u w0 Fin Pr L m E g H a W) {j : Nat} (hj : j < R.n) (hL : L j = true) (hE : ∀ i, i < E.length → E'.getD i undef = E.getD i undef) : Tk ops R j E' ↔ Tk ops R j E :=
 tk_kept S hj (Nat.le_trans (nvAt_mono (need_le S hj)) (after_le S I hj hL)) hE
theorem full_kept (S : Sta P ops R Pr) (I : Inv P ops R u w0 Fin Pr L m E g H a W) (hE : ∀ i, i < E.length → E'.getD i undef = E.getD i undef) (hg : ∀ b, alive ops R L E b → g' b = g b) (hp : Pr E') {j : Nat} (hj : j < R.n) (hL : L j = true) : (R.p j).full.ev E' g' = (R.p j).full.ev E g := by
 have hj2 : j < ops.size := Nat.lt_of_lt_of_le hj S.n
 by_cases ht : Tk ops R j E
 · exact Sy.ev_mono (fun i hi => hE i (Nat.lt_of_lt_of_le hi (after_le S I hj hL))) (fun b hb => hg b (alive_allowed I hj hL ht b hb)) _ (stK S hj (Array.getElem?_eq_getElem hj2)).full
 · rw [(S.sem j hj E' g' hp).2, (S.sem j hj E g I.pre).2]
   unfold Tk at ht
   unfold grdK
   cases hgd : grdO ops j with
   | none => rw [hgd] at ht; exact absurd trivial ht
   | some p =>
     obtain ⟨i, w⟩ := p
     rw [hgd] at ht
     have h := (guard_ev S hj hgd).2.2
     have hn := Nat.le_trans (nvAt_mono (need_le S hj)) (after_le S I hj hL)
     have e1 : (R.p i).full.ev E' g' = (R.p i).full.ev E (fun _ => 0) := Sy.ev_mono (fun i hi => hE i (Nat.lt_of_lt_of_le hi hn)) (fun b hb => by cases hb) _ h
     have e2 : (R.p i).full.ev E g = (R.p i).full.ev E (fun _ => 0) := Sy.ev_mono (fun i hi => rfl) (fun b hb => by cases hb) _ h
     simp only [grdv, e1, e2]
     rw [if_neg ht, if_neg ht]
theorem hits_closed {L : Nat → Bool} (hcl : ∀ j o, ops[j]? = some o → L j = true → ∀ e ∈ o.after, Region.binds .any e = true → L e.on = true) : ∀ (f k j : Nat), hits ops f k j = true → (∀ i, edge ops k i = true → L i = true) → L j = true
 | 0, k, j, h, hk => hk j h
 | f + 1, k, j, h, hk => by
   simp only [hits, Bool.or_eq_true, List.any_eq_true, List.mem_range, Bool.and_eq_true] at h
   rcases h with h | ⟨i, _, h1, h2⟩
   · exact hk j h
   · refine hits_closed hcl f i j h2 (fun i' hi' => ?_)
     have hLi := hk i h1
     cases ho : ops[i]? with
     | none => simp [edge, ho] at hi'
     | some o =>
       obtain ⟨e, he, hb, rfl⟩ := edge_of i i' ho hi'
       exact hcl i o ho hLi e he hb
def add (L : Nat → Bool) (k : Nat) : Nat → Bool := fun j => L j || j == k
theorem add_k (L : Nat → Bool) (k : Nat) : add L k k = true := by simp [add]
theorem add_of {j : Nat} (h : L j = true) : add L k j = true := by simp [add, h]
theorem add_ne {j : Nat} (h : add L k j = true) (hn : j ≠ k) : L j = true := by
 simpa [add, hn] using h
theorem inv_next (S : Sta P ops R Pr) (I : Inv P ops R u w0 Fin Pr L m E g H a W) (hk : k < R.n) (ho : ops[k]? = some o) (hLk : L k = false) (haft : ∀ e ∈ o.after, Region.binds .any e = true → L e.on = true)
 (hm1 : (R.p k).kd.call = true → m' = m + 1 ∧ (R.p k).kd.ci = m) (hm2 : (R.p k).kd.call = false → m' = m)
 (hE : ∀ i, i < E.length → E'.getD i undef = E.getD i undef) (hg : ∀ b, alive ops R L E b → g' b = g b) (hlen : E'.length = nvAt R m') (hone : (E'.all (·.oneCell')) = true) (hpre : Pr E')
 (hW : ∀ b, alive ops R L E b → W'.heap[g b]? = W.heap[g b]?) (hsz : W.heap.size ≤ W'.heap.size)
 (hnew : ∀ b x, (R.p k).kd = .al b → Tk ops R k E' → R.bx[b]? = some x → W'.heap[g' b]? = some (.cells (Sy.evs E' g' x.c).toArray x.t (0, 0)) ∧ W.heap.size ≤ g' b ∧ g' b < W'.heap.size)
 (hneed : (R.p k).after ≤ m') (hw0 : w0.heap.size ≤ W.heap.size)
 (hobl : Obl P u w0 R.bx Fin ((R.ch.drop m').map (cpOf ops R)) E' H') (hreach : Reach u w0 H' W') {v : Value} (hv : v = (R.p k).full.ev E' g') :
 Inv P ops R u w0 Fin Pr (add L k) m' E' g' H' (a.put o.dst v) W' := by
 have hst := stK S hk ho
 obtain ⟨d, hd, hdl, hdu⟩ := hst.dst
 have hdo : dstO ops k = some d := by simp [dstO, ho, hd]
 have hmm : m ≤ m' := by
  cases hc : (R.p k).kd.call with
  | true => have := (hm1 hc).1; omega
  | false => have := hm2 hc; omega
 have hput : a.put o.dst v = { tmps := a.tmps.setIfInBounds d v, defers := [] } := by
  rw [hd]; simp [Act.put, I.defers]
 have hget : ∀ s, (a.tmps.setIfInBounds d v).getD s undef = if s = d then v else a.tmps.getD s undef := by
  intro s
  rw [Array.getD_eq_getD_getElem?, Array.getElem?_setIfInBounds]
  by_cases h : d = s
  · subst h
    rw [if_pos rfl, if_pos rfl]
    simp [I.size, hdl]
  · rw [if_neg h, if_neg (Ne.symm h), Array.getD_eq_getD_getElem?]
 have hdne : ∀ j d', j < R.n → j ≠ k → dstO ops j = some d' → d' ≠ d := by
  intro j d' hj hjk hjd he
  subst he
  rcases Nat.lt_or_gt_of_ne hjk with h | h
  · exact hdu j h hjd
  · have hj2 : j < ops.size := Nat.lt_of_lt_of_le hj S.n
    obtain ⟨d2, hd2, -, h3⟩ := (stK S hj (Array.getElem?_eq_getElem hj2)).dst
    have : dstO ops j = some d2 := by simp [dstO, Array.getElem?_eq_getElem hj2, hd2]
    rw [this] at hjd
    injection hjd with hjd
    subst hjd
    exact h3 k h hdo
 have hfull : ∀ j, j < R.n → L j = true → (R.p j).full.ev E' g' = (R.p j).full.ev E g := fun j hj hL => full_kept S I hE hg hpre hj hL
 have halive : ∀ b, alive ops R (add L k) E' b → alive ops R L E b ∨ ((R.p k).kd = .al b ∧ Tk ops R k E') := by
  rintro b (h | ⟨j, hj, hL, hkd, ht⟩)
  · exact .inl (.inl h)
  · by_cases hjk : j = k
    · subst hjk; exact .inr ⟨hkd, ht⟩
    · exact .inl (.inr ⟨j, hj, add_ne hL hjk, hkd, (tk_old S I hj (add_ne hL hjk) hE).1 ht⟩)
 have halive2 : ∀ b, alive ops R L E b → alive ops R (add L k) E' b := by
  rintro b (h | ⟨j, hj, hL, hkd, ht⟩)
  · exact .inl h
  · exact .inr ⟨j, hj, add_of hL, hkd, (tk_old S I hj hL hE).2 ht⟩
 have hbx : ∀ b, (R.p k).kd = .al b → ∃ x, R.bx[b]? = some x := fun b hb => ⟨_, List.getElem?_eq_getElem (alK S hk hb).lt⟩
 rw [hput]
 have hlt : ∀ b, alive ops R L E b → g b < W.heap.size := fun b hb => by
  obtain ⟨x, hx⟩ := I.isb b hb
  exact (I.low b x hb hx).2
 refine ⟨rfl, by simp [I.size], ?_, ?_, hlen, hone, hpre, ?_, ?_, ?_, ?_, ?_, ?_, ?_, ?_, hobl, hreach⟩
 · intro s hs
   have hsd : s ≠ d := by
    rintro rfl
    exact hs k hk (add_k L k) hdo
   rw [hget, if_neg hsd, I.old s (fun j hj hL => hs j hj (add_of hL))]
   refine (Sy.ev_mono (n := R.n0) (B := List.range R.nb) (fun i hi => hE i (Nat.lt_of_lt_of_le hi ?_)) (fun b hb => hg b (.inl (List.mem_range.1 hb))) _ (oks_of_getD s S.F)).symm
   rw [I.len]; exact Nat.le_trans nvAt_zero (nvAt_mono (Nat.zero_le _))
 · intro j d' hj hL hjd
   by_cases hjk : j = k
   · subst hjk
     rw [hdo] at hjd; injection hjd with hjd; subst hjd
     rw [hget, if_pos rfl, hv]
   · rw [hget, if_neg (hdne j d' hj hjk hjd), I.new j d' hj (add_ne hL hjk) hjd, hfull j hj (add_ne hL hjk)]
 · intro j hj hc
   by_cases hjk : j = k
   · subst hjk
     obtain ⟨h1, h2⟩ := hm1 hc
     rw [add_k]; simp; omega
   · rw [show add L k j = L j by simp [add, hjk], I.call j hj hc]
     cases hck : (R.p k).kd.call with
     | false => rw [hm2 hck]
     | true =>
       obtain ⟨h1, h2⟩ := hm1 hck
       have hne : (R.p j).kd.ci ≠ m := by
        intro he
        have key : ∀ i, i < R.n → (R.p i).kd.call = true → R.ch[(R.p i).kd.ci]? = some i := by
         intro i hi hci
         have hs := S.k i hi
         unfold staticK at hs
         cases hoi : ops[i]? with
         | none => rw [hoi] at hs; cases hs
         | some o' =>
           rw [hoi] at hs
           simp only [Bool.and_eq_true] at hs
           have h7 := hs.2
           cases hkd : (R.p i).kd with
           | cl i' f args nv bs =>
             rw [hkd] at h7
             simp only [Bool.and_eq_true] at h7
             have := h7.1.1.1.1.1.1.2
             simpa [Kd.ci] using this
           | _ => rw [hkd] at hci; cases hci
        have k1 := key j hj hc
        have k2 := key k hk hck
        rw [he, ← h2, k2] at k1
        injection k1 with k1
        exact hjk k1.symm
       omega
 · intro j hj hL
   by_cases hjk : j = k
   · subst hjk; exact hneed
   · exact Nat.le_trans (I.need j hj (add_ne hL hjk)) hmm
 · intro j o' hjo hL e he hb
   by_cases hjk : j = k
   · subst hjk
     rw [ho] at hjo; injection hjo with hjo; subst hjo
     exact add_of (haft e he hb)
   · exact add_of (I.clos j o' hjo (add_ne hL hjk) e he hb)
 · intro b x hb hx
   rcases halive b hb with h | h
   · rw [hg b h, hW b h, I.box b x h hx, al_kept S I hE hg h hx]
   · exact (hnew b x h.1 h.2 hx).1
 · intro b x hb hx
   rcases halive b hb with h | h
   · rw [hg b h]
     exact ⟨(I.low b x h hx).1, Nat.lt_of_lt_of_le (I.low b x h hx).2 hsz⟩
   · obtain ⟨h1, h2, h3⟩ := hnew b x h.1 h.2 hx
     exact ⟨fun _ => by omega, h3⟩
 · intro b b' x x' hb hb' hx hx' hro hgg
   rcases halive b hb with h | h
   · rcases halive b' hb' with h' | h'
     · rw [hg b h, hg b' h'] at hgg
       exact I.inj b b' x x' h h' hx hx' hro hgg
     · have := (hnew b' x' h'.1 h'.2 hx').2.1
       have := hlt b h
       rw [hg b h] at hgg
       omega
   · rcases halive b' hb' with h' | h'
     · have := (hnew b x h.1 h.2 hx).2.1
       have := hlt b' h'
       rw [hg b' h'] at hgg
       omega
     · have h1 := h.1; rw [h'.1] at h1; injection h1 with h1; exact h1.symm
 · intro b hb
   rcases halive b hb with h | h
   · exact I.isb b h
   · exact hbx b h.1
 · intro j hj hL b hb htk
   by_cases hjk : j = k
   · subst hjk
     rcases hst.bs b hb with h | ⟨i, hi, he, hbi, hln⟩
     · exact .inr ⟨j, hk, add_k L j, h, not_gal hk h htk⟩
     · obtain ⟨e, hee, hbe, rfl⟩ := edge_of j i ho he
       have hon : e.on < R.n := Nat.lt_trans hi hk
       exact halive2 b (I.bsok e.on hon (haft e hee hbe) b hbi fun hga => (tk_old S I hon (haft e hee hbe) hE).1 (leans_tk hln hga (htk hga)))
   · exact halive2 b (I.bsok j hj (add_ne hL hjk) b hb fun hga => (tk_old S I hj (add_ne hL hjk) hE).1 (htk hga))
end
section
variable {P : Program} {ops : Array Oper} {R : Rg} {u : TypeId} {w0 : World} {Fin : List Value → List World → Prop} {Pr : List Value → Prop}
variable {L : Nat → Bool} {m m' : Nat} {E E' : List Value} {g g' : Nat → Nat} {H H' : List World} {a : Act} {W W' : World} {k : Nat} {o : Oper} {Q : Exit → Act → World → Prop}
theorem rho_kept (S : Sta P ops R Pr) (I : Inv P ops R u w0 Fin Pr L m E g H a W) (hk : k < R.n) (ho : ops[k]? = some o) (haft : ∀ e ∈ o.after, Region.binds .any e = true → L e.on = true)
 (hE : ∀ i, i < E.length → E'.getD i undef = E.getD i undef) (hg : ∀ b, alive ops R L E b → g' b = g b) (hp : Pr E') (htk : Tk ops R k E) : ∀ x ∈ o.op.operands, rho ops R o.guard E' g' x = rho ops R o.guard E g x := by
 intro x hx
 cases x with
 | const v => rfl
 | global v => rfl
 | func f => rfl
 | tmp s =>
   have hs : s ∈ tmpsOf o := by
    unfold tmpsOf
    rw [List.mem_filterMap]
    exact ⟨.tmp s, by simpa using hx, rfl⟩
   show (slotSy ops R o.guard s).ev E' g' = (slotSy ops R o.guard s).ev E g
   unfold slotSy
   cases hsl : slotOf ops R s with
   | none =>
     refine Sy.ev_mono (n := R.n0) (B := List.range R.nb) (fun i hi => hE i (Nat.lt_of_lt_of_le hi ?_)) (fun b hb => hg b (.inl (List.mem_range.1 hb))) _ (oks_of_getD s S.F)
     rw [I.len]; exact Nat.le_trans nvAt_zero (nvAt_mono (Nat.zero_le _))
   | some j =>
     obtain ⟨hj, hd⟩ := slot_some hsl
     obtain ⟨e, he, hb, rfl⟩ := edge_of k j ho ((stK S hk ho).tm s hs j hj hd)
     have hL := haft e he hb
     have hj2 : e.on < ops.size := Nat.lt_of_lt_of_le hj S.n
     have hs := stK S hj (Array.getElem?_eq_getElem hj2)
     dsimp only
     split
     · rename_i hgg
       have hto : Tk ops R e.on E := by
        unfold Tk at htk ⊢
        rw [show grdO ops e.on = grdO ops k by rw [show grdO ops k = o.guard by simp [grdO, ho]]; simpa using hgg]
        exact htk
       exact Sy.ev_mono (fun i hi => hE i (Nat.lt_of_lt_of_le hi (after_le S I hj hL))) (fun b hb => hg b (alive_allowed I hj hL hto b hb)) _ hs.res
     · exact full_kept S I hE hg hp hj hL
theorem need_ok (S : Sta P ops R Pr) (I : Inv P ops R u w0 Fin Pr L m E g H a W) (hk : k < R.n) (ho : ops[k]? = some o) (haft : ∀ e ∈ o.after, Region.binds .any e = true → L e.on = true) : (R.p k).need ≤ m := by
 rcases (stK S hk ho).need with h | ⟨j, hj, he, hle⟩
 · omega
 · obtain ⟨e, hee, hb, rfl⟩ := edge_of k j ho he
   exact Nat.le_trans hle (I.need e.on (Nat.lt_trans hj hk) (haft e hee hb))
structure ClK (ops : Array Oper) (R : Rg) (k i : Nat) (args : List Sy) (nv : Nat) (bs : List Nat) : Prop where
 need : (R.p k).need = i
 ch : R.ch[i]? = some k
 prev : i = 0 ∨ hits ops 3 k (R.ch.getD (i - 1) 0) = true
 res : (R.p k).res.ok (nvAt R (i + 1)) [] = true
 bs : ∀ b ∈ bs, b < R.nb ∨ ∃ j, j < k ∧ edge ops k j = true ∧ b ∈ (R.p j).bs ∧ leans ops R k j b = true
theorem clK (S : Sta P ops R Pr) (hk : k < R.n) {i : Nat} {f : FuncId} {args : List Sy} {nv : Nat} {bs : List Nat} (h : (R.p k).kd = .cl i f args nv bs) : ClK ops R k i args nv bs := by
 have hs := S.k k hk
 unfold staticK at hs
 cases ho : ops[k]? with
 | none => rw [ho] at hs; cases hs
 | some o =>
   rw [ho] at hs
   simp only [Bool.and_eq_true] at hs
   have h7 := hs.2
   rw [h] at h7
   simp only [Bool.and_eq_true, beq_iff_eq, Bool.or_eq_true, List.all_eq_true, decide_eq_true_eq, List.any_eq_true, List.mem_range, List.contains_iff_mem] at h7
   obtain ⟨⟨⟨⟨⟨⟨⟨h1, h2⟩, h3⟩, h4⟩, h5⟩, h6⟩, h8⟩, h9⟩ := h7
   refine ⟨h1, h2, h3, h4, ?_⟩
   intro b hb
   rcases h8 b hb with h | ⟨j, hj, ⟨he, hm⟩, hln⟩
   · exact .inl h
   · exact .inr ⟨j, hj, he, hm, hln⟩
theorem ci_eq (S : Sta P ops R Pr) (I : Inv P ops R u w0 Fin Pr L m E g H a W) (hk : k < R.n) (ho : ops[k]? = some o) (hLk : L k = false) (haft : ∀ e ∈ o.after, Region.binds .any e = true → L e.on = true)
 {i : Nat} {f : FuncId} {args : List Sy} {nv : Nat} {bs : List Nat} (h : (R.p k).kd = .cl i f args nv bs) : i = m := by
 have hc := clK S hk h
 have h1 := I.call k hk (by rw [h]; rfl)
 rw [hLk, h] at h1
 simp only [Kd.ci, Bool.false_eq_true, false_iff] at h1
 rcases hc.prev with h2 | h2
 · omega
 · have hLp : L (R.ch.getD (i - 1) 0) = true := hits_closed I.clos 3 k _ h2 fun i' hi' => by
    obtain ⟨e, hee, hb, rfl⟩ := edge_of k i' ho hi'
    exact haft e hee hb
   by_cases hi : i = 0
   · omega
   have hlt : i - 1 < R.ch.length := by
    have := List.getElem?_eq_some_iff.1 hc.ch
    obtain ⟨h3, -⟩ := this
    omega
   have hcj : R.ch[i - 1]? = some (R.ch.getD (i - 1) 0) := by
    rw [List.getD_eq_getElem?_getD, List.getElem?_eq_getElem hlt]; rfl
   obtain ⟨g1, g2, g3⟩ := S.ch _ _ hcj
   have := (I.call _ g1 g2).1 hLp
   omega
theorem nvAt_succ {i : Nat} (h : R.ch[i]? = some k) : nvAt R (i + 1) = nvAt R i + (R.p k).kd.nv := by
 unfold nvAt
 rw [List.take_add_one, h]
 simp [List.sum_append]; omega
theorem getD_append {E xs : List Value} {i : Nat} (h : i < E.length) : (E ++ xs).getD i undef = E.getD i undef := by
 simp [List.getD_eq_getElem?_getD, List.getElem?_append_left h]
theorem drop_of {i : Nat} (h : R.ch[i]? = some k) : (R.ch.drop i).map (cpOf ops R) = cpOf ops R k :: (R.ch.drop (i + 1)).map (cpOf ops R) := by
 obtain ⟨h1, h2⟩ := List.getElem?_eq_some_iff.1 h
 rw [List.drop_eq_getElem_cons h1, List.map_cons, h2]
theorem tk_wn (S : Sta P ops R Pr) (hk : k < R.n) (ho : ops[k]? = some o) : Tk ops R k E ↔ Wn R o.guard E g := by
 unfold Tk Wn
 rw [show grdO ops k = o.guard by simp [grdO, ho]]
 cases hgd : o.guard with
 | none => exact Iff.rfl
 | some p =>
   obtain ⟨j, w⟩ := p
   obtain ⟨g1, g2, -, g4⟩ := (stK S hk ho).grd j w hgd
   have : (R.p j).full.ev E (fun _ => 0) = (R.p j).full.ev E g := Sy.ev_mono (fun _ _ => rfl) (fun b hb => by cases hb) _ g4
   simp only [this]
theorem step_prefix (hPr : ∀ E xs, Pr E → Pr (E ++ xs)) (S : Sta P ops R Pr) (I : Inv P ops R u w0 Fin Pr L m E g H a W) (hk : k < R.n) (ho : ops[k]? = some o) (hLk : L k = false) (haft : ∀ e ∈ o.after, Region.binds .any e = true → L e.on = true)
 {K : Act → World → Prop} (hK : ∀ m' E' g' H' a' W', Inv P ops R u w0 Fin Pr (add L k) m' E' g' H' a' W' → K a' W') :
 if Region.wanted o (yielded ops a.tmps) = true then Oper.wp P o a W K Q else K (a.put o.dst undef) W := by
 have hst := stK S hk ho
 have hneed := need_ok S I hk ho haft
 have hw0 : w0.heap.size ≤ W.heap.size := I.reach.first.size
 have hgo : grdO ops k = o.guard := by simp [grdO, ho]
 by_cases hwd : Region.wanted o (yielded ops a.tmps) = true
 · rw [if_pos hwd]
   have hwn := (wanted_iff S I hk ho haft).1 hwd
   have htk : Tk ops R k E := (tk_wn S hk ho).2 hwn
   have hev := eval_told S I hk ho haft hwn
   have hfull : ∀ E' g', Pr E' → (∀ i, i < E.length → E'.getD i undef = E.getD i undef) → (∀ b, alive ops R L E b → g' b = g b) → (R.p k).full.ev E' g' = (R.p k).res.ev E' g' := by
    intro E' g' hp hE hg
    rw [(S.sem k hk E' g' hp).2]
    unfold grdK
    rw [hgo]
    cases hgd : o.guard with
    | none => rfl
    | some p =>
      obtain ⟨j, w⟩ := p
      rw [hgd] at hwn
      simp only [Wn] at hwn
      obtain ⟨g1, g2, -, g4⟩ := hst.grd j w hgd
      have : (R.p j).full.ev E' g' = (R.p j).full.ev E g := by
       refine Sy.ev_mono (fun i hi => hE i (Nat.lt_of_lt_of_le hi ?_)) (fun b hb => by cases hb) _ g4
       rw [I.len]; exact nvAt_mono hneed
      simp [grdv, this, hwn]
   cases hkd : (R.p k).kd with
   | val =>
     have h1 := (S.sem k hk E g I.pre).1
     unfold lhsK rhsK at h1
     rw [ho, hkd] at h1
     simp only [Out.n.injEq] at h1
     rw [← execOp_congr hst.sel hev] at h1
     have hrun := runP_ok _ h1 W
     unfold Oper.wp
     rw [hrun]
     exact hK m E g H _ _ (inv_next S I hk ho hLk haft (by rw [hkd]; intro h; cases h) (fun _ => rfl) (fun _ _ => rfl) (fun _ _ => rfl) I.len I.one I.pre (fun _ _ => rfl) (Nat.le_refl _) (by rw [hkd]; intro b x h; cases h) (by simpa [Pn.after, hkd] using hneed) hw0 I.obl I.reach (hfull E g I.pre (fun _ _ => rfl) (fun _ _ => rfl)).symm)
   | pk =>
     have h1 := (S.sem k hk E g I.pre).1
     unfold lhsK rhsK at h1
     rw [ho, hkd] at h1
     cases hop : o.op with
     | pick x y z =>
       cases x with
       | tmp s =>
         simp only [hop] at h1
         cases hsl : slotOf ops R s with
         | none => rw [hsl] at h1; simp at h1
         | some j =>
           rw [hsl] at h1
           simp only [Out.s.injEq, List.cons.injEq, and_true, true_and] at h1
           obtain ⟨e1, e2, e3, e4⟩ := h1
           obtain ⟨hj, hdj⟩ := slot_some hsl
           have hx : a.eval (.tmp s) = rho ops R o.guard E g (.tmp s) := hev (.tmp s) (by simp [hop, Op.operands])
           have hjL : L j = true := by
            obtain ⟨e, he, hb, rfl⟩ := edge_of k j ho (hst.tm s (by
             unfold tmpsOf
             rw [List.mem_filterMap]
             exact ⟨.tmp s, by simp [hop, Op.operands], rfl⟩) j hj hdj)
            exact haft e he hb
           have hfj : (R.p j).full.ev E g = a.eval (.tmp s) := (I.new j s hj hjL hdj).symm
           obtain ⟨c, hc⟩ : ∃ c, rho ops R o.guard E g (.tmp s) = .bool c := ⟨_, e1⟩
           have hwj : Wn R (some (j, c)) E g := by
            show yieldsV ((R.p j).full.ev E g) = some c
            rw [hfj, hx, hc]; rfl
           have hrun : (execOp a.eval o).run P W = .ok (.value ((R.p k).res.ev E g)) W := by
            simp only [execOp, hop]
            rw [hx, hc]
            simp only [asBool, Sem.run_bind, Sem.run_pure, Result.andThen_ok]
            rw [e4]
            rw [hc]
            cases c with
            | true =>
              rw [if_pos rfl, eval_told S I hk ho haft hwj y (by simp [hop, Op.operands]), e2]
              rfl
            | false =>
              rw [if_neg (by decide), eval_told S I hk ho haft hwj z (by simp [hop, Op.operands]), e3]
              rfl
           unfold Oper.wp
           rw [hrun]
           exact hK m E g H _ _ (inv_next S I hk ho hLk haft (by rw [hkd]; intro h; cases h) (fun _ => rfl) (fun _ _ => rfl) (fun _ _ => rfl) I.len I.one I.pre (fun _ _ => rfl) (Nat.le_refl _) (by rw [hkd]; intro b x h; cases h) (by simpa [Pn.after, hkd] using hneed) hw0 I.obl I.reach (hfull E g I.pre (fun _ _ => rfl) (fun _ _ => rfl)).symm)
       | _ => simp [hop] at h1
     | _ => simp [hop] at h1
   | fx =>
     have h1 := S.fx k o hk ho hkd E g I.pre
     rw [← execOp_congr hst.sel hev] at h1
     have hrun := runP_ok _ h1 W
     unfold Oper.wp
     rw [hrun]
     exact hK m E g H _ _ (inv_next S I hk ho hLk haft (by rw [hkd]; intro h; cases h) (fun _ => rfl) (fun _ _ => rfl) (fun _ _ => rfl) I.len I.one I.pre (fun _ _ => rfl) (Nat.le_refl _) (by rw [hkd]; intro b x h; cases h) (by simpa [Pn.after, hkd] using hneed) hw0 I.obl I.reach (hfull E g I.pre (fun _ _ => rfl) (fun _ _ => rfl)).symm)
   | ld b off =>
     have hs := S.k k hk
     unfold staticK at hs
     rw [ho] at hs
     simp only [Bool.and_eq_true] at hs
     have h7 := hs.2
     rw [hkd] at h7
     simp only [Bool.and_eq_true, decide_eq_true_eq] at h7
     obtain ⟨⟨⟨hb1, hb2⟩, -⟩, -⟩ := h7
     have h1 := (S.sem k hk E g I.pre).1
     unfold lhsK rhsK at h1
     rw [ho, hkd] at h1
     cases hop : o.op with
     | load t x =>
       simp only [hop, Out.l.injEq] at h1
       have hx := hev x (by simp [hop, Op.operands])
       obtain ⟨x0, hbx⟩ : ∃ x, R.bx[b]? = some x := ⟨_, List.getElem?_eq_getElem hb2⟩
       rw [(cGet hbx).1] at h1
       have hh := I.box b _ (.inl hb1) hbx
       have hl := load_ok hh h1.2
       have hrun : (execOp a.eval o).run P W = .ok (.value ((R.p k).res.ev E g)) W := by
        simp only [execOp, hop]
        rw [hx, h1.1, Sem.run_bind, hl]; rfl
       unfold Oper.wp
       rw [hrun]
       exact hK m E g H _ _ (inv_next S I hk ho hLk haft (by rw [hkd]; intro h; cases h) (fun _ => rfl) (fun _ _ => rfl) (fun _ _ => rfl) I.len I.one I.pre (fun _ _ => rfl) (Nat.le_refl _) (by rw [hkd]; intro b x h; cases h) (by simpa [Pn.after, hkd] using hneed) hw0 I.obl I.reach (hfull E g I.pre (fun _ _ => rfl) (fun _ _ => rfl)).symm)
     | _ => simp [hop] at h1
   | al b =>
     have ha := alK S hk hkd
     have hnal : ¬ alive ops R L E b := by
      rintro (h | ⟨j, hj, hL, hj2, -⟩)
      · have := ha.ge; omega
      · rcases Nat.lt_trichotomy j k with h | h | h
        · exact ha.uniq j h hj2
        · subst h; rw [hLk] at hL; cases hL
        · exact (alK S hj hj2).uniq k h hkd
     obtain ⟨g', hg'⟩ : ∃ g' : Nat → Nat, g' = fun b' => if b' = b then W.heap.size else g b' := ⟨_, rfl⟩
     have hgb : g' b = W.heap.size := by rw [hg']; simp
     have hgo' : ∀ b', alive ops R L E b' → g' b' = g b' := by
      intro b' hb'
      have : b' ≠ b := by rintro rfl; exact hnal hb'
      rw [hg']; simp [this]
     have h1 := (S.sem k hk E g' I.pre).1
     unfold lhsK rhsK at h1
     rw [ho, hkd] at h1
     simp only [Out.a.injEq] at h1
     have hev' : ∀ x ∈ o.op.operands, a.eval x = rho ops R o.guard E g' x := fun x hx => (hev x hx).trans (rho_kept S I hk ho haft (fun _ _ => rfl) hgo' I.pre htk x hx).symm
     rw [← execOp_congr hst.sel hev', hgb] at h1
     have hrun := runA_ok _ h1
     obtain ⟨x0, hbx⟩ : ∃ x, R.bx[b]? = some x := ⟨_, List.getElem?_eq_getElem ha.lt⟩
     rw [(cGet hbx).1, (cGet hbx).2] at hrun
     unfold Oper.wp
     rw [hrun]
     refine hK m E g' H _ _ (inv_next S I hk ho hLk haft (by rw [hkd]; intro h; cases h) (fun _ => rfl) (fun _ _ => rfl) hgo' I.len I.one I.pre (fun b' hb' => ?_) (by rw [size_alloc']; omega) ?_ (by simpa [Pn.after, hkd] using hneed) hw0 I.obl ?_ (hfull E g' I.pre (fun _ _ => rfl) hgo').symm)
     · obtain ⟨x, hx⟩ := I.isb b' hb'
       exact Below.heap_alloc _ _ _ (I.low b' x hb' hx).2
     · intro b' x hb' _ hx
       rw [hkd] at hb'; injection hb' with hb'; subst hb'
       rw [hbx] at hx; injection hx with hx; subst hx
       rw [hgb, size_alloc']
       exact ⟨blk_new W _, Nat.le_refl _, Nat.lt_succ_self _⟩
     · exact I.reach.next (below_alloc yr _)
   | cl i f args nv bs =>
     have hc := clK S hk hkd
     have him := ci_eq S I hk ho hLk haft hkd
     subst him
     have h1 := (S.sem k hk E g I.pre).1
     unfold lhsK rhsK at h1
     rw [ho, hkd] at h1
     cases hop : o.op with
     | call c =>
       simp only [hop] at h1
       cases hce : c.callee with
       | value x =>
         simp only [hce] at h1
         have hcx := hev x (by simp [hop, Op.operands, Call.operands, hce])
         have hca : c.args.map a.eval = c.args.map (rho ops R o.guard E g) := arr_congr fun y hy => hev y (by simp [hop, Op.operands, Call.operands, hy])
         have hrun : (execOp a.eval o).run P W = .ok (.enter f (Sy.evs E g args).toArray) W := by
          cases hfv : rho ops R o.guard E g x with
          | func fn ff cs =>
            rw [hfv] at h1
            simp only [Out.c.injEq, Value.func.injEq] at h1
            obtain ⟨⟨rfl, -, -⟩, h2⟩ := h1
            simp only [execOp, hop, resolve, hce, hca]
            rw [hcx, hfv]
            have hent := S.ent k hk _ _ _ _ _ hkd (ff ++ c.args.map (rho ops R o.guard E g) ++ cs) W
            rw [h2] at hent
            simp [Deferred.ofValue, invoke, h2, hent]
          | _ => rw [hfv] at h1; simp at h1
         unfold Oper.wp
         rw [hrun]
         have hobl := I.obl
         rw [drop_of hc.ch] at hobl
         have hcp : cpOf ops R k = ⟨f, args, nv, (R.p k).res, bs, o.guard.map fun (j, w) => ((R.p j).full, w)⟩ := by
          unfold cpOf; rw [hkd, hgo]
         rw [hcp] at hobl
         have hbxs : ∀ b ∈ bs, ∀ x, R.bx[b]? = some x → W.heap[g b]? = some (.cells (Sy.evs E g x.c).toArray x.t (0, 0)) := by
          intro b hb x hx
          refine I.box b x ?_ hx
          rcases hc.bs b hb with h | ⟨j, hj, he, hm, hln⟩
          · exact .inl h
          · obtain ⟨e, hee, hbe, rfl⟩ := edge_of k j ho he
            exact I.bsok e.on (Nat.lt_trans hj hk) (haft e hee hbe) b hm fun hga => leans_tk hln hga htk
         have hcalls : Calls P f (Sy.evs E g args).toArray W fun e W' => ∃ xs : List Value, xs.length = nv ∧ (xs.all (·.oneCell')) = true ∧ e = .returned ((R.p k).res.ev (E ++ xs) g) ∧ BL W W' ∧ Obl P u w0 R.bx Fin ((R.ch.drop (i + 1)).map (cpOf ops R)) (E ++ xs) (H ++ [W']) := by
          cases hgd : o.guard with
          | none =>
            rw [hgd] at hobl
            exact hobl W g I.reach hbxs
          | some p =>
            obtain ⟨j, w⟩ := p
            rw [hgd] at hobl hwn
            simp only [Wn] at hwn
            obtain ⟨g1, g2, -, g4⟩ := hst.grd j w hgd
            have : (R.p j).full.ev E (fun _ => 0) = (R.p j).full.ev E g := Sy.ev_mono (fun _ _ => rfl) (fun b hb => by cases hb) _ g4
            exact hobl.1 (by show yieldsV ((R.p j).full.ev E fun _ => 0) = some w; rw [this]; exact hwn) W g I.reach hbxs
         refine hcalls.mono ?_
         rintro e W' ⟨xs, hxl, hx1, rfl, hbw, hob⟩
         show K (a.put o.dst _) W'
         refine hK (i + 1) (E ++ xs) g (H ++ [W']) _ _ (inv_next S I hk ho hLk haft (by rw [hkd]; intro _; exact ⟨rfl, rfl⟩) (by rw [hkd]; intro h; cases h) (fun _ h => getD_append h) (fun _ _ => rfl) ?_ ?_ (hPr _ _ I.pre) ?_ hbw.size (by rw [hkd]; intro b x h; cases h) (by simp [Pn.after, hkd]) hw0 hob (I.reach.next hbw).push (hfull (E ++ xs) g (hPr _ _ I.pre) (fun _ h => getD_append h) (fun _ _ => rfl)).symm)
         · rw [List.length_append, hxl, I.len, nvAt_succ hc.ch, hkd]; rfl
         · rw [List.all_append, I.one, hx1]; rfl
         · intro b hb
           obtain ⟨x, hx⟩ := I.isb b hb
           exact hbw.block _ (I.low b x hb hx).2
       | _ => simp [hce] at h1
     | _ => simp [hop] at h1
 · rw [if_neg hwd]
   have hwn : ¬ Wn R o.guard E g := fun h => hwd ((wanted_iff S I hk ho haft).2 h)
   cases hgd : o.guard with
   | none => rw [hgd] at hwn; exact absurd trivial hwn
   | some p =>
     obtain ⟨j, w⟩ := p
     rw [hgd] at hwn
     simp only [Wn] at hwn
     obtain ⟨g1, g2, g3, g4⟩ := hst.grd j w hgd
     have hfull : ∀ E', Pr E' → (∀ i, i < E.length → E'.getD i undef = E.getD i undef) → (R.p k).full.ev E' g = undef := by
      intro E' hp hE
      rw [(S.sem k hk E' g hp).2]
      unfold grdK
      rw [hgo, hgd]
      have : (R.p j).full.ev E' g = (R.p j).full.ev E g := by
       refine Sy.ev_mono (fun i hi => hE i (Nat.lt_of_lt_of_le hi ?_)) (fun b hb => by cases hb) _ g4
       rw [I.len]; exact nvAt_mono hneed
      simp [grdv, this, hwn]
     cases hkd : (R.p k).kd with
     | al b =>
       exact hK m E g H _ _ (inv_next S I hk ho hLk haft (by rw [hkd]; intro h; cases h) (fun _ => rfl) (fun _ _ => rfl) (fun _ _ => rfl) I.len I.one I.pre (fun _ _ => rfl) (Nat.le_refl _) (fun b' x _ ht _ => absurd ((tk_wn (g := g) S hk ho).1 ht) (by rw [hgd]; exact hwn)) (by simpa [Pn.after, hkd] using hneed) hw0 I.obl I.reach (hfull E I.pre (fun _ _ => rfl)).symm)
     | pk =>
       exact hK m E g H _ _ (inv_next S I hk ho hLk haft (by rw [hkd]; intro h; cases h) (fun _ => rfl) (fun _ _ => rfl) (fun _ _ => rfl) I.len I.one I.pre (fun _ _ => rfl) (Nat.le_refl _) (by rw [hkd]; intro b x h; cases h) (by simpa [Pn.after, hkd] using hneed) hw0 I.obl I.reach (hfull E I.pre (fun _ _ => rfl)).symm)
     | fx =>
       exact hK m E g H _ _ (inv_next S I hk ho hLk haft (by rw [hkd]; intro h; cases h) (fun _ => rfl) (fun _ _ => rfl) (fun _ _ => rfl) I.len I.one I.pre (fun _ _ => rfl) (Nat.le_refl _) (by rw [hkd]; intro b x h; cases h) (by simpa [Pn.after, hkd] using hneed) hw0 I.obl I.reach (hfull E I.pre (fun _ _ => rfl)).symm)
     | val =>
       exact hK m E g H _ _ (inv_next S I hk ho hLk haft (by rw [hkd]; intro h; cases h) (fun _ => rfl) (fun _ _ => rfl) (fun _ _ => rfl) I.len I.one I.pre (fun _ _ => rfl) (Nat.le_refl _) (by rw [hkd]; intro b x h; cases h) (by simpa [Pn.after, hkd] using hneed) hw0 I.obl I.reach (hfull E I.pre (fun _ _ => rfl)).symm)
     | ld b off =>
       exact hK m E g H _ _ (inv_next S I hk ho hLk haft (by rw [hkd]; intro h; cases h) (fun _ => rfl) (fun _ _ => rfl) (fun _ _ => rfl) I.len I.one I.pre (fun _ _ => rfl) (Nat.le_refl _) (by rw [hkd]; intro b x h; cases h) (by simpa [Pn.after, hkd] using hneed) hw0 I.obl I.reach (hfull E I.pre (fun _ _ => rfl)).symm)
     | cl i f args nv bs =>
       have hc := clK S hk hkd
       have him := ci_eq S I hk ho hLk haft hkd
       subst him
       have hobl := I.obl
       rw [drop_of hc.ch] at hobl
       have hcp : cpOf ops R k = ⟨f, args, nv, (R.p k).res, bs, some ((R.p j).full, w)⟩ := by
        unfold cpOf; rw [hkd, hgo, hgd]; rfl
       rw [hcp] at hobl
       have : (R.p j).full.ev E (fun _ => 0) = (R.p j).full.ev E g := Sy.ev_mono (fun _ _ => rfl) (fun b hb => by cases hb) _ g4
       have hob := hobl.2 (by show yieldsV ((R.p j).full.ev E fun _ => 0) ≠ some w; rw [this]; exact hwn)
       refine hK (i + 1) (E ++ List.replicate nv (.bool false)) g H _ _ (inv_next S I hk ho hLk haft (by rw [hkd]; intro _; exact ⟨rfl, rfl⟩) (by rw [hkd]; intro h; cases h) (fun _ h => getD_append h) (fun _ _ => rfl) ?_ ?_ (hPr _ _ I.pre) (fun _ _ => rfl) (Nat.le_refl _) (by rw [hkd]; intro b x h; cases h) (by simp [Pn.after, hkd]) hw0 hob I.reach (hfull _ (hPr _ _ I.pre) (fun _ h => getD_append h)).symm)
       · rw [List.length_append, List.length_replicate, I.len, nvAt_succ hc.ch, hkd]; rfl
       · rw [List.all_append, I.one]
         simp [List.all_replicate, Value.oneCell']
end
section
variable {P : Program} {ops : Array Oper} {Q : Exit → Act → World → Prop}
theorem wpOps_inv (hac : Acyclic ops = true) (I : Array Bool → Act → World → Prop)
 (hstep : ∀ i o, ops[i]? = some o → ∀ (listed : Array Bool) a w, listed.size = ops.size → listed.getD i true = false → (o.after.all fun e => !Region.binds .any e || listed.getD e.on false) = true → (∀ j, j < i → listed.getD j false = true) → I listed a w → ∀ K : Act → World → Prop, Shut (∀ a' w', I (listed.setIfInBounds i true) a' w' → K a' w') → if Region.wanted o (yielded ops a.tmps) = true then Oper.wp P o a w K Q else K (a.put o.dst undef) w)
 (hend : ∀ listed a w, (∀ i, i < ops.size → listed.getD i false = true) → I listed a w → Q .normal a w) :
 ∀ (n i : Nat) (listed : Array Bool) a w, i + n = ops.size → listed.size = ops.size → (∀ j, j < ops.size → (listed.getD j false = true ↔ j < i)) → I listed a w → wpOps P ops Q ((List.range' i n)) a w
 | 0, i, listed, a, w, hn, hs, hl, hI => by
   simp only [List.range', wpOps]
   exact hend listed a w (fun j hj => (hl j hj).2 (by omega)) hI
 | n + 1, i, listed, a, w, hn, hs, hl, hI => by
   have hi : i < ops.size := by omega
   have ho : ops[i]? = some ops[i] := Array.getElem?_eq_getElem hi
   simp only [List.range', wpOps, ho]
   have hnl : listed.getD i true = false := by
    have : ¬ listed.getD i false = true := fun h => by have := (hl i hi).1 h; omega
    simpa [Array.getD, hs, hi] using this
   have haft : (ops[i].after.all fun e => !Region.binds .any e || listed.getD e.on false) = true := by
    rw [Array.all_eq_true']
    intro e he
    have hac' := List.all_eq_true.1 hac i (List.mem_range.2 hi)
    rw [ho] at hac'
    simp only [Option.map_some, Option.getD_some] at hac'
    rw [Array.all_eq_true'] at hac'
    have := hac' e he
    cases hb : Region.binds .any e
    · simp
    · have h3 : e.on < i := by simpa [hb] using this
      rw [(hl e.on (by omega)).2 h3]; rfl
   have := hstep i _ ho listed a w hs hnl haft (fun j hj => (hl j (by omega)).2 hj) hI (wpOps P ops Q (List.range' (i + 1) n)) (fun a' w' hI' => ?_)
   · split
     · rename_i hw
       rw [if_pos hw] at this
       exact .inl this
     · rename_i hw
       rw [if_neg hw] at this
       exact this
   · refine wpOps_inv hac I hstep hend n (i + 1) _ a' w' (by omega) (by simp [hs]) ?_ hI'
     intro j hj
     by_cases hji : j = i
     · subst hji
       rw [get_eq (by omega)]; simp
     · rw [get_ne (Ne.symm hji), hl j hj]; omega
theorem wp_region_both {id : Nat} {draw : Bool} {a : Act} {w : World} (hm : P.follows .mixedOrders = true) (hac : Acyclic ops = true) (I : Array Bool → Act → World → Prop) (h0 : I (Array.replicate ops.size false) a w) (h1 : I (Array.replicate ops.size false) a w.drew)
 (hstep : ∀ i o, ops[i]? = some o → ∀ (listed : Array Bool) a w, listed.size = ops.size → listed.getD i true = false → (o.after.all fun e => !Region.binds .any e || listed.getD e.on false) = true → (draw = false → ∀ j, j < i → listed.getD j false = true) → I listed a w → ∀ K : Act → World → Prop, Shut (∀ a' w', I (listed.setIfInBounds i true) a' w' → K a' w') → if Region.wanted o (yielded ops a.tmps) = true then Oper.wp P o a w K Q else K (a.put o.dst undef) w)
 (hend : ∀ listed a w, (∀ i, i < ops.size → listed.getD i false = true) → I listed a w → Q .normal a w) : (Code.region id ops draw).wp P Q a w := by
 cases draw
 · refine wp_region ?_
   rw [List.range_eq_range']
   refine wpOps_inv hac I (fun i o h1 L a w h2 h3 h4 h5 h6 => hstep i o h1 L a w h2 h3 h4 (fun _ => h5) h6) hend _ 0 _ a w (by omega) (by simp) ?_ h0
   intro j hj
   simp [Array.getD, hj]
 · exact wp_region_inv hm hac I h1 (fun i o h1 L a w h2 h3 h4 h6 => hstep i o h1 L a w h2 h3 h4 (fun h => by cases h) h6) hend
end
inductive Tl where
 | st (b o : Nat) (vs : List Sy)
 | mv (s : Sy)
section
variable (P : Program) (ops : Array Oper) (R : Rg) (tl : List Tl)
def rhoF (F : List Sy) (E : List Value) (g : Nat → Nat) : Operand → Value
 | .tmp s => (F.getD s default).ev E g
 | .const v => v
 | .global g => .pointer (some ⟨g, 0, none⟩)
 | .func f => .func (.func f) #[] #[]
def nuOf : Nat := ((List.range R.bx.length).find? (gal ops R)).getD R.bx.length
def frame1 : List Sy := (List.range R.F.length).map fun s => match slotOf ops R s with | some j => (R.p j).full | none => R.F.getD s default
def tlS : Nat → List Sy × List Bx
 | 0 => (frame1 ops R, R.bx.take (nuOf ops R))
 | i + 1 =>
   match tl[i]?, (ops[R.n + i]?).bind (·.dst) with
   | some (.mv s), some d => ((tlS i).1.set d s, (tlS i).2)
   | some (.st b o vs), _ => ((tlS i).1, (tlS i).2.modify b fun x => { x with c := x.c.take o ++ vs ++ x.c.drop (o + vs.length) })
   | _, _ => tlS i
def oneS (E : List Value) (g : Nat → Nat) : Sy → Bool
 | .var _ => true
 | s => (s.ev E g).oneCell'
def lhsT (E : List Value) (g : Nat → Nat) (i : Nat) : Out :=
 match ops[R.n + i]?, tl[i]? with
 | some o, some (.st b off vs) => match o.op with | .store t x y => .s (rhoF (tlS ops R tl i).1 E g x) (rhoF (tlS ops R tl i).1 E g y).cells.toList ((P.info? t).map (·.size)) (vs.map (oneS E g)) | _ => .bad
 | some o, some (.mv s) => .n (runP P (execOp (rhoF (tlS ops R tl i).1 E g) o))
 | _, _ => .bad
def rhsT (E : List Value) (g : Nat → Nat) (i : Nat) : Out :=
 match tl[i]? with
 | some (.st b off vs) => .s (.pointer (some ⟨g b, off, none⟩)) (Sy.evs E g vs) (some vs.length) (vs.map fun _ => true)
 | some (.mv s) => .n (some (.value (s.ev E g)))
 | none => .bad
def staticT (dr : Bool) (u : TypeId) (nv : Nat) (i : Nat) : Bool :=
 match ops[R.n + i]?, tl[i]? with
 | some o, some t =>
   noSel o && o.guard.isNone && (!dr || (List.range (R.n + i)).all (hits ops 3 (R.n + i))) &&
   (match t with
     | .mv _ => (match o.dst with | some d => decide (d < R.F.length) | none => false)
     | .st b off vs => o.dst.isNone && (match (tlS ops R tl i).2[b]? with | some x => decide (off + vs.length ≤ x.c.length) && x.t != u && !x.ro | none => false) &&
        vs.all (fun | .var i => decide (i < nv) | _ => true))
 | _, _ => false
end
structure St (w0 : World) (F : List Sy) (bx : List Bx) (E : List Value) (g : Nat → Nat) (a : Act) (W : World) : Prop where
 act : a = ⟨(Sy.evs E g F).toArray, []⟩
 box : ∀ b x, bx[b]? = some x → W.heap[g b]? = some (.cells (Sy.evs E g x.c).toArray x.t (0, 0))
 low : ∀ b x, bx[b]? = some x → (x.ro = false → w0.heap.size ≤ g b) ∧ g b < W.heap.size
 inj : ∀ b b' x x', bx[b]? = some x → bx[b']? = some x' → (x.ro = false ∨ x'.ro = false) → g b = g b' → b = b'
 one : (E.all (·.oneCell')) = true
theorem St.next {w0 : World} {F : List Sy} {bx : List Bx} {E : List Value} {g : Nat → Nat} {a : Act} {W W' : World} (h : St w0 F bx E g a W) (hb : BL W W') : St w0 F bx E g a W' :=
 ⟨h.act, fun b x hx => by
  rw [hb.block _ (h.low b x hx).2]; exact h.box b x hx, fun b x hx => ⟨(h.low b x hx).1, Nat.lt_of_lt_of_le (h.low b x hx).2 hb.size⟩, h.inj, h.one⟩
theorem St.eval {w0 : World} {F : List Sy} {bx : List Bx} {E : List Value} {g : Nat → Nat} {a : Act} {W : World} (h : St w0 F bx E g a W) (x : Operand) : a.eval x = rhoF F E g x := by
 rw [h.act]
 cases x with
 | tmp s =>
   show (Sy.evs E g F).toArray.getD s undef = (F.getD s default).ev E g
   have := Sy.evs_getD E g F s
   rw [show (default : Sy) = .lit undef from rfl]
   simpa [Array.getD_eq_getD_getElem?, List.getD_eq_getElem?_getD] using this
 | _ => rfl
section
variable {P : Program} {ops : Array Oper} {R : Rg} {tl : List Tl} {u : TypeId} {w0 : World}
theorem modify_ro {bx : List Bx} {b b' : Nat} {f : List Sy → List Sy} {x : Bx} (h : (bx.modify b fun x => { x with c := f x.c })[b']? = some x) : ∃ y, bx[b']? = some y ∧ x.ro = y.ro := by
 rw [List.getElem?_modify] at h
 cases hy : bx[b']? with
 | none => rw [hy] at h; simp at h
 | some y =>
   rw [hy] at h
   simp only [Option.map_eq_map, Option.map_some, Option.some.injEq] at h
   refine ⟨y, rfl, ?_⟩
   subst h
   split <;> rfl
structure StaT (P : Program) (ops : Array Oper) (R : Rg) (tl : List Tl) (dr : Bool) (u : TypeId) (Pr : List Value → Prop) : Prop where
 size : ops.size = R.n + tl.length
 k : ∀ i, i < tl.length → staticT ops R tl dr u (nvAt R R.ch.length) i = true
 sem : ∀ i, i < tl.length → ∀ E g, Pr E → lhsT P ops R tl E g i = rhsT tl E g i
theorem step_tail {dr : Bool} {Pr : List Value → Prop} (T : StaT P ops R tl dr u Pr) {i : Nat} (hi : i < tl.length) {o : Oper} (ho : ops[R.n + i]? = some o) {E : List Value} {g : Nat → Nat} {a : Act} {W : World} {H : List World}
 (h : St w0 (tlS ops R tl i).1 (tlS ops R tl i).2 E g a W) (hr : Reach u w0 H W) (hE : nvAt R R.ch.length = E.length) (hpre : Pr E) {K : Act → World → Prop} {Q : Exit → Act → World → Prop}
 (hK : ∀ a' W', St w0 (tlS ops R tl (i + 1)).1 (tlS ops R tl (i + 1)).2 E g a' W' → Reach u w0 H W' → K a' W') :
 if Region.wanted o (yielded ops a.tmps) = true then Oper.wp P o a W K Q else K (a.put o.dst undef) W := by
 have hs := T.k i hi
 have hsem := T.sem i hi E g hpre
 unfold staticT at hs
 unfold lhsT rhsT at hsem
 have ht : tl[i]? = some tl[i] := List.getElem?_eq_getElem hi
 obtain ⟨t, htt⟩ : ∃ t, t = tl[i] := ⟨_, rfl⟩
 rw [← htt] at ht
 rw [ho, ht] at hs hsem
 simp only [Bool.and_eq_true, Option.isNone_iff_eq_none] at hs
 obtain ⟨⟨⟨hsel, hgd⟩, -⟩, h7⟩ := hs
 have hwd : Region.wanted o (yielded ops a.tmps) = true := by simp [Region.wanted, hgd]
 rw [if_pos hwd]
 have hex : execOp a.eval o = execOp (rhoF (tlS ops R tl i).1 E g) o := execOp_congr hsel (fun x _ => h.eval x)
 cases t with
 | mv s =>
   cases hd : o.dst with
   | none => rw [hd] at h7; cases h7
   | some d =>
     rw [hd] at h7
     simp only [decide_eq_true_eq] at h7
     simp only [Out.n.injEq] at hsem
     rw [← hex] at hsem
     have hrun := runP_ok _ hsem W
     unfold Oper.wp
     rw [hrun]
     refine hK _ W ⟨?_, ?_, ?_, ?_, h.one⟩ hr
     · show a.put o.dst _ = _
       rw [hd, h.act]
       have : tlS ops R tl (i + 1) = ((tlS ops R tl i).1.set d s, (tlS ops R tl i).2) := by
        rw [tlS]; simp [ht, ho, hd]
       rw [this]
       simp [Act.put, Sy.evs_set]
     all_goals
      have : (tlS ops R tl (i + 1)).2 = (tlS ops R tl i).2 := by
       rw [tlS]; simp [ht, ho, hd]
      rw [this]
     · exact h.box
     · exact h.low
     · exact h.inj
 | st b off vs =>
   simp only [Bool.and_eq_true, Option.isNone_iff_eq_none] at h7
   obtain ⟨⟨hd, h8⟩, h9⟩ := h7
   cases hx : (tlS ops R tl i).2[b]? with
   | none => rw [hx] at h8; cases h8
   | some x =>
     rw [hx] at h8
     simp only [Bool.and_eq_true, decide_eq_true_eq, bne_iff_ne, Bool.not_eq_true'] at h8
     obtain ⟨h8, hro⟩ := h8
     cases hop : o.op with
     | store t p y =>
       simp only [hop, Out.s.injEq] at hsem
       obtain ⟨e1, e2, e3, e4⟩ := hsem
       have hb : b < (tlS ops R tl i).2.length := (List.getElem?_eq_some_iff.1 hx).1
       have hh := h.box b x hx
       have hlen : (Sy.evs E g vs).length = vs.length := Sy.evs_length E g vs
       have hone : ∀ q ∈ Sy.evs E g vs, q.oneCell' = true := by
        have key : ∀ l : List Sy, (l.map (oneS E g) = l.map fun _ => true) → (l.all (fun | .var i => decide (i < nvAt R R.ch.length) | _ => true)) = true → ∀ q ∈ Sy.evs E g l, q.oneCell' = true := by
         intro l
         induction l with
         | nil => intro _ _ q hq; simp [Sy.evs] at hq
         | cons s r ih =>
           intro h1 h2 q hq
           simp only [List.map_cons, List.cons.injEq] at h1
           simp only [List.all_cons, Bool.and_eq_true] at h2
           simp only [Sy.evs, List.mem_cons] at hq
           rcases hq with rfl | hq
           · cases s with
             | var j =>
               have hj : j < E.length := by
                have := h2.1
                simp only [decide_eq_true_eq] at this
                omega
               simp only [Sy.ev]
               rw [List.getD_eq_getElem?_getD, List.getElem?_eq_getElem hj]
               exact List.all_eq_true.1 h.one _ (List.getElem_mem hj)
             | lit v => exact h1.1
             | ptr b o => exact h1.1
             | fn f l => exact h1.1
           · exact ih h1.2 h2.2 q hq
        exact key vs e4 h9
       have hfit : off + (Sy.evs E g vs).length ≤ (Sy.evs E g x.c).toArray.size := by
        simp [Sy.evs_length]; omega
       have hst := run_store_run (P := P) t (rhoF (tlS ops R tl i).1 E g y) (Sy.evs E g vs) hh e2 (by rw [e3, hlen]) hfit hone
       have hrun : (execOp a.eval o).run P W = .ok .skip (W.setCells (g b) off (Sy.evs E g vs)) := by
        rw [hex]; simp [execOp, hop, e1, hst]
       unfold Oper.wp
       rw [hrun]
       show K (a.put o.dst undef) _
       obtain ⟨cur', q3, q4, q5⟩ := setCells_row (Sy.evs E g vs) off W _ hh hfit
       obtain ⟨s1, s2, s3, s4⟩ := setCells_same (g b) (Sy.evs E g vs) off W
       have hS : tlS ops R tl (i + 1) = ((tlS ops R tl i).1, (tlS ops R tl i).2.modify b fun x => { x with c := x.c.take off ++ vs ++ x.c.drop (off + vs.length) }) := by
        rw [tlS]; simp [ht]
       have evapp : ∀ l l' : List Sy, Sy.evs E g (l ++ l') = Sy.evs E g l ++ Sy.evs E g l' := by
        intro l l'
        induction l with
        | nil => simp [Sy.evs]
        | cons s r ih => simp [Sy.evs, ih]
       have evtake : ∀ (l : List Sy) (n : Nat), Sy.evs E g (l.take n) = (Sy.evs E g l).take n := by
        intro l
        induction l with
        | nil => intro n; simp [Sy.evs]
        | cons s r ih => intro n; cases n <;> simp [Sy.evs, ih]
       have evdrop : ∀ (l : List Sy) (n : Nat), Sy.evs E g (l.drop n) = (Sy.evs E g l).drop n := by
        intro l
        induction l with
        | nil => intro n; simp [Sy.evs]
        | cons s r ih => intro n; cases n <;> simp [Sy.evs, ih]
       have hcur : cur' = (Sy.evs E g (x.c.take off ++ vs ++ x.c.drop (off + vs.length))).toArray := by
        apply Array.toList_inj.1
        rw [q5]
        simp only [evapp, evtake, evdrop, hlen]
       refine hK _ _ ⟨?_, ?_, ?_, ?_, h.one⟩ ⟨?_, ?_⟩
       · rw [hd, hS]; exact h.act
       · rw [hS]
         intro b' x' hx'
         rw [List.getElem?_modify] at hx'
         by_cases hbb : b = b'
         · subst hbb
           simp only [hx, if_pos, Option.map_eq_map, Option.map_some, Option.some.injEq] at hx'
           subst hx'
           rw [q3, hcur]
         · simp only [if_neg hbb, Option.map_eq_map, Option.map_id_fun', id_eq] at hx'
           have hb' : b' < (tlS ops R tl i).2.length := (List.getElem?_eq_some_iff.1 (by simpa using hx')).1
           have hx2 : (tlS ops R tl i).2[b']? = some x' := by simpa using hx'
           rw [setCells_far _ _ _ (fun he => hbb (h.inj b b' x x' hx hx2 (.inl hro) he.symm))]
           exact h.box b' x' hx2
       · rw [hS]
         intro b' x' hx'
         obtain ⟨y', hy', hyr⟩ := modify_ro (f := fun c => c.take off ++ vs ++ c.drop (off + vs.length)) hx'
         rw [s4, hyr]; exact h.low b' y' hy'
       · rw [hS]
         intro b1 b2 x1 x2 h1 h2
         obtain ⟨y1, hy1, hr1⟩ := modify_ro (f := fun c => c.take off ++ vs ++ c.drop (off + vs.length)) h1
         obtain ⟨y2, hy2, hr2⟩ := modify_ro (f := fun c => c.take off ++ vs ++ c.drop (off + vs.length)) h2
         rw [hr1, hr2]
         exact h.inj b1 b2 y1 y2 hy1 hy2
       · refine ⟨hr.first.os ▸ s1, hr.first.tape ▸ s2, hr.first.output ▸ s3, by rw [s4]; exact hr.first.size, fun k hk => ?_⟩
         rw [setCells_far _ _ _ (fun he => by have := (h.low b x hx).1 hro; omega)]
         exact hr.first.block k hk
       · intro j hw hj
         refine (hr.at_ j hw hj).trans ⟨s1, s2, s3, by rw [s4]; exact Nat.le_refl _, fun k hk => ?_⟩
         by_cases hkb : k = g b
         · subst hkb
           exact .inr ⟨_, _, x.t, h8.2, hh, q3⟩
         · exact .inl (setCells_far _ _ _ hkb)
     | _ => simp [hop] at hsem
end
section
variable {P : Program} {ops : Array Oper} {R : Rg} {tl : List Tl} {u : TypeId} {w0 : World}
theorem arr_ext {a b : Array Value} (hs : a.size = b.size) (h : ∀ i, a.getD i undef = b.getD i undef) : a = b := by
 apply Array.ext hs
 intro i h1 h2
 have := h i
 simpa [Array.getD, h1, h2] using this
theorem nu_gal {b : Nat} (h : b < nuOf ops R) : gal ops R b = false := by
 unfold nuOf at h
 cases hf : (List.range R.bx.length).find? (gal ops R) with
 | none =>
   rw [hf] at h
   have := List.find?_eq_none.1 hf b (List.mem_range.2 h)
   simpa using this
 | some i =>
   rw [hf] at h
   have := (List.find?_range_eq_some.1 hf).2.2 b h
   simpa using this
theorem to_tail {Pr : List Value → Prop} (S : Sta P ops R Pr) {Fin : List Value → List World → Prop} {L : Nat → Bool} {m : Nat} {E : List Value} {g : Nat → Nat} {H : List World} {a : Act} {W : World} (I : Inv P ops R u w0 Fin Pr L m E g H a W) (hL : ∀ j, j < R.n → L j = true) :
 St w0 (frame1 ops R) (R.bx.take (nuOf ops R)) E g a W ∧ Fin E H ∧ nvAt R R.ch.length = E.length := by
 have hm : R.ch.length ≤ m := by
  refine Nat.le_of_not_lt fun hlt => ?_
  have hk : R.ch[m]? = some R.ch[m] := List.getElem?_eq_getElem hlt
  obtain ⟨h1, h2, h3⟩ := S.ch _ _ hk
  have := (I.call _ h1 h2).1 (hL _ h1)
  omega
 have hal : ∀ b x, (R.bx.take (nuOf ops R))[b]? = some x → alive ops R L E b ∧ R.bx[b]? = some x := by
  intro b x hx
  obtain ⟨hb, -⟩ := List.getElem?_eq_some_iff.1 hx
  rw [List.length_take] at hb
  have hnu : b < nuOf ops R := by omega
  rw [List.getElem?_take_of_lt hnu] at hx
  refine ⟨?_, hx⟩
  rcases Nat.lt_or_ge b R.nb with h | h
  · exact .inl h
  · obtain ⟨j, hj, hk⟩ := S.al b h (by omega)
    refine .inr ⟨j, hj, hL j hj, hk, not_gal hj hk fun hg => ?_⟩
    have := nu_gal hnu
    rw [hg] at this; cases this
 refine ⟨⟨?_, ?_, ?_, ?_, I.one⟩, ?_, ?_⟩
 · have : a.tmps = (Sy.evs E g (frame1 ops R)).toArray := by
    refine arr_ext (by simp [I.size, Sy.evs_length, frame1]) (fun s => ?_)
    have hr : (Sy.evs E g (frame1 ops R)).toArray.getD s undef = ((frame1 ops R).getD s default).ev E g := by
     have := Sy.evs_getD E g (frame1 ops R) s
     rw [show (default : Sy) = .lit undef from rfl]
     simpa [Array.getD_eq_getD_getElem?, List.getD_eq_getElem?_getD] using this
    rw [hr]
    by_cases hs : s < R.F.length
    · have h1 : (frame1 ops R).getD s default = match slotOf ops R s with | some j => (R.p j).full | none => R.F.getD s default := by
       unfold frame1
       rw [List.getD_eq_getElem?_getD, List.getElem?_map, List.getElem?_range hs]; rfl
      rw [h1]
      cases hsl : slotOf ops R s with
      | none => exact I.old s fun j hj _ => slot_none hsl j hj
      | some j =>
        obtain ⟨hj, hd⟩ := slot_some hsl
        exact I.new j s hj (hL j hj) hd
    · have h1 : (frame1 ops R).getD s default = .lit undef := by
       rw [List.getD_eq_getElem?_getD, List.getElem?_eq_none (by simp [frame1]; omega)]; rfl
      rw [h1, Array.getD_eq_getD_getElem?, Array.getElem?_eq_none (by rw [I.size]; omega)]
      simp [Sy.ev]
   have hd := I.defers
   cases a
   simp only at hd this
   rw [hd, this]
 · intro b x hx
   exact I.box b x (hal b x hx).1 (hal b x hx).2
 · intro b x hx; exact I.low b x (hal b x hx).1 (hal b x hx).2
 · intro b b' x x' hx hx'; exact I.inj b b' x x' (hal b x hx).1 (hal b' x' hx').1 (hal b x hx).2 (hal b' x' hx').2
 · have := I.obl
   rw [List.drop_eq_nil_of_le hm] at this
   exact this
 · rw [I.len]; unfold nvAt
   rw [List.take_of_length_le hm, List.take_of_length_le (Nat.le_refl _)]
theorem region_core {id : Nat} {draw : Bool} {Q : Exit → Act → World → Prop} (hm : P.follows .mixedOrders = true) (hac : Acyclic ops = true) {Pr : List Value → Prop} (hPr : ∀ E xs, Pr E → Pr (E ++ xs)) (S : Sta P ops R Pr) (T : StaT P ops R tl draw u Pr) (hnb : R.nb ≤ R.bx.length)
 {E : List Value} {g : Nat → Nat} {H : List World} {a : Act} {W : World} (h0 : St w0 R.F (R.bx.take R.nb) E g a W) (hn : E.length = R.n0) (hp0 : Pr E) (hr : Reach u w0 H W)
 (hobl : Obl P u w0 R.bx (fun E H => ∀ a g W, Reach u w0 H W → St w0 (tlS ops R tl tl.length).1 (tlS ops R tl tl.length).2 E g a W → Q .normal a W) (R.ch.map (cpOf ops R)) E H) :
 (Code.region id ops draw).wp P Q a W := by
 obtain ⟨Fin, hFin⟩ : ∃ Fin : List Value → List World → Prop, Fin = fun E H => ∀ a g W, Reach u w0 H W → St w0 (tlS ops R tl tl.length).1 (tlS ops R tl tl.length).2 E g a W → Q .normal a W := ⟨_, rfl⟩
 rw [← hFin] at hobl
 have init : ∀ W', St w0 R.F (R.bx.take R.nb) E g a W' → Reach u w0 H W' → Inv P ops R u w0 Fin Pr (fun j => (Array.replicate ops.size false).getD j false) 0 E g H a W' := by
  intro W' h0 hr
  have hf : ∀ j, (Array.replicate ops.size false).getD j false = false := by
   intro j
   by_cases h : j < ops.size
   · simp [Array.getD, h]
   · simp [Array.getD, h]
  have hal : ∀ b, alive ops R (fun j => (Array.replicate ops.size false).getD j false) E b → b < R.nb := by
   rintro b (h | ⟨j, hj, hL, -, -⟩)
   · exact h
   · exact absurd ((hf j).symm.trans hL) (by simp)
  have hlen : (R.bx.take R.nb).length = R.nb := by simp; omega
  refine ⟨by rw [h0.act], by rw [h0.act]; simp [Sy.evs_length], ?_, ?_, ?_, h0.one, hp0, ?_, ?_, ?_, ?_, ?_, ?_, ?_, ?_, ?_, hr⟩
  · intro s _
    exact h0.eval (.tmp s)
  · intro j d hj hL; exact absurd ((hf j).symm.trans hL) (by simp)
  · rw [hn]; simp [nvAt]
  · intro k hk hc; exact ⟨fun h => absurd ((hf k).symm.trans h) (by simp), fun h => absurd h (Nat.not_lt_zero _)⟩
  · intro j hj hL; exact absurd ((hf j).symm.trans hL) (by simp)
  · intro j o hj hL; exact absurd ((hf j).symm.trans hL) (by simp)
  · intro b x hb hx
    refine h0.box b x ?_
    rw [List.getElem?_take_of_lt (hal b hb)]; exact hx
  · intro b x hb hx; exact h0.low b x (by rw [List.getElem?_take_of_lt (hal b hb)]; exact hx)
  · intro b b' x x' hb hb' hx hx'; exact h0.inj b b' x x' (by rw [List.getElem?_take_of_lt (hal b hb)]; exact hx) (by rw [List.getElem?_take_of_lt (hal b' hb')]; exact hx')
  · intro b hb; exact ⟨_, List.getElem?_eq_getElem (Nat.lt_of_lt_of_le (hal b hb) hnb)⟩
  · intro j hj hL; exact absurd ((hf j).symm.trans hL) (by simp)
  · exact hobl
 have hf : ∀ j, R.n ≤ j → (Array.replicate ops.size false).getD j false = false := by
  intro j _
  by_cases h : j < ops.size
  · simp [Array.getD, h]
  · simp [Array.getD, h]
 refine wp_region_both hm hac (I := fun L a W => (∃ m E g H, Inv P ops R u w0 Fin Pr (fun j => L.getD j false) m E g H a W ∧ ∀ j, R.n ≤ j → L.getD j false = false) ∨
  (∃ i E g H, i ≤ tl.length ∧ (∀ j, L.getD j false = true ↔ j < R.n + i) ∧ St w0 (tlS ops R tl i).1 (tlS ops R tl i).2 E g a W ∧ Reach u w0 H W ∧ Fin E H ∧ nvAt R R.ch.length = E.length ∧ Pr E))
  (.inl ⟨0, E, g, H, init W h0 hr, hf⟩) (.inl ⟨0, E, g, H, init W.drew (h0.next (below_drew yr)) (hr.next (below_drew yr)), hf⟩) ?_ ?_
 · intro k o ho L a W hsz hnl haft hord hI K hK
   have hk : k < ops.size := by
    refine Classical.byContradiction fun hc => ?_
    rw [Array.getElem?_eq_none (by omega)] at ho
    cases ho
   have haft' : ∀ e ∈ o.after, Region.binds .any e = true → L.getD e.on false = true := by
    intro e he hb
    rw [Array.all_eq_true'] at haft
    have := haft e he
    rw [hb] at this
    simpa using this
   have hnl' := not_listed hnl
   have hedge : ∀ i, edge ops k i = true → L.getD i false = true := by
    intro i hi
    obtain ⟨e, he, hb, rfl⟩ := edge_of k i ho hi
    exact haft' e he hb
   have tail : ∀ i E g H, i < tl.length → k = R.n + i → (∀ j, L.getD j false = true ↔ j < R.n + i) → St w0 (tlS ops R tl i).1 (tlS ops R tl i).2 E g a W → Reach u w0 H W → Fin E H → nvAt R R.ch.length = E.length → Pr E →
    if Region.wanted o (yielded ops a.tmps) = true then Oper.wp P o a W K Q else K (a.put o.dst undef) W := by
    intro i E g H hi hki hL hst hr hfin hnv hpre
    subst hki
    refine step_tail T hi ho hst hr hnv hpre ?_
    intro a' W' h1 h2
    refine hK a' W' (.inr ⟨i + 1, E, g, H, hi, ?_, h1, h2, hfin, hnv, hpre⟩)
    intro j
    by_cases hj : j = R.n + i
    · subst hj
      rw [get_eq (by omega)]; simp
    · rw [get_ne (Ne.symm hj), hL j]; omega
   rcases hI with ⟨m, E, g, H, hI, hn⟩ | ⟨i, E, g, H, hi, hL, hst, hr, hfin, hnv, hpre⟩
   · rcases Nat.lt_or_ge k R.n with hkn | hkn
     · refine step_prefix hPr S hI hkn ho hnl' haft' ?_
       intro m' E' g' H' a' W' hI'
       refine hK a' W' (.inl ⟨m', E', g', H', ?_, ?_⟩)
       · have : (fun j => (L.setIfInBounds k true).getD j false) = add (fun j => L.getD j false) k := by
          funext j
          by_cases hj : j = k
          · subst hj
            rw [get_eq (by omega), add_k]
          · rw [get_ne (Ne.symm hj)]; simp [add, hj]
         rw [this]; exact hI'
       · intro j hj
         rw [get_ne (by omega)]; exact hn j hj
     · obtain ⟨i, rfl⟩ : ∃ i, k = R.n + i := ⟨k - R.n, by omega⟩
       have hi : i < tl.length := by have := T.size; omega
       have hs := T.k i hi
       have hcov : ∀ j, j < R.n + i → L.getD j false = true := by
        unfold staticT at hs
        rw [ho, List.getElem?_eq_getElem hi] at hs
        simp only [Bool.and_eq_true, Bool.or_eq_true, Bool.not_eq_true', List.all_eq_true, List.mem_range] at hs
        intro j hj
        rcases hs.1.2 with h | h
        · exact hord h j hj
        · exact hits_closed (L := fun j => L.getD j false) hI.clos 3 _ j (h j hj) hedge
       have hi0 : i = 0 := by
        refine Classical.byContradiction fun h0 => ?_
        have h1 := hcov R.n (by omega)
        rw [hn R.n (Nat.le_refl _)] at h1
        cases h1
       subst hi0
       obtain ⟨h1, h2, h3⟩ := to_tail S hI (fun j hj => hcov j (by omega))
       refine tail 0 E g H hi rfl ?_ h1 hI.reach h2 h3 hI.pre
       intro j
       constructor
       · intro h
         refine Classical.byContradiction fun hc => ?_
         rw [hn j (by omega)] at h; cases h
       · exact fun h => hcov j h
   · have hki : R.n + i ≤ k := by
      refine Nat.le_of_not_lt fun hlt => ?_
      rw [(hL k).2 hlt] at hnl'; cases hnl'
     obtain ⟨i', rfl⟩ : ∃ i', k = R.n + i' := ⟨k - R.n, by omega⟩
     have hi' : i' < tl.length := by have := T.size; omega
     have hs := T.k i' hi'
     unfold staticT at hs
     rw [ho, List.getElem?_eq_getElem hi'] at hs
     simp only [Bool.and_eq_true, Bool.or_eq_true, Bool.not_eq_true', List.all_eq_true, List.mem_range] at hs
     have hcov : ∀ j, j < R.n + i' → L.getD j false = true := by
      intro j hj
      rcases hs.1.2 with h | h
      · exact hord h j hj
      refine hits_closed (L := fun j => L.getD j false) ?_ 3 _ j (h j hj) hedge
      intro j o' hjo hLj e he hb
      have hj2 : j < R.n + i := (hL j).1 hLj
      refine (hL e.on).2 ?_
      have hac' := List.all_eq_true.1 hac j (List.mem_range.2 (by have := T.size; omega))
      rw [hjo] at hac'
      simp only [Option.map_some, Option.getD_some] at hac'
      rw [Array.all_eq_true'] at hac'
      have := hac' e he
      have h3 : e.on < j := by simpa [hb] using this
      omega
     have hii : i' = i := by
      refine Nat.le_antisymm (Nat.le_of_not_lt fun hlt => ?_) (by omega)
      have := (hL _).1 (hcov (R.n + i) (by omega))
      omega
     subst hii
     exact tail i' E g H hi' rfl hL hst hr hfin hnv hpre
 · intro L a W hall hI
   rcases hI with ⟨m, E, g, H, hI, hn⟩ | ⟨i, E, g, H, hi, hL, hst, hr, hfin, hnv, hpre⟩
   · have h0 : tl.length = 0 := by
      refine Classical.byContradiction fun hc => ?_
      have h1 := hall R.n (by have := T.size; omega)
      rw [hn R.n (Nat.le_refl _)] at h1; cases h1
     obtain ⟨h1, h2, h3⟩ := to_tail S hI (fun j hj => hall j (by have := S.n; omega))
     rw [hFin] at h2
     refine h2 a g W hI.reach ?_
     rw [h0]; exact h1
   · have hii : i = tl.length := by
      refine Nat.le_antisymm hi (Nat.le_of_not_lt fun hlt => ?_)
      have := (hL (R.n + i)).1 (hall _ (by have := T.size; omega))
      omega
     subst hii
     rw [hFin] at hfin
     exact hfin a g W hr hst
end
section
variable {P : Program} {ops : Array Oper} {u : TypeId} {w0 : World}
def entB (P : Program) (f : FuncId) : Bool := match P.funcs[f]? with | some fn => !(fn.name == "runtime.NumGoroutine") && fn.body.isSome | none => false
theorem entB_ok {f : FuncId} (h : entB P f = true) : Enters P f := by
 unfold entB at h
 cases hf : P.funcs[f]? with
 | none => rw [hf] at h; cases h
 | some fn =>
   rw [hf] at h
   simp only [Bool.and_eq_true, Bool.not_eq_true'] at h
   obtain ⟨c, hc⟩ := Option.isSome_iff_exists.1 h.2
   exact enters_of hf h.1 hc
def entL (P : Program) (R : Rg) : Bool := (List.range R.n).all fun k => match (R.p k).kd with | .cl _ f _ _ _ => entB P f | _ => true
theorem entL_ok {R : Rg} (h : entL P R = true) : ∀ k, k < R.n → ∀ i f args nv bs, (R.p k).kd = .cl i f args nv bs → Enters P f := by
 intro k hk i f args nv bs hkd
 unfold entL at h
 rw [List.all_eq_true] at h
 have := h k (List.mem_range.2 hk)
 rw [hkd] at this
 exact entB_ok this
def chkB (ops : Array Oper) (R : Rg) (tl : List Tl) (dr : Bool) (u : TypeId) : Bool :=
 decide (ops.size = R.n + tl.length) && Acyclic ops && decide (R.nb ≤ R.bx.length) &&
 (List.range R.n).all (staticK ops R) && Sy.oks R.n0 (List.range R.nb) R.F && (R.bx.take R.nb).all (fun x => Sy.oks R.n0 (List.range R.nb) x.c) &&
 (List.range R.ch.length).all (fun i => match R.ch[i]? with | some k => decide (k < R.n) && (R.p k).kd.call && (R.p k).kd.ci == i | none => true) &&
 (List.range R.bx.length).all (fun b => decide (b < R.nb) || (List.range R.n).any (fun j => match (R.p j).kd with | .al b' => b' == b | _ => false)) &&
 (List.range tl.length).all (staticT ops R tl dr u (nvAt R R.ch.length))
def semL (P : Program) (ops : Array Oper) (R : Rg) (tl : List Tl) (E : List Value) (g : Nat → Nat) : List Out × List Value × List Out :=
 ((List.range R.n).map (lhsK P ops R E g), (List.range R.n).map fun k => (R.p k).full.ev E g, (List.range tl.length).map (lhsT P ops R tl E g))
def semR (ops : Array Oper) (R : Rg) (tl : List Tl) (E : List Value) (g : Nat → Nat) : List Out × List Value × List Out :=
 ((List.range R.n).map (rhsK ops R E g), (List.range R.n).map (grdK ops R E g), (List.range tl.length).map (rhsT tl E g))
theorem map_range_eq {α : Type} {f f' : Nat → α} {n : Nat} (h : (List.range n).map f = (List.range n).map f') : ∀ k, k < n → f k = f' k := by
 intro k hk
 have := congrArg (fun l => l[k]?) h
 simpa [List.getElem?_range hk] using this
def noFx (R : Rg) : Bool := (List.range R.n).all fun k => match (R.p k).kd with | .fx => false | _ => true
theorem region_fx {id : Nat} {draw : Bool} {Q : Exit → Act → World → Prop} (R : Rg) (tl : List Tl) (F' : List Sy) (bx' : List Bx) {F0 : List Sy} {bx0 : List Bx} {E : List Value} {g : Nat → Nat} {H : List World} {a : Act} {W : World}
 (hm : P.follows .mixedOrders = true) (hc : chkB ops R tl draw u = true) (hent : ∀ k, k < R.n → ∀ i f args nv bs, (R.p k).kd = .cl i f args nv bs → Enters P f) (hs : ∀ xs g, semL P ops R tl (E ++ xs) g = semR ops R tl (E ++ xs) g) (hF : tlS ops R tl tl.length = (F', bx'))
 (hfx : ∀ k o, k < R.n → ops[k]? = some o → (R.p k).kd = .fx → ∀ xs g, runP P (execOp (rho ops R o.guard (E ++ xs) g) o) = some (.value ((R.p k).res.ev (E ++ xs) g)))
 (h0 : St w0 F0 bx0 E g a W) (hq : (R.F, R.bx.take R.nb, E.length) = (F0, bx0, R.n0)) (hr : Reach u w0 H W)
 (hobl : Obl P u w0 R.bx (fun E H => ∀ a g W, Reach u w0 H W → St w0 F' bx' E g a W → Q .normal a W) (R.ch.map (cpOf ops R)) E H) :
 (Code.region id ops draw).wp P Q a W := by
 unfold chkB at hc
 simp only [Bool.and_eq_true, decide_eq_true_eq] at hc
 obtain ⟨⟨⟨⟨⟨⟨⟨⟨c1, c2⟩, c3⟩, c4⟩, c5⟩, c6⟩, c7⟩, c8⟩, c9⟩ := hc
 rw [List.all_eq_true] at c4 c6 c7 c8 c9
 have hs1 : ∀ k, k < R.n → ∀ E' g, (∃ xs, E' = E ++ xs) → lhsK P ops R E' g k = rhsK ops R E' g k ∧ (R.p k).full.ev E' g = grdK ops R E' g k := by
  rintro k hk _ g ⟨xs, rfl⟩
  have h := hs xs g
  unfold semL semR at h
  simp only [Prod.mk.injEq] at h
  exact ⟨map_range_eq h.1 k hk, map_range_eq h.2.1 k hk⟩
 have S : Sta P ops R (fun E' => ∃ xs, E' = E ++ xs) := by
  refine ⟨by omega, fun k hk => c4 k (List.mem_range.2 hk), hs1, c5, ?_, ?_, ?_, ?_, hent⟩
  · intro b x hb hx
    refine c6 x ?_
    refine List.mem_of_getElem? (i := b) ?_
    rw [List.getElem?_take_of_lt hb]; exact hx
  · intro i k hk
    have hi : i < R.ch.length := (List.getElem?_eq_some_iff.1 hk).1
    have := c7 i (List.mem_range.2 hi)
    rw [hk] at this
    simp only [Bool.and_eq_true, decide_eq_true_eq, beq_iff_eq] at this
    exact ⟨this.1.1, this.1.2, this.2⟩
  · intro b h1 h2
    have := c8 b (List.mem_range.2 h2)
    simp only [Bool.or_eq_true, decide_eq_true_eq, List.any_eq_true, List.mem_range] at this
    rcases this with h | ⟨j, hj, h⟩
    · omega
    · refine ⟨j, hj, ?_⟩
      cases hkd : (R.p j).kd with
      | al b' => rw [hkd] at h; simp only [beq_iff_eq] at h; rw [h]
      | _ => rw [hkd] at h; cases h
  · rintro k o hk ho hkd _ g ⟨xs, rfl⟩
    exact hfx k o hk ho hkd xs g
 have T : StaT P ops R tl draw u (fun E' => ∃ xs, E' = E ++ xs) := by
  refine ⟨c1, fun i hi => c9 i (List.mem_range.2 hi), ?_⟩
  rintro i hi _ g ⟨xs, rfl⟩
  have h := hs xs g
  unfold semL semR at h
  simp only [Prod.mk.injEq] at h
  exact map_range_eq h.2.2 i hi
 simp only [Prod.mk.injEq] at hq
 obtain ⟨rfl, rfl, hn⟩ := hq
 refine region_core hm c2 (fun E' xs ⟨ys, h⟩ => ⟨ys ++ xs, by rw [h, List.append_assoc]⟩) S T c3 h0 hn ⟨[], by simp⟩ hr ?_
 rw [hF]; exact hobl
theorem region_ok {id : Nat} {draw : Bool} {Q : Exit → Act → World → Prop} (R : Rg) (tl : List Tl) (F' : List Sy) (bx' : List Bx) {F0 : List Sy} {bx0 : List Bx} {E : List Value} {g : Nat → Nat} {H : List World} {a : Act} {W : World}
 (hm : P.follows .mixedOrders = true) (hc : (chkB ops R tl draw u && noFx R) = true) (hent : ∀ k, k < R.n → ∀ i f args nv bs, (R.p k).kd = .cl i f args nv bs → Enters P f) (hs : ∀ xs g, semL P ops R tl (E ++ xs) g = semR ops R tl (E ++ xs) g) (hF : tlS ops R tl tl.length = (F', bx'))
 (h0 : St w0 F0 bx0 E g a W) (hq : (R.F, R.bx.take R.nb, E.length) = (F0, bx0, R.n0)) (hr : Reach u w0 H W)
 (hobl : Obl P u w0 R.bx (fun E H => ∀ a g W, Reach u w0 H W → St w0 F' bx' E g a W → Q .normal a W) (R.ch.map (cpOf ops R)) E H) :
 (Code.region id ops draw).wp P Q a W := by
 rw [Bool.and_eq_true] at hc
 refine region_fx R tl F' bx' hm hc.1 hent hs hF ?_ h0 hq hr hobl
 intro k o hk ho hkd
 have := List.all_eq_true.1 hc.2 k (List.mem_range.2 hk)
 rw [hkd] at this; cases this
def FxL (P : Program) (ops : Array Oper) (R : Rg) (E : List Value) : List Nat → Prop
 | [] => True
 | k :: r => (match ops[k]? with | some o => ∀ xs g, runP P (execOp (rho ops R o.guard (E ++ xs) g) o) = some (.value ((R.p k).res.ev (E ++ xs) g)) | none => True) ∧ FxL P ops R E r
theorem FxL_ok {R : Rg} {E : List Value} : ∀ {ks : List Nat}, FxL P ops R E ks → ∀ k o, k ∈ ks → ops[k]? = some o → ∀ xs g, runP P (execOp (rho ops R o.guard (E ++ xs) g) o) = some (.value ((R.p k).res.ev (E ++ xs) g))
 | [], _, k, o, hk, _ => by cases hk
 | j :: r, h, k, o, hk, ho => by
   rcases List.mem_cons.1 hk with rfl | hk
   · have := h.1
     rw [ho] at this; exact this
   · exact FxL_ok h.2 k o hk ho
theorem region_fl {id : Nat} {draw : Bool} {Q : Exit → Act → World → Prop} (ks : List Nat) (R : Rg) (tl : List Tl) (F' : List Sy) (bx' : List Bx) {F0 : List Sy} {bx0 : List Bx} {E : List Value} {g : Nat → Nat} {H : List World} {a : Act} {W : World}
 (hm : P.follows .mixedOrders = true) (hc : (chkB ops R tl draw u && (List.range R.n).all fun k => match (R.p k).kd with | .fx => ks.contains k | _ => true) = true) (hent : ∀ k, k < R.n → ∀ i f args nv bs, (R.p k).kd = .cl i f args nv bs → Enters P f) (hs : ∀ xs g, semL P ops R tl (E ++ xs) g = semR ops R tl (E ++ xs) g) (hF : tlS ops R tl tl.length = (F', bx'))
 (hfx : FxL P ops R E ks) (h0 : St w0 F0 bx0 E g a W) (hq : (R.F, R.bx.take R.nb, E.length) = (F0, bx0, R.n0)) (hr : Reach u w0 H W)
 (hobl : Obl P u w0 R.bx (fun E H => ∀ a g W, Reach u w0 H W → St w0 F' bx' E g a W → Q .normal a W) (R.ch.map (cpOf ops R)) E H) :
 (Code.region id ops draw).wp P Q a W := by
 rw [Bool.and_eq_true] at hc
 refine region_fx R tl F' bx' hm hc.1 hent hs hF ?_ h0 hq hr hobl
 intro k o hk ho hkd
 have := List.all_eq_true.1 hc.2 k (List.mem_range.2 hk)
 rw [hkd] at this
 exact FxL_ok hfx k o (List.contains_iff_mem.1 this) ho
theorem fn_enter {f : FuncId} {fn : Func} {c : Code} {args : Array Value} {w : World} {K : Ending → World → Prop} (hf : P.funcs[f]? = some fn) (hb : fn.body = some c) (F : List Sy) (E : List Value)
 (hF : args ++ Array.replicate (fn.ntmps - args.size) undef = (Sy.evs E (fun _ => 0) F).toArray) (h1 : (E.all (·.oneCell')) = true)
 (h : ∀ a, St w F [] E (fun _ => 0) a w → Reach u w [] w → c.wp P (bodyPost P fn K) a w) : Calls P f args w K := by
 refine calls_of_wp hf hb (h _ ⟨by rw [hF], ?_, ?_, ?_, h1⟩ (.zero w))
 · intro b x hx; simp at hx
 · intro b x hx; simp at hx
 · intro b b' x x' hx; simp at hx
def resL (P : Program) (F : List Sy) (bx : List Bx) (E : List Value) (g : Nat → Nat) : List ResultVar → Option (List Value)
 | [] => some []
 | .tmp t :: r => (resL P F bx E g r).map fun l => (F.getD t default).ev E g :: l
 | .cell t ty :: r =>
   match F.getD t default with
   | .ptr b o => (match bx[b]? with
     | some x => (match loadB P ty (Sy.evs E g x.c) o with
       | some v => (resL P F bx E g r).map fun l => v :: l
       | none => none)
     | none => none)
   | _ => none
def answer (vs : List Value) : Value := match vs with | [v] => v | vs => .tuple vs.toArray
theorem resL_ok {F : List Sy} {bx : List Bx} {E : List Value} {g : Nat → Nat} {a : Act} {W : World} (h : St w0 F bx E g a W) : ∀ (rs : List ResultVar) (vs : List Value), resL P F bx E g rs = some vs →
 (rs.mapM (m := Sem) fun | .tmp t => pure (a.tmps.getD t undef) | .cell p t => do loadVar t (← asAddr (a.tmps.getD p undef))).run P W = .ok vs W
 | [], vs, hv => by
   simp only [resL, Option.some.injEq] at hv
   subst hv; rfl
 | .tmp t :: r, vs, hv => by
   simp only [resL, Option.map_eq_some_iff] at hv
   obtain ⟨l, hl, rfl⟩ := hv
   have := resL_ok h r l hl
   have he : a.tmps.getD t undef = (F.getD t default).ev E g := h.eval (.tmp t)
   simp only [List.mapM_cons, Sem.run_bind, Sem.run_pure, Result.andThen_ok, this, he]
 | .cell t ty :: r, vs, hv => by
   have he : a.tmps.getD t undef = (F.getD t default).ev E g := h.eval (.tmp t)
   simp only [resL] at hv
   cases hF : F.getD t default with
   | ptr b o =>
     rw [hF] at hv he
     simp only at hv
     cases hx : bx[b]? with
     | none => rw [hx] at hv; cases hv
     | some x =>
       rw [hx] at hv
       simp only at hv
       cases hl : loadB P ty (Sy.evs E g x.c) o with
       | none => rw [hl] at hv; cases hv
       | some v =>
         rw [hl] at hv
         simp only [Option.map_eq_some_iff] at hv
         obtain ⟨l, hl2, rfl⟩ := hv
         have hr := resL_ok h r l hl2
         have hld := load_ok (h.box b x hx) hl
         simp only [Instr.loadAt, Instr.sureAddr, Sem.run_bind, Sem.run_pure, Result.andThen_ok] at hld
         have ha : (asAddr (.pointer (some ⟨g b, o, none⟩))).run P W = .ok ⟨g b, o, none⟩ W := rfl
         simp only [List.mapM_cons, Sem.run_bind, Sem.run_pure, Result.andThen_ok, he, Sy.ev, ha, hld, hr]
   | _ => rw [hF] at hv; cases hv
theorem ret_ok {F : List Sy} {bx : List Bx} {E : List Value} {g : Nat → Nat} {a : Act} {W : World} {fn : Func} {K : Ending → World → Prop} (h : St w0 F bx E g a W) (vs : List Value) (hv : resL P F bx E g fn.results.toList = some vs) (hK : K (.returned (answer vs)) W) :
 bodyPost P fn K .ret a W := by
 refine ⟨by rw [h.act], answer vs, ?_, hK⟩
 have := resL_ok h _ _ hv
 unfold results
 rw [Array.mapM_eq_mapM_toList]
 simp only [Sem.run_bind, Sem.run_map, Sem.run_pure]
 refine (congrArg (fun r : Result (List Value) => (r.andThen fun a w' => Result.ok a.toArray w').andThen fun a w' => Result.ok (if h : a.size = 1 then a[0] else Value.tuple a) w') this).trans ?_
 cases vs with
 | nil => rfl
 | cons v r =>
   cases r with
   | nil => rfl
   | cons v' r => simp [answer]
end
def slA : Value → Option Addr | .slice a _ _ => a | _ => none
def slN : Value → Nat | .slice _ n _ => n | _ => 0
def slC : Value → Nat | .slice _ _ c => c | _ => 0
def tiF (k : IntKind) : List Value → Value | [v] => .int k (intOf v) | _ => undef
def tsF : List Value → Value | [v] => .slice (slA v) (slN v) (slC v) | _ => undef
def clF (n : FuncId) (l : List Value) : Value := .func (.func n) #[] l.toArray
def agF (l : List Value) : Value := .agg l.toArray
def tuF (l : List Value) : Value := .tuple l.toArray
def slF (n : Nat) : List Value → Value | [.pointer p] => .slice p n n | _ => undef
def gdF (w : Bool) : List Value → Value | [c, v] => grdv w c v | _ => undef
def lnF : List Value → Value | [.slice _ n _] => .int .i64 n | _ => undef
def mxF : List Value → Value | [.int k x, .int _ y] => .int k (if y > x then y else x) | _ => undef
def mnF : List Value → Value | [.int k x, .int _ y] => .int k (if y < x then y else x) | _ => undef
def noF : List Value → Value | [.bool b] => .bool !b | _ => undef
def ngF : List Value → Value | [.int k x] => .int k (k.wrap (0 - x)) | _ => undef
def cvF (k : IntKind) : List Value → Value | [.int _ x] => .int k (k.wrap x) | _ => undef
def boF (o : BinOp) : List Value → Value
 | [.int k x, .int _ y] =>
   match o with
   | .add => .int k (k.wrap (x + y))
   | .sub => .int k (k.wrap (x - y))
   | .mul => .int k (k.wrap (x * y))
   | .quo => .int k (k.wrap (x.tdiv y))
   | .rem => .int k (x.tmod y)
   | .and => .int k (k.wrap (BitVec.ofInt k.bits x &&& BitVec.ofInt k.bits y).toNat)
   | .or => .int k (k.wrap (BitVec.ofInt k.bits x ||| BitVec.ofInt k.bits y).toNat)
   | .shl => .int k (k.wrap (x * 2 ^ min y.toNat k.bits))
   | .shr => .int k (x.fdiv (2 ^ min y.toNat k.bits))
   | .eql => .bool (x == y)
   | .neq => .bool (x != y)
   | .lss => .bool (x < y)
   | .leq => .bool (x ≤ y)
   | .gtr => .bool (x > y)
   | .geq => .bool (x ≥ y)
   | _ => undef
 | [.bool x, .bool y] =>
   match o with
   | .eql => .bool (x == y)
   | .neq => .bool (!(x == y))
   | _ => undef
 | _ => undef
abbrev vb (i : Nat) : Sy := .fn tbF [.var i]
abbrev vi (i : Nat) : Sy := .fn (tiF .i64) [.var i]
abbrev vu (i : Nat) : Sy := .fn (tiF .u64) [.var i]
abbrev vs (i : Nat) : Sy := .fn tsF [.var i]
abbrev ag (l : List Sy) : Sy := .fn agF l
abbrev tu (l : List Sy) : Sy := .fn tuF l
abbrev osl (p : Sy) (n : Nat) : Sy := .fn (slF n) [p]
abbrev bo (o : BinOp) (a b : Sy) : Sy := .fn (boF o) [a, b]
abbrev f1 (f : List Value → Value) (a : Sy) : Sy := .fn f [a]
abbrev f2 (f : List Value → Value) (a b : Sy) : Sy := .fn f [a, b]
abbrev pk (a b c : Sy) : Sy := .fn pkF [a, b, c]
abbrev U : Sy := .lit undef
abbrev li (n : Int) : Sy := .lit (.int .i64 n)
abbrev lu (n : Int) : Sy := .lit (.int .u64 n)
abbrev lb (b : Bool) : Sy := .lit (.bool b)
abbrev ps (b o : Nat) : Sy := .ptr b o
def fs (F : List Sy) : List (Nat × Sy) → List Sy
 | [] => F
 | (i, v) :: r => fs (F.set i v) r
abbrev bb (t : TypeId) (c : List Sy) : Bx := ⟨t, c, false⟩
abbrev rb (t : TypeId) (c : List Sy) : Bx := ⟨t, c, true⟩
abbrev pv (s : Sy) (n : Nat) : Pn := ⟨s, n, [], .val, s⟩
abbrev pl (s : Sy) (n b o : Nat) : Pn := ⟨s, n, [], .ld b o, s⟩
abbrev pa (b n : Nat) : Pn := ⟨.ptr b 0, n, [b], .al b, .ptr b 0⟩
abbrev pc (s : Sy) (i : Nat) (f : FuncId) (a : List Sy) (nv : Nat) : Pn := ⟨s, i, [], .cl i f a nv [], s⟩
abbrev gd (w : Bool) (c s : Sy) : Sy := .fn (gdF w) [c, s]
theorem mx : (Tryz.prog).follows .mixedOrders = true := by kernel_rfl
theorem St.cnd {w0 : World} {F : List Sy} {bx : List Bx} {E : List Value} {g : Nat → Nat} {a : Act} {W : World} (h : St w0 F bx E g a W) {c : Operand} {t : Bool} (he : rhoF F E g c = .bool t) : a.eval c = .bool t := (h.eval c).trans he
theorem yv {b w : Bool} (h : yieldsV (.bool b) = some w) : b = w := Option.some.inj h
theorem yn {b w : Bool} (h : yieldsV (.bool b) ≠ some w) : b = !w := by
 cases b <;> cases w <;> first | rfl | exact absurd rfl h
theorem exit_in {id : Nat} {Q : Exit → Act → World → Prop} {a : Act} {W : World} (h : Q .normal a W) : Exit.inBlock id Q (.exit id) a W := by
 show (if id = id then _ else _)
 rw [if_pos rfl]; exact h
theorem then_ret {K : Act → World → Prop} {Q : Exit → Act → World → Prop} {a : Act} {W : World} (h : Q .ret a W) : Exit.then K Q .ret a W := h
theorem blk_ret {id : Nat} {Q : Exit → Act → World → Prop} {a : Act} {W : World} (h : Q .ret a W) : Exit.inBlock id Q .ret a W := h
theorem then_exit {id : Nat} {K : Act → World → Prop} {Q : Exit → Act → World → Prop} {a : Act} {W : World} (h : Q (.exit id) a W) : Exit.then K Q (.exit id) a W := h
abbrev lz : Sy := .lit (.slice none 0 0)
abbrev o3 : List Sy := [lb false, lz, li 0]
abbrev o6 : List Sy := [lb false, lz, li 0, lb false, lz, li 0]
abbrev jw (l : List Value) (k : Nat) : Sy := .lit (l.getD k undef)
theorem rt {w0 : World} {F : List Sy} {bx : List Bx} {E : List Value} {g : Nat → Nat} {a : Act} {W : World} {fn : Func} {K : Ending → World → Prop} (h : St w0 F bx E g a W) (vs : List Value) (hK : K (.returned (answer vs)) W) (hv : resL Tryz.prog F bx E g fn.results.toList = some vs := by kernel_rfl) :
 Code.ret.wp Tryz.prog (bodyPost Tryz.prog fn K) a W := wp_ret (ret_ok h vs hv hK)
abbrev d3 (k : Nat) : List Sy := [vb k, vs (k + 1), vi (k + 2)]
abbrev i6 (k : Nat) : List Sy := [vb k, vs (k + 1), vi (k + 2), vb (k + 3), vs (k + 4), vi (k + 5)]
abbrev dg (k : Nat) : Sy := ag (d3 k)
abbrev ig (k : Nat) : Sy := ag (i6 k)
theorem rk {u : TypeId} {w0 : World} {ops : Array Oper} {id : Nat} {draw : Bool} {Q : Exit → Act → World → Prop} (R : Rg) (tl : List Tl) (F' : List Sy) (bx' : List Bx) {F0 : List Sy} {bx0 : List Bx} {E : List Value} {g : Nat → Nat} {H : List World} {a : Act} {W : World}
 (h0 : St w0 F0 bx0 E g a W) (hr : Reach u w0 H W) (hobl : Obl Tryz.prog u w0 R.bx (fun E H => ∀ a g W, Reach u w0 H W → St w0 F' bx' E g a W → Q .normal a W) (R.ch.map (cpOf ops R)) E H)
 (hc : (chkB ops R tl draw u && noFx R) = true := by kernel_rfl) (he : entL Tryz.prog R = true := by kernel_rfl) (hs : ∀ xs g, semL Tryz.prog ops R tl (E ++ xs) g = semR ops R tl (E ++ xs) g := by intro xs g; kernel_rfl) (hF : tlS ops R tl tl.length = (F', bx') := by kernel_rfl) (hq : (R.F, R.bx.take R.nb, E.length) = (F0, bx0, R.n0) := by kernel_rfl) :
 (Code.region id ops draw).wp Tryz.prog Q a W := region_ok R tl F' bx' mx hc (entL_ok he) hs hF h0 hq hr hobl
open Go Go.RowKit Go.Proofs.YtkdicconchobfaaGreatDoorW.PrintWords Limb Exq
theorem PL.lat {w w1 : World} {b : Nat} {v : Value} {l : List Nat} (h : PL w b v l) (hb : Lat 64 w w1) : PL w1 b v l := by
 obtain ⟨A, n, c, c', l', h1, h2, h3, h4, hr⟩ := h
 refine ⟨A, n, c, c', l', h1, h2, h3, h4, ?_⟩
 refine Kd.R_mono (Kd.R_step (Kd.R_bound hr) (w1 := w1) ?_) (fun _ _ => trivial)
 rintro k ⟨_, _, hk, q, hq, cells, hc⟩ _
 rcases hb.blk k hk with h | ⟨cs, cs', t, ht, g1, g2⟩
 · exact h
 · rw [hc] at g1
   injection g1 with g1; injection g1 with _ g1
   subst g1
   rcases List.mem_cons.1 hq with rfl | hq
   · exact absurd rfl ht
   · cases hq
theorem PDy.lat {w w1 : World} {b : Nat} {v : Value} {z e : Int} (h : PDy w b v z e) (hb : Lat 64 w w1) : PDy w1 b v z e := by
 obtain ⟨A, n, c, rfl, hr⟩ := h
 exact ⟨A, n, c, rfl, hr.lat hb⟩
theorem PL.ex {w : World} {b : Nat} {v : Value} {l : List Nat} (h : PL w b v l) : ∃ A n c, v = .slice A n c := by
 obtain ⟨A, n, c, c', l', h1, _⟩ := h; exact ⟨A, n, c, h1⟩
def CN (w : World) (v : Value) (m : Nat) : Prop := ∃ A n c, v = .slice A n c ∧ kU.C w A n (limbs m) ∧ (limbs m).length = n ∧ n ≤ c
def PN (w : World) (b : Nat) (v : Value) (m : Nat) : Prop := PL w b v (limbs m)
theorem PN.c {w : World} {b m : Nat} {v : Value} (h : PN w b v m) : CN w v m := by
 obtain ⟨A, c, rfl, h1, h2⟩ := PL.c h
 exact ⟨A, _, c, rfl, h2, rfl, h1⟩
theorem PN.below {w w1 : World} {b m : Nat} {v : Value} (h : PN w b v m) (hb : BL w w1) : PN w1 b v m := PL.below h hb
theorem CN.below {w w1 : World} {m : Nat} {v : Value} (h : CN w v m) (hb : BL w w1) : CN w1 v m := by
 obtain ⟨A, n, c, rfl, h1, h2⟩ := h; exact ⟨A, n, c, rfl, Kd.C_below h1 hb, h2⟩
theorem PN.lat {w w1 : World} {b m : Nat} {v : Value} (h : PN w b v m) (hb : Lat 64 w w1) : PN w1 b v m := PL.lat h hb
theorem PN.lower {w : World} {b b' m : Nat} {v : Value} (h : PN w b v m) (hb : b' ≤ b) : PN w b' v m := PL.lower h hb
theorem PN.ex {w : World} {b m : Nat} {v : Value} (h : PN w b v m) : ∃ A n c, v = .slice A n c := PL.ex h
theorem CN.ex {w : World} {m : Nat} {v : Value} (h : CN w v m) : ∃ A n c, v = .slice A n c := by
 obtain ⟨A, n, c, rfl, _⟩ := h; exact ⟨A, n, c, rfl⟩
theorem PN.len {w : World} {b m n c : Nat} {A : Option Addr} (h : PN w b (.slice A n c) m) : n = (limbs m).length := by
 obtain ⟨A', c', he, h1, h2⟩ := PL.c h
 injection he
theorem limbs_zero_len {m : Nat} : (limbs m).length = 0 ↔ m = 0 := by
 constructor
 · intro h
   have := nv_limbs m
   rw [List.length_eq_zero_iff.1 h] at this
   exact this.symm
 · rintro rfl; simp [limbs]
theorem len_le {m K : Nat} (h : bl m ≤ 64 * K) : (limbs m).length ≤ K := limbs_len_le (bl_le_iff.1 h)
theorem PDy.cells {w : World} {b n c : Nat} {z e : Int} {bb : Bool} {A : Option Addr} {x : Int} (h : PDy w b (.agg #[.bool bb, .slice A n c, .int .i64 x]) z e) : bb = cneg z ∧ x = cexp z e ∧ PN w b (.slice A n c) (cman z) := by
 obtain ⟨A', n', c', h1, h2⟩ := h
 obtain ⟨e1, e2, e3⟩ := agg_inj h1
 obtain ⟨rfl, rfl, rfl⟩ := slice_inj e2
 injection e1 with e1
 injection e3 with _ e3
 exact ⟨e1, e3, h2⟩
theorem CDy.cells {w : World} {n c : Nat} {z e : Int} {bb : Bool} {A : Option Addr} {x : Int} (h : CDy w (.agg #[.bool bb, .slice A n c, .int .i64 x]) z e) : bb = cneg z ∧ x = cexp z e ∧ CN w (.slice A n c) (cman z) := by
 obtain ⟨h1, h2, h3, h4, h5⟩ := CDy.parts h
 exact ⟨h1, h2, A, n, c, rfl, h3, h4, h5⟩
theorem len_n {w : World} {v : Value} {m : Nat} (h : CN w v m) (hm : bl m ≤ 4294967296) :
 Calls Tryz.prog 116 #[v] w fun e w' => e = .returned (.int .i64 (bl m : Int)) ∧ BL w w' := by
 obtain ⟨A, n, c, rfl, h1, rfl, h3⟩ := h
 have hl := len_le (K := 67108864) hm
 refine (plen_any (limbs m) A c w h1 h3 (wf_limbs _) (by omega)).mono ?_
 rintro e w' ⟨rfl, n, rfl⟩
 rw [nv_limbs]
 exact ⟨rfl, pw_below_drewN yr _⟩
theorem of_n (x : Nat) (hx : x < 18446744073709551616) (w : World) :
 Calls Tryz.prog 110 #[.int .u64 (x : Int)] w fun e w' => ∃ v, e = .returned v ∧ PN w' w.heap.size v x ∧ BL w w' := pof_any x hx w
theorem add_n {w : World} {u v : Value} {a b : Nat} (h : CN w u a) (h' : CN w v b) (ha : bl a ≤ 4294967296) (hb : bl b ≤ 4294967296) :
 Calls Tryz.prog 103 #[u, v] w fun e w' => ∃ v, e = .returned v ∧ PN w' w.heap.size v (a + b) ∧ BL w w' := by
 obtain ⟨A, n, c, rfl, h1, rfl, h3⟩ := h
 obtain ⟨B, n', c', rfl, k1, rfl, k3⟩ := h'
 have hl := len_le (K := 67108864) ha
 have hl' := len_le (K := 67108864) hb
 have := padd_any (limbs a) (limbs b) A B _ _ c c' rfl rfl w h1 k1 h3 k3 (wf_limbs _) (wf_limbs _) (by omega) (by omega)
 rw [nv_limbs, nv_limbs] at this
 exact this
theorem sub_n {w : World} {u v : Value} {a b : Nat} (h : CN w u a) (h' : CN w v b) (ha : bl a ≤ 4294967296) (hba : b ≤ a) (h0 : 0 < a) :
 Calls Tryz.prog 105 #[u, v] w fun e w' => ∃ v, e = .returned v ∧ PN w' w.heap.size v (a - b) ∧ BL w w' := by
 obtain ⟨A, n, c, rfl, h1, rfl, h3⟩ := h
 obtain ⟨B, n', c', rfl, k1, rfl, k3⟩ := h'
 have hl := len_le (K := 67108864) ha
 have hl' := len_le (K := 67108864) (Nat.le_trans (bl_le_iff.2 (Nat.lt_of_le_of_lt hba (bl_lt a))) ha)
 have hp : 0 < (limbs a).length := Nat.pos_of_ne_zero (fun q => by have := limbs_zero_len.1 q; omega)
 have := psub_any (limbs a) (limbs b) A B _ _ c c' rfl rfl w h1 k1 h3 k3 (wf_limbs _) (wf_limbs _) (by omega) (by omega) hp (by rw [nv_limbs, nv_limbs]; exact hba)
 rw [nv_limbs, nv_limbs] at this
 exact this
theorem mul_n {w : World} {u v : Value} {a b : Nat} (h : CN w u a) (h' : CN w v b) (ha : bl a ≤ 4294967296) (hb : bl b ≤ 4294967296) :
 Calls Tryz.prog 141 #[u, v] w fun e w' => ∃ v, e = .returned v ∧ PN w' w.heap.size v (a * b) ∧ BL w w' := by
 obtain ⟨A, n, c, rfl, h1, rfl, h3⟩ := h
 obtain ⟨B, n', c', rfl, k1, rfl, k3⟩ := h'
 have hl := len_le (K := 67108864) ha
 have hl' := len_le (K := 67108864) hb
 have := pmul_any (limbs a) (limbs b) A B _ _ c c' rfl rfl w h1 k1 h3 k3 (wf_limbs _) (wf_limbs _) (by omega) (by omega)
 rw [nv_limbs, nv_limbs] at this
 exact this
theorem cmp_n {w : World} {u v : Value} {a b : Nat} (h : CN w u a) (h' : CN w v b) (ha : bl a ≤ 4294967296) (hb : bl b ≤ 4294967296) :
 Calls Tryz.prog 104 #[u, v] w fun e w' => e = .returned (.int .i64 (cmpN a b)) ∧ BL w w' := by
 obtain ⟨A, n, c, rfl, h1, rfl, h3⟩ := h
 obtain ⟨B, n', c', rfl, k1, rfl, k3⟩ := h'
 have hl := len_le (K := 67108864) ha
 have hl' := len_le (K := 67108864) hb
 refine (pcmp_any (limbs a) (limbs b) A B _ _ c c' rfl rfl w h1 k1 h3 k3 (wf_limbs _) (wf_limbs _) (by omega) (by omega)).mono ?_
 rintro e w' ⟨rfl, n, rfl⟩
 rw [nv_limbs, nv_limbs]
 exact ⟨rfl, pw_below_drewN yr _⟩
theorem shl_n {w : World} {v : Value} {m : Nat} (n : Int) (k : Nat) (hk : n = k) (h : CN w v m) (hm : bl m ≤ 4294967296) (hn : k ≤ 4294967296) :
 Calls Tryz.prog 131 #[v, .int .i64 n] w fun e w' => ∃ v, e = .returned v ∧ PN w' w.heap.size v (m * 2 ^ k) ∧ BL w w' := by
 subst hk
 obtain ⟨A, n, c, rfl, h1, rfl, h3⟩ := h
 have hl := len_le (K := 67108864) hm
 have := pshl_any (limbs m) A _ c k rfl w h1 h3 (wf_limbs _) (by omega) (by omega)
 rw [nv_limbs] at this
 exact this
theorem shr_n {w : World} {v : Value} {m : Nat} (n : Int) (k : Nat) (hk : n = k) (h : CN w v m) (hm : bl m ≤ 4294967296) (hn : k ≤ 4294967296) (hT : TabAt 0 Lib.deBruijn64tab w) :
 Calls Tryz.prog 133 #[v, .int .i64 n] w fun e w' => ∃ v, e = .returned (.tuple #[v, .bool (m % 2 ^ k != 0)]) ∧ PN w' w.heap.size v (m / 2 ^ k) ∧ BL w w' := by
 subst hk
 obtain ⟨A, n, c, rfl, h1, rfl, h3⟩ := h
 have hl := len_le (K := 67108864) hm
 have := pshr_any (limbs m) A _ c k rfl w h1 h3 (wf_limbs _) (by omega) (by omega) hT
 rw [nv_limbs] at this
 exact this
theorem form_n {w : World} {v : Value} {m : Nat} (neg : Bool) (x : Int) (h : CN w v m) (hm : bl m ≤ 4294967296) (h1 : -1099511627776 ≤ x) (h2 : x ≤ 1099511627776) (hT : TabAt 0 Lib.deBruijn64tab w) :
 Calls Tryz.prog 102 #[.bool neg, v, .int .i64 x] w fun e w' => ∃ v, e = .returned v ∧ PDy w' w.heap.size v (sgn neg m) x ∧ BL w w' := by
 obtain ⟨A, n, c, rfl, g1, rfl, g3⟩ := h
 have hl := len_le (K := 67108864) hm
 have := pform_any neg (limbs m) A _ c x rfl w g1 g3 (wf_limbs _) (by omega) h1 h2 hT
 rw [nv_limbs] at this
 exact this
theorem bl_add {a b K : Nat} (ha : bl a ≤ K) (hb : bl b ≤ K) : bl (a + b) ≤ K + 1 := by
 rw [bl_le_iff] at *
 have : 2 ^ (K + 1) = 2 ^ K + 2 ^ K := by rw [Nat.pow_succ]; omega
 omega
theorem bl_mul {a b K M : Nat} (ha : bl a ≤ K) (hb : bl b ≤ M) : bl (a * b) ≤ K + M := by
 rw [bl_le_iff] at *
 rw [Nat.pow_add]
 exact Nat.mul_lt_mul'' ha hb
theorem bl_div {a d K : Nat} (ha : bl a ≤ K) : bl (a / d) ≤ K := by
 rw [bl_le_iff] at *
 exact Nat.lt_of_le_of_lt (Nat.div_le_self _ _) ha
theorem bl_le_of {a b : Nat} (h : a ≤ b) : bl a ≤ bl b := bl_le_iff.2 (Nat.lt_of_le_of_lt h (bl_lt b))
theorem yb_unit {x y : Int} {K : Nat} (hx : -(K : Int) ≤ x) (hx2 : x ≤ (K : Int)) (hy : -(K : Int) ≤ y) (hy2 : y ≤ (K : Int)) : ∃ E : Int, ∃ i j : Nat, E = min x y ∧ x - E = (i : Int) ∧ y - E = (j : Int) ∧ x = E + i ∧ y = E + j ∧ -(K : Int) ≤ E ∧ E ≤ (K : Int) ∧ i ≤ 2 * K ∧ j ≤ 2 * K := by
 refine ⟨min x y, (x - min x y).toNat, (y - min x y).toNat, rfl, ?_, ?_, ?_, ?_, ?_, ?_, ?_, ?_⟩ <;> omega
theorem yb_form (z e : Int) : Dv z e = Dv (sgn (cneg z) (cman z)) (cexp z e) := by
 by_cases h0 : z = 0
 · subst h0; rw [cman_zero, sgn_zero, Dv_zero, Dv_zero]
 · obtain ⟨k, h1, h2, _⟩ := of_form (e := e) h0
   rw [h1, ← Dv_shift, ← sgn_pow, ← h2]
theorem yb_pow (k : Nat) : bl (2 ^ k) ≤ k + 1 := bl_le_iff.2 (Nat.pow_lt_pow_right (by decide) (by omega))
theorem yb_at {y x E : Int} {i : Nat} (e : cexp y x = E + i) : Dv y x = Dv (sgn (cneg y) (cman y * 2 ^ i)) E := by
 rw [yb_form y x, e, ← Dv_shift, ← sgn_pow]
theorem yb_as {w : World} {b : Nat} {v : Value} {z e y f : Int} (h : PDy w b v z e) (he : Dv z e = Dv y f) : PDy w b v y f := by
 obtain ⟨g, i, j, rfl, rfl, _⟩ := Dv_common e f
 rw [← Dv_shift, ← Dv_shift] at he
 have := Dv_inj he
 have h1 := h.scale i
 rw [this] at h1
 obtain ⟨A, n, c, rfl, hr⟩ := h1
 rw [cman_mul] at hr
 exact ⟨A, n, c, by rw [cneg_mul, cexp_mul], hr⟩
theorem yb_ge {a b : Nat} (h : 0 ≤ cmpN a b) : b ≤ a := by
 unfold cmpN at h
 by_cases q : a < b
 · rw [if_pos q] at h; omega
 · omega
theorem yb_lt {a b : Nat} (h : cmpN a b < 0) : a ≤ b ∧ 0 < b := by
 unfold cmpN at h
 by_cases q : a < b
 · omega
 · rw [if_neg q] at h; split at h <;> omega
def Fyb60_0 := [dg 0, dg 3, U, U, U, U, U, U, U, U, U, U, U, U, U, U, U, U, U, U, U, U, U, U, U, U, U, U, U, U, U, U, U, U, U, U, U, U, U, U, U, U, U, U, U, U, U, U, U, U, U, U, U, U, U, U, U]
def Fyb60_1 := fs Fyb60_0 [(2, ps 0 0), (3, ps 1 0), (4, ps 2 0)]
def Byb60_2 := [bb 25 (d3 0), bb 25 (d3 3), bb 25 o3]
def Ryb60_3 : Rg := ⟨3, 6, 0, Fyb60_0, Byb60_2, [pa 0 0, pa 1 0, pa 2 0], []⟩
def Fyb60_4 := fs Fyb60_1 [(8, dg 0), (9, dg 6), (10, dg 3), (11, dg 9)]
def Ryb60_5 : Rg := ⟨4, 6, 3, Fyb60_1, Byb60_2, [pl (dg 0) 0 0 0, pc (dg 6) 0 66 [dg 0] 3, pl (dg 3) 0 1 0, pc (dg 9) 1 66 [dg 3] 3], [1, 3]⟩
def Byb60_6 := [bb 25 (d3 6), bb 25 (d3 9), bb 25 o3]
def Fyb60_7 := fs Fyb60_4 [(12, vb 12), (13, dg 6), (14, vb 12)]
def Ryb60_8 : Rg := ⟨3, 12, 3, Fyb60_4, Byb60_6, [pl (dg 6) 0 0 0, pc (vb 12) 0 79 [dg 6] 1, pv (vb 12) 1], [1]⟩
def Fyb60_9 := fs Fyb60_7 [(15, dg 9)]
def Ryb60_10 : Rg := ⟨1, 13, 3, Fyb60_7, Byb60_6, [pl (dg 9) 0 1 0], []⟩
def Byb60_11 := [bb 25 (d3 6), bb 25 (d3 9), bb 25 (d3 9)]
def Fyb60_12 := fs Fyb60_7 [(16, vb 13), (17, dg 9), (18, vb 13)]
def Ryb60_13 : Rg := ⟨3, 13, 3, Fyb60_7, Byb60_6, [pl (dg 9) 0 1 0, pc (vb 13) 0 79 [dg 9] 1, pv (vb 13) 1], [1]⟩
def Fyb60_14 := fs Fyb60_12 [(19, dg 6)]
def Ryb60_15 : Rg := ⟨1, 14, 3, Fyb60_12, Byb60_6, [pl (dg 6) 0 0 0], []⟩
def Byb60_16 := [bb 25 (d3 6), bb 25 (d3 9), bb 25 (d3 6)]
def Fyb60_17 := fs Fyb60_12 [(5, vs 14), (6, vs 15), (7, vi 16), (20, tu [vs 14, vs 15, vi 16]), (21, dg 6), (22, dg 9), (23, tu [vs 14, vs 15, vi 16]), (24, vs 14), (25, vs 15), (26, vi 16)]
def Ryb60_18 : Rg := ⟨10, 14, 3, Fyb60_12, Byb60_6, [pl (dg 6) 0 0 0, pl (dg 9) 0 1 0, pc (tu [vs 14, vs 15, vi 16]) 0 101 [dg 6, dg 9] 3, pv (tu [vs 14, vs 15, vi 16]) 1, pv (vs 14) 1, pv (vs 15) 1, pv (vi 16) 1, pv (vs 14) 1, pv (vs 15) 1, pv (vi 16) 1], [2]⟩
def Fyb60_19 := fs Fyb60_17 [(27, ps 0 0), (28, vb 6), (29, ps 1 0), (30, vb 9), (31, bo .eql (vb 6) (vb 9))]
def Ryb60_20 : Rg := ⟨5, 17, 3, Fyb60_17, Byb60_6, [pv (ps 0 0) 0, pl (vb 6) 0 0 0, pv (ps 1 0) 0, pl (vb 9) 0 1 0, pv (bo .eql (vb 6) (vb 9)) 0], []⟩
def Fyb60_21 := fs Fyb60_19 [(32, ps 0 0), (33, vb 6), (34, vs 14), (35, vs 15), (36, vs 17), (37, vi 16), (38, dg 18)]
def Ryb60_22 : Rg := ⟨7, 17, 3, Fyb60_19, Byb60_6, [pv (ps 0 0) 0, pl (vb 6) 0 0 0, pv (vs 14) 0, pv (vs 15) 0, pc (vs 17) 0 103 [vs 14, vs 15] 1, pv (vi 16) 0, pc (dg 18) 1 102 [vb 6, vs 17, vi 16] 3], [4, 6]⟩
def Byb60_23 := [bb 25 (d3 6), bb 25 (d3 9), bb 25 (d3 18)]
def Fyb60_24 := fs Fyb60_19 [(39, vs 14), (40, vs 15), (41, vi 17), (42, bo .geq (vi 17) (li 0))]
def Ryb60_25 : Rg := ⟨4, 17, 3, Fyb60_19, Byb60_6, [pv (vs 14) 0, pv (vs 15) 0, pc (vi 17) 0 104 [vs 14, vs 15] 1, pv (bo .geq (vi 17) (li 0)) 1], [2]⟩
def Fyb60_26 := fs Fyb60_24 [(43, ps 0 0), (44, vb 6), (45, vs 14), (46, vs 15), (47, vs 18), (48, vi 16), (49, dg 19)]
def Ryb60_27 : Rg := ⟨7, 18, 3, Fyb60_24, Byb60_6, [pv (ps 0 0) 0, pl (vb 6) 0 0 0, pv (vs 14) 0, pv (vs 15) 0, pc (vs 18) 0 105 [vs 14, vs 15] 1, pv (vi 16) 0, pc (dg 19) 1 102 [vb 6, vs 18, vi 16] 3], [4, 6]⟩
def Byb60_28 := [bb 25 (d3 6), bb 25 (d3 9), bb 25 (d3 19)]
def Fyb60_29 := fs Fyb60_24 [(50, ps 1 0), (51, vb 9), (52, vs 15), (53, vs 14), (54, vs 18), (55, vi 16), (56, dg 19)]
def Ryb60_30 : Rg := ⟨7, 18, 3, Fyb60_24, Byb60_6, [pv (ps 1 0) 0, pl (vb 9) 0 1 0, pv (vs 15) 0, pv (vs 14) 0, pc (vs 18) 0 105 [vs 15, vs 14] 1, pv (vi 16) 0, pc (dg 19) 1 102 [vb 9, vs 18, vi 16] 3], [4, 6]⟩
theorem padd_e {u v : Value} {y z g : Int} {K : Nat} {w : World} (h : CDy w u y g) (h' : CDy w v z g) (B1 : Bd K y g) (B2 : Bd K z g) (hK : K ≤ 134217728) (hT : TabAt 0 Lib.deBruijn64tab w) :
 Calls Tryz.prog 60 #[u, v] w fun en w' => ∃ v', en = .returned v' ∧ PDy w' w.heap.size v' (y + z) g ∧ BL w w' := by
 obtain ⟨b0, A0, n0, c0, x0, rfl⟩ := h.ex
 obtain ⟨b9, A9, n9, c9, x9, rfl⟩ := h'.ex
 have l1 := bd_lo B1; have l2 := bd_hi B1; have l3 := bd_lo B2; have l4 := bd_hi B2; have l5 := bd_len B1; have l6 := bd_len B2
 have K1 : bl (cman y) ≤ K := bl_le_iff.2 (bd_man B1)
 have K2 : bl (cman z) ≤ K := bl_le_iff.2 (bd_man B2)
 obtain ⟨E0, i, j, eE, hi, hj, e1, e2, m1, m2, m3, m4⟩ := yb_unit (x := cexp y g) (y := cexp z g) (K := 2 * K) (by omega) (by omega) (by omega) (by omega)
 have hb3 : bl (cman y * 2 ^ i) ≤ 671088641 := by have := bl_mul (b := 2 ^ i) K1 (yb_pow i); omega
 have hb4 : bl (cman z * 2 ^ j) ≤ 671088641 := by have := bl_mul (b := 2 ^ j) K2 (yb_pow j); omega
 have hb5 : bl (cman y * 2 ^ i + cman z * 2 ^ j) ≤ 671088642 := bl_add hb3 hb4
 have q9 := yb_at e1
 have q8 := yb_at e2
 refine fn_enter (u := 64) (fn := Tryz.f60) Tryz.func60 rfl Fyb60_0 [.bool b0, .slice A0 n0 c0, .int .i64 x0, .bool b9, .slice A9 n9 c9, .int .i64 x9] (by kernel_rfl) rfl (fun a0 S0 r0 => ?_)
 refine wp_seq (rk Ryb60_3 [] Fyb60_1 Byb60_2 S0 r0 ?_)
 intro _ _ _ r1 S1
 refine wp_seq (rk Ryb60_5 [.st 0 0 (d3 6), .st 1 0 (d3 9)] Fyb60_4 Byb60_6 S1 r1 ?_)
 intro _ _ r2 _
 refine (pone_dy _ y g _ (h.below r2.first) (by omega) (by omega) (by omega) (tab_below hT r2.first)).mono ?_
 rintro _ V1 ⟨v, rfl, h1, k1⟩
 obtain ⟨b1, A1, n1, c1, x1, rfl⟩ := h1.ex
 replace h1 := h1.lower r2.first.size
 refine ⟨[.bool b1, .slice A1 n1 c1, .int .i64 x1], rfl, rfl, rfl, k1, ?_⟩
 have hb1 := h1.cells.1
 intro _ _ r3 _
 refine (pone_dy _ z g _ (h'.below r3.first) (by omega) (by omega) (by omega) (tab_below hT r3.first)).mono ?_
 rintro _ V2 ⟨v, rfl, h2, k2⟩
 obtain ⟨b2, A2, n2, c2, x2, rfl⟩ := h2.ex
 replace h2 := h2.lower r3.first.size
 refine ⟨[.bool b2, .slice A2 n2 c2, .int .i64 x2], rfl, rfl, rfl, k2, ?_⟩
 have hb2 := h2.cells.1
 intro _ _ _ r4 S4
 refine wp_seq ?_
 refine wp_block ?_
 refine wp_seq (rk Ryb60_8 [] Fyb60_7 Byb60_6 S4 r4 ?_)
 intro _ _ r5 _
 refine (pzero_dy _ y g _ (h1.lat (r5.at_ 0 _ rfl)).c (by omega)).mono ?_
 rintro _ V3 ⟨rfl, k3⟩
 refine ⟨[.bool (decide (y = 0))], rfl, rfl, rfl, k3, ?_⟩
 intro _ _ _ r6 S6
 refine wp_cond_split (t := (decide (y = 0))) (S6.cnd (by kernel_rfl)) (fun q1 => ?_) (fun q1 => ?_)
 · refine wp_seq (rk Ryb60_10 [.st 2 0 (d3 9)] Fyb60_9 Byb60_11 S6 r6 ?_)
   intro _ g7 W7 r7 S7
   exact wp_ret (blk_ret (then_ret (ret_ok S7 [.agg #[.bool b2, .slice A2 n2 c2, .int .i64 x2]] (by kernel_rfl) (⟨_, rfl, by have q := (h2.lat (r7.at_ 1 _ rfl)); rw [show y + z = z by have := of_decide_eq_true q1; omega]; exact q, r7.first⟩))))
 · refine wp_seq (rk Ryb60_13 [] Fyb60_12 Byb60_6 S6 r6 ?_)
   intro W7 g7 r7 _
   refine (pzero_dy _ z g _ (h2.lat (r7.at_ 1 _ rfl)).c (by omega)).mono ?_
   rintro _ V4 ⟨rfl, k4⟩
   refine ⟨[.bool (decide (z = 0))], rfl, rfl, rfl, k4, ?_⟩
   intro _ _ _ r8 S8
   refine wp_cond_split (t := (decide (z = 0))) (S8.cnd (by kernel_rfl)) (fun q2 => ?_) (fun q2 => ?_)
   · refine wp_seq (rk Ryb60_15 [.st 2 0 (d3 6)] Fyb60_14 Byb60_16 S8 r8 ?_)
     intro _ g9 W9 r9 S9
     exact wp_ret (blk_ret (then_ret (ret_ok S9 [.agg #[.bool b1, .slice A1 n1 c1, .int .i64 x1]] (by kernel_rfl) (⟨_, rfl, by have q := (h1.lat (r9.at_ 0 _ rfl)); rw [show y + z = y by have := of_decide_eq_true q2; omega]; exact q, r9.first⟩))))
   · refine wp_skip ?_
     refine wp_seq (rk Ryb60_18 [] Fyb60_17 Byb60_6 S8 r8 ?_)
     intro W9 g9 r9 _
     refine (pamounts_dy _ _ y z g E0 i j _ (h1.lat (r9.at_ 0 _ rfl)).c (h2.lat (r9.at_ 1 _ rfl)).c eE hi hj (by omega) (by omega) (by omega) (by omega) (by omega) (by omega)).mono ?_
     rintro _ V5 ⟨v, u, rfl, h3, h4, k5⟩
     obtain ⟨A5, n5, c5, rfl⟩ := PL.ex h3
     obtain ⟨B5, m5, d5, rfl⟩ := PL.ex h4
     replace h3 : PN _ _ _ _ := PL.lower h3 r9.first.size
     replace h4 : PN _ _ _ _ := PL.lower h4 r9.first.size
     refine ⟨[.slice A5 n5 c5, .slice B5 m5 d5, .int .i64 E0], rfl, rfl, rfl, k5, ?_⟩
     intro _ _ _ r10 S10
     refine wp_seq ?_
     refine wp_seq (rk Ryb60_20 [] Fyb60_19 Byb60_6 S10 r10 ?_)
     intro _ _ _ r11 S11
     refine wp_cond_split (t := b1 == b2) (S11.cnd (by kernel_rfl)) (fun q3 => ?_) (fun q3 => ?_)
     · refine wp_seq (rk Ryb60_22 [.st 2 0 (d3 18)] Fyb60_21 Byb60_23 S11 r11 ?_)
       intro W12 g12 r12 _
       refine (add_n (h3.lat (r12.at_ 4 _ rfl)).c (h4.lat (r12.at_ 4 _ rfl)).c (by omega) (by omega)).mono ?_
       rintro _ V6 ⟨v, rfl, h5, k6⟩
       obtain ⟨A6, n6, c6, rfl⟩ := h5.ex
       replace h5 := h5.lower r12.first.size
       refine ⟨[.slice A6 n6 c6], rfl, rfl, rfl, k6, ?_⟩
       intro W13 g13 r13 _
       refine (form_n b1 E0 (h5.lat (r13.at_ 5 _ rfl)).c (by omega) (by omega) (by omega) (tab_below hT r13.first)).mono ?_
       rintro _ V7 ⟨v, rfl, h6, k7⟩
       obtain ⟨b7, A7, n7, c7, x7, rfl⟩ := h6.ex
       replace h6 := h6.lower r13.first.size
       refine ⟨[.bool b7, .slice A7 n7 c7, .int .i64 x7], rfl, rfl, rfl, k7, ?_⟩
       intro _ g14 W14 r14 S14
       exact wp_ret (then_ret (ret_ok S14 [.agg #[.bool b7, .slice A7 n7 c7, .int .i64 x7]] (by kernel_rfl) (⟨_, rfl, yb_as (h6.lat (r14.at_ 6 _ rfl)) (by rw [← Dv_add, q9, q8, Dv_add, hb1, ← (show cneg y = cneg z by rw [← hb1, ← hb2]; simpa using q3), sgn_add]), r14.first⟩)))
     · refine wp_skip ?_
       refine wp_seq ?_
       refine wp_seq (rk Ryb60_25 [] Fyb60_24 Byb60_6 S11 r11 ?_)
       intro W12 g12 r12 _
       refine (cmp_n (h3.lat (r12.at_ 4 _ rfl)).c (h4.lat (r12.at_ 4 _ rfl)).c (by omega) (by omega)).mono ?_
       rintro _ V8 ⟨rfl, k8⟩
       refine ⟨[.int .i64 (cmpN (cman y * 2 ^ i) (cman z * 2 ^ j))], rfl, rfl, rfl, k8, ?_⟩
       intro _ g13 W13 r13 S13
       refine wp_cond_split (t := decide ((cmpN (cman y * 2 ^ i) (cman z * 2 ^ j)) ≥ 0)) (S13.cnd (by kernel_rfl)) (fun q4 => ?_) (fun q4 => ?_)
       · have hle : cman z * 2 ^ j ≤ cman y * 2 ^ i := yb_ge (by simpa using q4)
         have hpos : 0 < cman y * 2 ^ i := Nat.mul_pos (Nat.pos_of_ne_zero (fun q => of_decide_eq_false q1 (cman_eq_zero.1 q))) (Nat.two_pow_pos i)
         refine wp_seq (rk Ryb60_27 [.st 2 0 (d3 19)] Fyb60_26 Byb60_28 S13 r13 ?_)
         intro W14 g14 r14 _
         refine (sub_n (h3.lat (r14.at_ 4 _ rfl)).c (h4.lat (r14.at_ 4 _ rfl)).c (by omega) hle hpos).mono ?_
         rintro _ V9 ⟨v, rfl, h5, k9⟩
         obtain ⟨A9, n9, c9, rfl⟩ := h5.ex
         replace h5 := h5.lower r14.first.size
         refine ⟨[.slice A9 n9 c9], rfl, rfl, rfl, k9, ?_⟩
         intro W15 g15 r15 _
         refine (form_n b1 E0 (h5.lat (r15.at_ 6 _ rfl)).c (by have := bl_le_of (Nat.sub_le (cman y * 2 ^ i) (cman z * 2 ^ j)); omega) (by omega) (by omega) (tab_below hT r15.first)).mono ?_
         rintro _ V10 ⟨v, rfl, h6, k10⟩
         obtain ⟨b10, A10, n10, c10, x10, rfl⟩ := h6.ex
         replace h6 := h6.lower r15.first.size
         refine ⟨[.bool b10, .slice A10 n10 c10, .int .i64 x10], rfl, rfl, rfl, k10, ?_⟩
         intro a16 g16 W16 r16 S16
         exact wp_ret (then_ret (ret_ok S16 [.agg #[.bool b10, .slice A10 n10 c10, .int .i64 x10]] (by kernel_rfl) (⟨_, rfl, yb_as (h6.lat (r16.at_ 7 _ rfl)) (by rw [← Dv_add, q9, q8, Dv_add, hb1, Limb.sgn_sub (show cneg y ≠ cneg z by rw [← hb1, ← hb2]; simpa using q3) hle]), r16.first⟩)))
       · have hle := yb_lt (show cmpN (cman y * 2 ^ i) (cman z * 2 ^ j) < 0 by simpa using q4)
         refine wp_skip ?_
         refine wp_seq (rk Ryb60_30 [.st 2 0 (d3 19)] Fyb60_29 Byb60_28 S13 r13 ?_)
         intro W14 g14 r14 _
         refine (sub_n (h4.lat (r14.at_ 4 _ rfl)).c (h3.lat (r14.at_ 4 _ rfl)).c (by omega) hle.1 hle.2).mono ?_
         rintro _ V11 ⟨v, rfl, h5, k11⟩
         obtain ⟨A11, n11, c11, rfl⟩ := h5.ex
         replace h5 := h5.lower r14.first.size
         refine ⟨[.slice A11 n11 c11], rfl, rfl, rfl, k11, ?_⟩
         intro W15 g15 r15 _
         refine (form_n b2 E0 (h5.lat (r15.at_ 6 _ rfl)).c (by have := bl_le_of (Nat.sub_le (cman z * 2 ^ j) (cman y * 2 ^ i)); omega) (by omega) (by omega) (tab_below hT r15.first)).mono ?_
         rintro _ V12 ⟨v, rfl, h6, k12⟩
         obtain ⟨b12, A12, n12, c12, x12, rfl⟩ := h6.ex
         replace h6 := h6.lower r15.first.size
         refine ⟨[.bool b12, .slice A12 n12 c12, .int .i64 x12], rfl, rfl, rfl, k12, ?_⟩
         intro a16 g16 W16 r16 S16
         exact rt S16 [.agg #[.bool b12, .slice A12 n12 c12, .int .i64 x12]] (⟨_, rfl, yb_as (h6.lat (r16.at_ 7 _ rfl)) (by rw [← Dv_add, q9, q8, Dv_add, hb2, Limb.sgn_sub (show cneg z ≠ cneg y by rw [← hb1, ← hb2]; exact fun e => absurd e.symm (by simpa using q3)) hle.1, Int.add_comm]), r16.first⟩)
def Fyb95_0 := [dg 0, dg 3, U, U, U, U, U, U, U]
def Fyb95_1 := fs Fyb95_0 [(2, ps 0 0), (3, ps 1 0), (4, ps 2 0)]
def Byb95_2 := [bb 25 (d3 0), bb 25 (d3 3), bb 25 o3]
def Ryb95_3 : Rg := ⟨3, 6, 0, Fyb95_0, Byb95_2, [pa 0 0, pa 1 0, pa 2 0], []⟩
def Fyb95_4 := fs Fyb95_1 [(5, dg 0), (6, dg 3), (7, dg 6), (8, dg 9)]
def Ryb95_5 : Rg := ⟨4, 6, 3, Fyb95_1, Byb95_2, [pl (dg 0) 0 0 0, pl (dg 3) 0 1 0, pc (dg 6) 0 106 [dg 3] 3, pc (dg 9) 1 60 [dg 0, dg 6] 3], [2, 3]⟩
def Byb95_6 := [bb 25 (d3 0), bb 25 (d3 3), bb 25 (d3 9)]
theorem yb_sz {y z : Int} (h1 : decide (sgnI y < sgnI z) = false) (h2 : decide (sgnI y > sgnI z) = false) : sgnI z = sgnI y := by
 have := of_decide_eq_false h1; have := of_decide_eq_false h2; omega
theorem yb_s0 {y : Int} (h : sgnI y ≠ 0) : y ≠ 0 := by
 rintro rfl; exact h rfl
theorem yb_zero {y z : Int} (hz : sgnI z = sgnI y) (h : (sgnI y == 0) = true) : cmpZ y z = 0 := by
 have h1 : sgnI y = 0 := by simpa using h
 rw [h1] at hz
 have e1 : y = 0 := by unfold sgnI at h1; split at h1; assumption; split at h1 <;> omega
 have e2 : z = 0 := by unfold sgnI at hz; split at hz; assumption; split at hz <;> omega
 subst e1; subst e2; rfl
theorem yb_tl {y z g : Int} (hz : sgnI z = sgnI y) (h0 : (sgnI y == 0) = false) (h : cexp y g + bl (cman y) - 1 < cexp z g + bl (cman z) - 1) : cmpZ y z = -sgnI y := by
 have h1 : sgnI y ≠ 0 := by simpa using h0
 have := top_lt (yb_s0 h1) (yb_s0 (by rw [hz]; exact h1)) h
 rw [cmpZ_sign rfl hz h1, show cmpN y.natAbs z.natAbs = -1 by unfold cmpN; rw [if_pos this]]; omega
theorem yb_tg {y z g : Int} (hz : sgnI z = sgnI y) (h0 : (sgnI y == 0) = false) (h : cexp z g + bl (cman z) - 1 < cexp y g + bl (cman y) - 1) : cmpZ y z = sgnI y := by
 have h1 : sgnI y ≠ 0 := by simpa using h0
 have := top_lt (yb_s0 (by rw [hz]; exact h1)) (yb_s0 h1) h
 rw [cmpZ_sign rfl hz h1, show cmpN y.natAbs z.natAbs = 1 by unfold cmpN; rw [if_neg (by omega), if_pos this]]; omega
theorem yb_cm {y z g E : Int} {i j : Nat} (hz : sgnI z = sgnI y) (h0 : (sgnI y == 0) = false) (hE : E = min (cexp y g) (cexp z g)) (hi : cexp y g - E = i) (hj : cexp z g - E = j) : cmpZ y z = sgnI y * cmpN (cman y * 2 ^ i) (cman z * 2 ^ j) := by
 have h1 : sgnI y ≠ 0 := by simpa using h0
 rw [cmpZ_sign rfl hz h1, cmp_amounts (yb_s0 h1) (yb_s0 (by rw [hz]; exact h1)) hE hi hj]
theorem yb_w {s : Int} (h : -1 ≤ s ∧ s ≤ 1) : IntKind.i64.wrap (0 - s) = -s := by rw [show 0 - s = -s by omega]; exact wrap_i64 (by omega) (by omega)
theorem yb_s1 (y : Int) : -1 ≤ sgnI y ∧ sgnI y ≤ 1 := by
 unfold sgnI
 split
 · omega
 · split <;> omega
theorem yb_m {a b : Int} (h : -1 ≤ a ∧ a ≤ 1) (k : -1 ≤ b ∧ b ≤ 1) : IntKind.i64.wrap (a * b) = a * b := by
 have h1 : a = -1 ∨ a = 0 ∨ a = 1 := by omega
 rcases h1 with rfl | rfl | rfl
 · exact wrap_i64 (by omega) (by omega)
 · rw [Int.zero_mul]; rfl
 · exact wrap_i64 (by omega) (by omega)
theorem yb_c1 (a b : Nat) : -1 ≤ cmpN a b ∧ cmpN a b ≤ 1 := by
 unfold cmpN
 split
 · omega
 · split <;> omega
def Fyb67_0 := [dg 0, dg 3, U, U, U, U, U, U, U, U, U, U, U, U, U, U, U, U, U, U, U, U, U, U, U, U, U, U, U, U, U, U, U, U, U, U, U, U, U, U, U, U, U, U, U, U, U, U, U, U, U, U, U, U]
def Fyb67_1 := fs Fyb67_0 [(2, ps 0 0), (3, ps 1 0), (4, li 0)]
def Byb67_2 := [bb 25 (d3 0), bb 25 (d3 3)]
def Ryb67_3 : Rg := ⟨3, 6, 0, Fyb67_0, Byb67_2, [pa 0 0, pa 1 0, pv (li 0) 0], []⟩
def Fyb67_4 := fs Fyb67_1 [(5, vi 6), (6, vi 7), (12, dg 0), (13, vi 6), (14, dg 3), (15, vi 7)]
def Ryb67_5 : Rg := ⟨6, 6, 2, Fyb67_1, Byb67_2, [pl (dg 0) 0 0 0, pc (vi 6) 0 49 [dg 0] 1, pl (dg 3) 0 1 0, pc (vi 7) 1 49 [dg 3] 1, pv (vi 6) 2, pv (vi 7) 2], [1, 3]⟩
def Fyb67_6 := fs Fyb67_4 [(16, bo .lss (vi 6) (vi 7)), (17, vi 6), (18, vi 7), (19, bo .lss (vi 6) (vi 7))]
def Ryb67_7 : Rg := ⟨4, 8, 2, Fyb67_4, Byb67_2, [pv (vi 6) 0, pv (vi 7) 0, pv (bo .lss (vi 6) (vi 7)) 0, pv (bo .lss (vi 6) (vi 7)) 0], []⟩
def Fyb67_8 := fs Fyb67_6 [(4, li (-1))]
def Ryb67_9 : Rg := ⟨1, 8, 2, Fyb67_6, Byb67_2, [pv (li (-1)) 0], []⟩
def Fyb67_10 := fs Fyb67_6 [(20, bo .gtr (vi 6) (vi 7)), (21, vi 6), (22, vi 7), (23, bo .gtr (vi 6) (vi 7))]
def Ryb67_11 : Rg := ⟨4, 8, 2, Fyb67_6, Byb67_2, [pv (vi 6) 0, pv (vi 7) 0, pv (bo .gtr (vi 6) (vi 7)) 0, pv (bo .gtr (vi 6) (vi 7)) 0], []⟩
def Fyb67_12 := fs Fyb67_10 [(4, li 1)]
def Ryb67_13 : Rg := ⟨1, 8, 2, Fyb67_10, Byb67_2, [pv (li 1) 0], []⟩
def Fyb67_14 := fs Fyb67_10 [(24, bo .eql (vi 6) (li 0)), (25, vi 6), (26, bo .eql (vi 6) (li 0))]
def Ryb67_15 : Rg := ⟨3, 8, 2, Fyb67_10, Byb67_2, [pv (vi 6) 0, pv (bo .eql (vi 6) (li 0)) 0, pv (bo .eql (vi 6) (li 0)) 0], []⟩
def Ryb67_16 : Rg := ⟨1, 8, 2, Fyb67_14, Byb67_2, [pv (li 0) 0], []⟩
def Fyb67_17 := fs Fyb67_14 [(7, vi 8), (8, vi 9), (27, dg 0), (28, vi 8), (29, dg 3), (30, vi 9)]
def Ryb67_18 : Rg := ⟨6, 8, 2, Fyb67_14, Byb67_2, [pl (dg 0) 0 0 0, pc (vi 8) 0 80 [dg 0] 1, pl (dg 3) 0 1 0, pc (vi 9) 1 80 [dg 3] 1, pv (vi 8) 2, pv (vi 9) 2], [1, 3]⟩
def Fyb67_19 := fs Fyb67_17 [(31, vi 8), (32, vi 9), (33, bo .neq (vi 8) (vi 9))]
def Ryb67_20 : Rg := ⟨3, 10, 2, Fyb67_17, Byb67_2, [pv (vi 8) 0, pv (vi 9) 0, pv (bo .neq (vi 8) (vi 9)) 0], []⟩
def Fyb67_21 := fs Fyb67_19 [(34, vi 8), (35, vi 9), (36, bo .lss (vi 8) (vi 9))]
def Ryb67_22 : Rg := ⟨3, 10, 2, Fyb67_19, Byb67_2, [pv (vi 8) 0, pv (vi 9) 0, pv (bo .lss (vi 8) (vi 9)) 0], []⟩
def Fyb67_23 := fs Fyb67_21 [(4, f1 ngF (vi 6)), (37, vi 6), (38, f1 ngF (vi 6))]
def Ryb67_24 : Rg := ⟨3, 10, 2, Fyb67_21, Byb67_2, [pv (vi 6) 0, pv (f1 ngF (vi 6)) 0, pv (f1 ngF (vi 6)) 0], []⟩
def Fyb67_25 := fs Fyb67_21 [(4, vi 6), (39, vi 6)]
def Ryb67_26 : Rg := ⟨2, 10, 2, Fyb67_21, Byb67_2, [pv (vi 6) 0, pv (vi 6) 0], []⟩
def Fyb67_27 := fs Fyb67_19 [(9, vs 16), (10, vs 17), (11, vi 18), (40, tu [vs 16, vs 17, vi 18]), (41, dg 0), (42, dg 10), (43, dg 3), (44, dg 13), (45, tu [vs 16, vs 17, vi 18]), (46, vs 16), (47, vs 17), (48, vi 18)]
def Ryb67_28 : Rg := ⟨12, 10, 2, Fyb67_19, Byb67_2, [pl (dg 0) 0 0 0, pc (dg 10) 0 66 [dg 0] 3, pl (dg 3) 0 1 0, pc (dg 13) 1 66 [dg 3] 3, pc (tu [vs 16, vs 17, vi 18]) 2 101 [dg 10, dg 13] 3, pv (tu [vs 16, vs 17, vi 18]) 3, pv (vs 16) 3, pv (vs 17) 3, pv (vi 18) 3, pv (vs 16) 3, pv (vs 17) 3, pv (vi 18) 3], [1, 3, 4]⟩
def Fyb67_29 := fs Fyb67_27 [(4, bo .mul (vi 6) (vi 19)), (49, vi 6), (50, vs 16), (51, vs 17), (52, vi 19), (53, bo .mul (vi 6) (vi 19))]
def Ryb67_30 : Rg := ⟨6, 19, 2, Fyb67_27, Byb67_2, [pv (vi 6) 0, pv (vs 16) 0, pv (vs 17) 0, pc (vi 19) 0 104 [vs 16, vs 17] 1, pv (bo .mul (vi 6) (vi 19)) 1, pv (bo .mul (vi 6) (vi 19)) 1], [3]⟩
theorem pcmp_e {u v : Value} {y z g : Int} {K : Nat} {w : World} (h : CDy w u y g) (h' : CDy w v z g) (B1 : Bd K y g) (B2 : Bd K z g) (hK : K ≤ 134217728) (hT : TabAt 0 Lib.deBruijn64tab w) :
 Calls Tryz.prog 67 #[u, v] w fun en w' => en = .returned (.int .i64 (cmpZ y z)) ∧ BL w w' := by
 obtain ⟨b0, A0, n0, c0, x0, rfl⟩ := h.ex
 obtain ⟨b9, A9, n9, c9, x9, rfl⟩ := h'.ex
 have l1 := bd_lo B1; have l2 := bd_hi B1; have l3 := bd_lo B2; have l4 := bd_hi B2; have l5 := bd_len B1; have l6 := bd_len B2
 have K1 : bl (cman y) ≤ K := bl_le_iff.2 (bd_man B1)
 have K2 : bl (cman z) ≤ K := bl_le_iff.2 (bd_man B2)
 obtain ⟨E0, i, j, eE, hi, hj, e1, e2, m1, m2, m3, m4⟩ := yb_unit (x := cexp y g) (y := cexp z g) (K := 2 * K) (by omega) (by omega) (by omega) (by omega)
 have hb3 : bl (cman y * 2 ^ i) ≤ 671088641 := by have := bl_mul (b := 2 ^ i) K1 (yb_pow i); omega
 have hb4 : bl (cman z * 2 ^ j) ≤ 671088641 := by have := bl_mul (b := 2 ^ j) K2 (yb_pow j); omega
 have hb5 : bl (cman y * 2 ^ i + cman z * 2 ^ j) ≤ 671088642 := bl_add hb3 hb4
 have q9 := yb_at e1
 have q8 := yb_at e2
 refine fn_enter (u := 64) (fn := Tryz.f67) Tryz.func67 rfl Fyb67_0 [.bool b0, .slice A0 n0 c0, .int .i64 x0, .bool b9, .slice A9 n9 c9, .int .i64 x9] (by kernel_rfl) rfl (fun a0 S0 r0 => ?_)
 refine wp_seq (rk Ryb67_3 [] Fyb67_1 Byb67_2 S0 r0 ?_)
 intro _ _ _ r1 S1
 refine wp_seq (rk Ryb67_5 [] Fyb67_4 Byb67_2 S1 r1 ?_)
 intro _ _ r2 _
 refine (psign_dy _ y g _ (h.below r2.first) (by omega)).mono ?_
 rintro _ V1 ⟨rfl, k1⟩
 refine ⟨[.int .i64 (sgnI y)], rfl, rfl, rfl, k1, ?_⟩
 intro _ _ r3 _
 refine (psign_dy _ z g _ (h'.below r3.first) (by omega)).mono ?_
 rintro _ V2 ⟨rfl, k2⟩
 refine ⟨[.int .i64 (sgnI z)], rfl, rfl, rfl, k2, ?_⟩
 intro _ _ _ r4 S4
 refine wp_seq ?_
 refine wp_block ?_
 refine wp_seq (rk Ryb67_7 [] Fyb67_6 Byb67_2 S4 r4 ?_)
 intro _ _ _ r5 S5
 refine wp_cond_split (t := decide ((sgnI y) < (sgnI z))) (S5.cnd (by kernel_rfl)) (fun q1 => ?_) (fun q1 => ?_)
 · refine wp_seq (rk Ryb67_9 [] Fyb67_8 Byb67_2 S5 r5 ?_)
   intro a6 g6 W6 r6 S6
   exact wp_ret (blk_ret (then_ret (ret_ok S6 [.int .i64 (-1)] (by kernel_rfl) (⟨by rw [cmpZ_lt (of_decide_eq_true q1)]; rfl, r6.first⟩))))
 · refine wp_seq (rk Ryb67_11 [] Fyb67_10 Byb67_2 S5 r5 ?_)
   intro a6 g6 W6 r6 S6
   refine wp_cond_split (t := decide ((sgnI y) > (sgnI z))) (S6.cnd (by kernel_rfl)) (fun q2 => ?_) (fun q2 => ?_)
   · refine wp_seq (rk Ryb67_13 [] Fyb67_12 Byb67_2 S6 r6 ?_)
     intro a7 g7 W7 r7 S7
     exact wp_ret (blk_ret (then_ret (ret_ok S7 [.int .i64 1] (by kernel_rfl) (⟨by rw [cmpZ_gt (of_decide_eq_true q2)]; rfl, r7.first⟩))))
   · refine wp_seq (rk Ryb67_15 [] Fyb67_14 Byb67_2 S6 r6 ?_)
     intro a7 g7 W7 r7 S7
     refine wp_cond_split (t := (sgnI y) == 0) (S7.cnd (by kernel_rfl)) (fun q3 => ?_) (fun q3 => ?_)
     · refine wp_seq (rk Ryb67_16 [] Fyb67_14 Byb67_2 S7 r7 ?_)
       intro _ g8 W8 r8 S8
       exact wp_ret (blk_ret (then_ret (ret_ok S8 [.int .i64 0] (by kernel_rfl) (⟨by rw [yb_zero (yb_sz q1 q2) q3]; rfl, r8.first⟩))))
     · refine wp_skip ?_
       refine wp_seq (rk Ryb67_18 [] Fyb67_17 Byb67_2 S7 r7 ?_)
       intro W8 g8 r8 _
       refine (ptop_dy _ y g _ (h.below r8.first) (by omega) (by omega) (by omega)).mono ?_
       rintro _ V3 ⟨rfl, k3⟩
       refine ⟨[.int .i64 (cexp y g + bl (cman y) - 1)], rfl, rfl, rfl, k3, ?_⟩
       intro _ _ r9 _
       refine (ptop_dy _ z g _ (h'.below r9.first) (by omega) (by omega) (by omega)).mono ?_
       rintro _ V4 ⟨rfl, k4⟩
       refine ⟨[.int .i64 (cexp z g + bl (cman z) - 1)], rfl, rfl, rfl, k4, ?_⟩
       intro _ _ _ r10 S10
       refine wp_seq ?_
       refine wp_seq (rk Ryb67_20 [] Fyb67_19 Byb67_2 S10 r10 ?_)
       intro _ _ _ r11 S11
       refine wp_cond_split (t := (cexp y g + bl (cman y) - 1) != (cexp z g + bl (cman z) - 1)) (S11.cnd (by kernel_rfl)) (fun q4 => ?_) (fun q4 => ?_)
       · refine wp_seq ?_
         refine wp_seq (rk Ryb67_22 [] Fyb67_21 Byb67_2 S11 r11 ?_)
         intro _ g12 W12 r12 S12
         refine wp_cond_split (t := decide ((cexp y g + bl (cman y) - 1) < (cexp z g + bl (cman z) - 1))) (S12.cnd (by kernel_rfl)) (fun q5 => ?_) (fun q5 => ?_)
         · refine wp_seq (rk Ryb67_24 [] Fyb67_23 Byb67_2 S12 r12 ?_)
           intro a13 g13 W13 r13 S13
           exact wp_ret (then_ret (then_ret (ret_ok S13 [.int .i64 (IntKind.i64.wrap (0 - (sgnI y)))] (by kernel_rfl) (⟨congrArg (fun t => Ending.returned (Value.int .i64 t)) ((yb_w (yb_s1 y)).trans (yb_tl (yb_sz q1 q2) q3 (of_decide_eq_true q5)).symm), r13.first⟩))))
         · refine wp_skip ?_
           refine wp_seq (rk Ryb67_26 [] Fyb67_25 Byb67_2 S12 r12 ?_)
           intro a13 g13 W13 r13 S13
           exact wp_ret (then_ret (ret_ok S13 [.int .i64 (sgnI y)] (by kernel_rfl) (⟨by rw [yb_tg (g := g) (yb_sz q1 q2) q3 (by have e1 : cexp y g + bl (cman y) - 1 ≠ cexp z g + bl (cman z) - 1 := (by simpa using q4); have e2 := of_decide_eq_false q5; omega)]; rfl, r13.first⟩)))
       · refine wp_skip ?_
         refine wp_seq (rk Ryb67_28 [] Fyb67_27 Byb67_2 S11 r11 ?_)
         intro W12 g12 r12 _
         refine (pone_dy _ y g _ (h.below r12.first) (by omega) (by omega) (by omega) (tab_below hT r12.first)).mono ?_
         rintro _ V5 ⟨v, rfl, h1, k5⟩
         obtain ⟨b5, A5, n5, c5, x5, rfl⟩ := h1.ex
         replace h1 := h1.lower r12.first.size
         refine ⟨[.bool b5, .slice A5 n5 c5, .int .i64 x5], rfl, rfl, rfl, k5, ?_⟩
         intro W13 g13 r13 _
         refine (pone_dy _ z g _ (h'.below r13.first) (by omega) (by omega) (by omega) (tab_below hT r13.first)).mono ?_
         rintro _ V6 ⟨v, rfl, h2, k6⟩
         obtain ⟨b6, A6, n6, c6, x6, rfl⟩ := h2.ex
         replace h2 := h2.lower r13.first.size
         refine ⟨[.bool b6, .slice A6 n6 c6, .int .i64 x6], rfl, rfl, rfl, k6, ?_⟩
         intro _ _ r14 _
         refine (pamounts_dy _ _ y z g E0 i j _ (h1.lat (r14.at_ 4 _ rfl)).c (h2.lat (r14.at_ 5 _ rfl)).c eE hi hj (by omega) (by omega) (by omega) (by omega) (by omega) (by omega)).mono ?_
         rintro _ V7 ⟨v, u, rfl, h3, h4, k7⟩
         obtain ⟨A7, n7, c7, rfl⟩ := PL.ex h3
         obtain ⟨B7, m7, d7, rfl⟩ := PL.ex h4
         replace h3 : PN _ _ _ _ := PL.lower h3 r14.first.size
         replace h4 : PN _ _ _ _ := PL.lower h4 r14.first.size
         refine ⟨[.slice A7 n7 c7, .slice B7 m7 d7, .int .i64 E0], rfl, rfl, rfl, k7, ?_⟩
         intro _ _ _ r15 S15
         refine wp_seq (rk Ryb67_30 [] Fyb67_29 Byb67_2 S15 r15 ?_)
         intro _ _ r16 _
         refine (cmp_n (h3.lat (r16.at_ 6 _ rfl)).c (h4.lat (r16.at_ 6 _ rfl)).c (by omega) (by omega)).mono ?_
         rintro _ V8 ⟨rfl, k8⟩
         refine ⟨[.int .i64 (cmpN (cman y * 2 ^ i) (cman z * 2 ^ j))], rfl, rfl, rfl, k8, ?_⟩
         intro _ _ _ r17 S17
         exact rt S17 [.int .i64 (IntKind.i64.wrap ((sgnI y) * (cmpN (cman y * 2 ^ i) (cman z * 2 ^ j))))] (⟨congrArg (fun t => Ending.returned (Value.int .i64 t)) ((yb_m (yb_s1 y) (yb_c1 _ _)).trans (yb_cm (yb_sz q1 q2) q3 eE hi hj).symm), r17.first⟩)
def Fyb118_0 := [dg 0, dg 3, U, U, U, U, U, U, U, U, U, U, U, U, U, U, U, U, U, U, U]
def Fyb118_1 := fs Fyb118_0 [(2, ps 0 0), (3, ps 1 0), (4, ps 2 0)]
def Byb118_2 := [bb 25 (d3 0), bb 25 (d3 3), bb 25 o3]
def Ryb118_3 : Rg := ⟨3, 6, 0, Fyb118_0, Byb118_2, [pa 0 0, pa 1 0, pa 2 0], []⟩
def Fyb118_4 := fs Fyb118_1 [(5, ps 0 0), (6, vb 0), (7, ps 1 0), (8, vb 3), (9, bo .neq (vb 0) (vb 3)), (10, ps 0 1), (11, vs 1), (12, ps 1 1), (13, vs 4), (14, vs 6), (15, ps 0 2), (16, vi 2), (17, ps 1 2), (18, vi 5), (19, bo .add (vi 2) (vi 5)), (20, dg 7)]
def Ryb118_5 : Rg := ⟨16, 6, 3, Fyb118_1, Byb118_2, [pv (ps 0 0) 0, pl (vb 0) 0 0 0, pv (ps 1 0) 0, pl (vb 3) 0 1 0, pv (bo .neq (vb 0) (vb 3)) 0, pv (ps 0 1) 0, pl (vs 1) 0 0 1, pv (ps 1 1) 0, pl (vs 4) 0 1 1, pc (vs 6) 0 141 [vs 1, vs 4] 1, pv (ps 0 2) 0, pl (vi 2) 0 0 2, pv (ps 1 2) 0, pl (vi 5) 0 1 2, pv (bo .add (vi 2) (vi 5)) 0, pc (dg 7) 1 102 [bo .neq (vb 0) (vb 3), vs 6, bo .add (vi 2) (vi 5)] 3], [9, 15]⟩
def Byb118_6 := [bb 25 (d3 0), bb 25 (d3 3), bb 25 (d3 7)]
theorem pmul_e {u v : Value} {y z e f : Int} {N M : Nat} {w : World} (h : CDy w u y e) (h' : CDy w v z f) (B1 : Bd N y e) (B2 : Bd M z f) (hN : N ≤ 67108864) (hM : M ≤ 67108864) (hT : TabAt 0 Lib.deBruijn64tab w) :
 Calls Tryz.prog 118 #[u, v] w fun en w' => ∃ v', en = .returned v' ∧ PDy w' w.heap.size v' (y * z) (e + f) ∧ BL w w' := by
 obtain ⟨b0, A0, n0, c0, x0, rfl⟩ := h.ex
 obtain ⟨b9, A9, n9, c9, x9, rfl⟩ := h'.ex
 obtain ⟨hb0, hx0, p⟩ := h.cells
 obtain ⟨hb9, hx9, p2⟩ := h'.cells
 have l1 := bd_lo B1; have l2 := bd_hi B1; have l3 := bd_lo B2; have l4 := bd_hi B2
 have K1 : bl (cman y) ≤ N := bl_le_iff.2 (bd_man B1)
 have K2 : bl (cman z) ≤ M := bl_le_iff.2 (bd_man B2)
 have K3 : bl (cman y * cman z) ≤ N + M := bl_mul K1 K2
 have hw : IntKind.i64.wrap (x0 + x9) = cexp y e + cexp z f := by rw [hx0, hx9]; exact wrap_i64 (by omega) (by omega)
 refine fn_enter (u := 64) (fn := Tryz.f118) Tryz.func118 rfl Fyb118_0 [.bool b0, .slice A0 n0 c0, .int .i64 x0, .bool b9, .slice A9 n9 c9, .int .i64 x9] (by kernel_rfl) rfl (fun a0 S0 r0 => ?_)
 refine wp_seq (rk Ryb118_3 [] Fyb118_1 Byb118_2 S0 r0 ?_)
 intro _ _ _ r1 S1
 refine wp_seq (rk Ryb118_5 [.st 2 0 (d3 7)] Fyb118_4 Byb118_6 S1 r1 ?_)
 intro _ _ r2 _
 refine (mul_n (p.below r2.first) (p2.below r2.first) (by omega) (by omega)).mono ?_
 rintro _ V1 ⟨v, rfl, h3, k1⟩
 obtain ⟨A1, n1, c1, rfl⟩ := h3.ex
 replace h3 := h3.lower r2.first.size
 refine ⟨[.slice A1 n1 c1], rfl, rfl, rfl, k1, ?_⟩
 intro W3 _ r3 _
 show Calls Tryz.prog 102 #[.bool (!(b0 == b9)), .slice A1 n1 c1, .int .i64 (IntKind.i64.wrap (x0 + x9))] W3 _
 rw [hw]
 refine (form_n (b0 != b9) (cexp y e + cexp z f) (h3.lat (r3.at_ 0 _ rfl)).c (by omega) (by omega) (by omega) (tab_below hT r3.first)).mono ?_
 rintro _ V2 ⟨v, rfl, h4, k2⟩
 obtain ⟨b2, A2, n2, c2, x2, rfl⟩ := h4.ex
 replace h4 := h4.lower r3.first.size
 refine ⟨[.bool b2, .slice A2 n2 c2, .int .i64 x2], rfl, rfl, rfl, k2, ?_⟩
 intro _ _ _ r4 S4
 exact rt S4 [.agg #[.bool b2, .slice A2 n2 c2, .int .i64 x2]] (⟨_, rfl, by have q := (h4.lat (r4.at_ 1 _ rfl)); rw [hb0, hb9] at q; exact times_pform q, r4.first⟩)
theorem mul_q {u v : Value} {a b : Rat} {N M : Nat} {w : World} (h : CQ w u a N) (h' : CQ w v b M) (hN : N ≤ 67108864) (hM : M ≤ 67108864) (hT : TabAt 0 Lib.deBruijn64tab w) :
 Calls Tryz.prog 118 #[u, v] w fun en w' => ∃ v', en = .returned v' ∧ PQ w' w.heap.size v' (a * b) (N + M) ∧ BL w w' := by
 obtain ⟨z, e, h1, rfl, h3⟩ := h
 obtain ⟨y, f, k1, rfl, k3⟩ := h'
 have l := (bd_len h3); have lo := (bd_lo h3); have hi := (bd_hi h3)
 have l' := (bd_len k3); have lo' := (bd_lo k3); have hi' := (bd_hi k3)
 exact (pmul_e h1 k1 h3 k3 hN hM hT).mono fun en w' ⟨v', q1, q2, q3⟩ => ⟨v', q1, ⟨_, _, q2, Dv_mul _ _ _ _, h3.mul k3⟩, q3⟩
theorem add_q {u v : Value} {a b : Rat} {N M : Nat} {w : World} (h : CQ w u a N) (h' : CQ w v b M) (hN : N + M ≤ 67108864) (hT : TabAt 0 Lib.deBruijn64tab w) :
 Calls Tryz.prog 60 #[u, v] w fun en w' => ∃ v', en = .returned v' ∧ PQ w' w.heap.size v' (a + b) (2 * (N + M) + 1) ∧ BL w w' := by
 obtain ⟨y, z, g, h1, k1, rfl, rfl, h3, k3⟩ := h.two h'
 have l := (bd_len h3); have lo := (bd_lo h3); have hi := (bd_hi h3)
 have l' := (bd_len k3); have lo' := (bd_lo k3); have hi' := (bd_hi k3)
 exact (padd_e h1 k1 h3 k3 (by omega) hT).mono fun en w' ⟨v', q1, q2, q3⟩ => ⟨v', q1, ⟨_, _, q2, Dv_add _ _ _, h3.add k3⟩, q3⟩
theorem cmp_q {u v : Value} {a b : Rat} {N M : Nat} {w : World} (h : CQ w u a N) (h' : CQ w v b M) (hN : N + M ≤ 67108864) (hT : TabAt 0 Lib.deBruijn64tab w) :
 Calls Tryz.prog 67 #[u, v] w fun en w' => en = .returned (.int .i64 (cmpQ a b)) ∧ BL w w' := by
 obtain ⟨y, z, g, h1, k1, rfl, rfl, h3, k3⟩ := h.two h'
 have l := (bd_len h3); have lo := (bd_lo h3); have hi := (bd_hi h3)
 have l' := (bd_len k3); have lo' := (bd_lo k3); have hi' := (bd_hi k3)
 rw [cmp_Dv]
 exact pcmp_e h1 k1 h3 k3 (by omega) hT
theorem zero_q {v : Value} {a : Rat} {N : Nat} {w : World} (h : CQ w v a N) (hN : N ≤ 67108864) :
 Calls Tryz.prog 79 #[v] w fun en w' => en = .returned (.bool (decide (a = 0))) ∧ BL w w' := by
 obtain ⟨z, e, h1, rfl, h3⟩ := h
 have l := (bd_len h3)
 rw [decide_eq_decide.2 Dv_eq_zero]
 exact pzero_dy v z e w h1 (by omega)
theorem int_q (n : Int) (w : World) (h1 : -9223372036854775808 ≤ n) (h2 : n < 9223372036854775808) (hT : TabAt 0 Lib.deBruijn64tab w) :
 Calls Tryz.prog 69 #[.int .i64 n] w fun en w' => ∃ v', en = .returned v' ∧ PQ w' w.heap.size v' (n : Rat) 64 ∧ BL w w' :=
 (pint_dy n w h1 h2 hT).mono fun en w' ⟨v', q1, q2, q3⟩ => ⟨v', q1, ⟨n, 0, q2, (Dv_unit n).symm, ⟨by omega, by omega, by omega⟩⟩, q3⟩
theorem PQ.lat {w w1 : World} {b N : Nat} {v : Value} {q : Rat} (h : PQ w b v q N) (hb : Lat 64 w w1) : PQ w1 b v q N := by
 obtain ⟨z, e, h1, h2⟩ := h; exact ⟨z, e, h1.lat hb, h2⟩
def IV (p : Value → Rat → Prop) (v : Value) (lo hi : Rat) : Prop :=
 ∃ b A n c x d B m e y, v = .agg #[.bool b, .slice A n c, .int .i64 x, .bool d, .slice B m e, .int .i64 y] ∧ p (.agg #[.bool b, .slice A n c, .int .i64 x]) lo ∧ p (.agg #[.bool d, .slice B m e, .int .i64 y]) hi
def PI (w : World) (b : Nat) (v : Value) (lo hi : Rat) (N : Nat) : Prop := IV (fun v q => PQ w b v q N) v lo hi
def CI (w : World) (v : Value) (lo hi : Rat) (N : Nat) : Prop := IV (fun v q => CQ w v q N) v lo hi
theorem IV.imp {p p' : Value → Rat → Prop} {v : Value} {lo hi : Rat} (h : IV p v lo hi) (hp : ∀ v q, p v q → p' v q) : IV p' v lo hi := by
 obtain ⟨b, A, n, c, x, d, B, m, e, y, h0, h1, h2⟩ := h
 exact ⟨b, A, n, c, x, d, B, m, e, y, h0, hp _ _ h1, hp _ _ h2⟩
theorem PI.c {w : World} {b N : Nat} {v : Value} {lo hi : Rat} (h : PI w b v lo hi N) : CI w v lo hi N := IV.imp h fun _ _ q => q.c
theorem PI.lat {w w1 : World} {b N : Nat} {v : Value} {lo hi : Rat} (h : PI w b v lo hi N) (hb : Lat 64 w w1) : PI w1 b v lo hi N := IV.imp h fun _ _ q => q.lat hb
theorem CI.below {w w1 : World} {N : Nat} {v : Value} {lo hi : Rat} (h : CI w v lo hi N) (hb : BL w w1) : CI w1 v lo hi N := IV.imp h fun _ _ q => q.below hb
theorem PI.lower {w : World} {b b' N : Nat} {v : Value} {lo hi : Rat} (h : PI w b v lo hi N) (hb : b' ≤ b) : PI w b' v lo hi N := IV.imp h fun _ _ q => q.lower hb
theorem PI.more {w : World} {b N M : Nat} {v : Value} {lo hi : Rat} (h : PI w b v lo hi N) (hm : N ≤ M) : PI w b v lo hi M := IV.imp h fun _ _ q => q.more hm
theorem IV.ex {p : Value → Rat → Prop} {v : Value} {lo hi : Rat} (h : IV p v lo hi) : ∃ b A n c x d B m e y, v = .agg #[.bool b, .slice A n c, .int .i64 x, .bool d, .slice B m e, .int .i64 y] := by
 obtain ⟨b, A, n, c, x, d, B, m, e, y, h0, _⟩ := h; exact ⟨b, A, n, c, x, d, B, m, e, y, h0⟩
theorem PI.ex {w : World} {b N : Nat} {v : Value} {lo hi : Rat} (h : PI w b v lo hi N) : ∃ b A n c x d B m e y, v = .agg #[.bool b, .slice A n c, .int .i64 x, .bool d, .slice B m e, .int .i64 y] := IV.ex h
theorem CI.ex {w : World} {N : Nat} {v : Value} {lo hi : Rat} (h : CI w v lo hi N) : ∃ b A n c x d B m e y, v = .agg #[.bool b, .slice A n c, .int .i64 x, .bool d, .slice B m e, .int .i64 y] := IV.ex h
theorem agg6_inj {a b c d e f a' b' c' d' e' f' : Value} (h : Value.agg #[a, b, c, d, e, f] = .agg #[a', b', c', d', e', f']) : Value.agg #[a, b, c] = .agg #[a', b', c'] ∧ Value.agg #[d, e, f] = .agg #[d', e', f'] := by
 injection h with h
 have := congrArg Array.toList h
 simp only [List.cons.injEq] at this
 obtain ⟨rfl, rfl, rfl, rfl, rfl, rfl, _⟩ := this
 exact ⟨rfl, rfl⟩
theorem IV.lo {p : Value → Rat → Prop} {a b c d e f : Value} {lo hi : Rat} (h : IV p (.agg #[a, b, c, d, e, f]) lo hi) : p (.agg #[a, b, c]) lo := by
 obtain ⟨_, _, _, _, _, _, _, _, _, _, h0, h1, _⟩ := h
 rw [(agg6_inj h0).1]; exact h1
theorem IV.hi {p : Value → Rat → Prop} {a b c d e f : Value} {lo hi : Rat} (h : IV p (.agg #[a, b, c, d, e, f]) lo hi) : p (.agg #[d, e, f]) hi := by
 obtain ⟨_, _, _, _, _, _, _, _, _, _, h0, _, h1⟩ := h
 rw [(agg6_inj h0).2]; exact h1
theorem CI.lo {w : World} {N : Nat} {a b c d e f : Value} {lo hi : Rat} (h : CI w (.agg #[a, b, c, d, e, f]) lo hi N) : CQ w (.agg #[a, b, c]) lo N := IV.lo h
theorem CI.hi {w : World} {N : Nat} {a b c d e f : Value} {lo hi : Rat} (h : CI w (.agg #[a, b, c, d, e, f]) lo hi N) : CQ w (.agg #[d, e, f]) hi N := IV.hi h
theorem PI.lo {w : World} {k N : Nat} {a b c d e f : Value} {lo hi : Rat} (h : PI w k (.agg #[a, b, c, d, e, f]) lo hi N) : PQ w k (.agg #[a, b, c]) lo N := IV.lo h
theorem PI.hi {w : World} {k N : Nat} {a b c d e f : Value} {lo hi : Rat} (h : PI w k (.agg #[a, b, c, d, e, f]) lo hi N) : PQ w k (.agg #[d, e, f]) hi N := IV.hi h
theorem PI.mk {w : World} {k N : Nat} {a b c d e f : Value} {lo hi : Rat} (h : PQ w k (.agg #[a, b, c]) lo N) (h' : PQ w k (.agg #[d, e, f]) hi N) : PI w k (.agg #[a, b, c, d, e, f]) lo hi N := by
 obtain ⟨b1, A1, n1, c1, x1, e1⟩ := h.ex
 obtain ⟨b2, A2, n2, c2, x2, e2⟩ := h'.ex
 obtain ⟨rfl, rfl, rfl⟩ := agg_inj e1
 obtain ⟨rfl, rfl, rfl⟩ := agg_inj e2
 exact ⟨_, _, _, _, _, _, _, _, _, _, rfl, h, h'⟩
abbrev TB (w : World) : Prop := TabAt 0 Lib.deBruijn64tab w
theorem tb {u : TypeId} {w W : World} {H : List World} (h : TB w) (r : Reach u w H W) : TB W := tab_below h r.first
theorem Reach.fs {u : TypeId} {w W : World} {H : List World} (r : Reach u w H W) : w.heap.size ≤ W.heap.size := r.first.size
def Fc83_0 := [dg 0, U, U, U, U, U, U, U]
def Fc83_1 := fs Fc83_0 [(1, ps 0 0), (2, ps 1 0)]
def Bc83_2 := [bb 25 (d3 0), bb 28 o6]
def Rc83_3 : Rg := ⟨2, 3, 0, Fc83_0, Bc83_2, [pa 0 0, pa 1 0], []⟩
def Fc83_4 := fs Fc83_1 [(3, dg 0), (4, dg 3), (5, dg 0), (6, dg 6), (7, ig 3)]
def Rc83_5 : Rg := ⟨5, 3, 2, Fc83_1, Bc83_2, [pl (dg 0) 0 0 0, pc (dg 3) 0 66 [dg 0] 3, pl (dg 0) 0 0 0, pc (dg 6) 1 66 [dg 0] 3, pv (ig 3) 2], [1, 3]⟩
def Bc83_6 := [bb 25 (d3 0), bb 28 (i6 3)]
theorem point_q {v : Value} {a : Rat} {N : Nat} {w : World} (h : CQ w v a N) (hN : N ≤ 67108864) (hT : TB w) :
 Calls Tryz.prog 83 #[v] w fun en w' => ∃ v', en = .returned v' ∧ PI w' w.heap.size v' a a N ∧ BL w w' := by
 obtain ⟨b0, A0, n0, c0, x0, rfl⟩ := h.ex
 refine fn_enter (u := 64) (fn := Tryz.f83) Tryz.func83 rfl Fc83_0 [.bool b0, .slice A0 n0 c0, .int .i64 x0] (by kernel_rfl) rfl (fun a0 S0 r0 => ?_)
 refine wp_seq (rk Rc83_3 [] Fc83_1 Bc83_2 S0 r0 ?_)
 intro _ _ _ r1 S1
 refine wp_seq (rk Rc83_5 [.st 1 0 (i6 3)] Fc83_4 Bc83_6 S1 r1 ?_)
 intro _ _ r2 _
 refine (one_q (h.below r2.first) hN (tb hT r2)).mono ?_
 rintro _ V1 ⟨v, rfl, h1, k1⟩
 obtain ⟨b1, A1, n1, c1, x1, rfl⟩ := h1.ex
 replace h1 := h1.lower r2.fs
 refine ⟨[.bool b1, .slice A1 n1 c1, .int .i64 x1], rfl, rfl, rfl, k1, ?_⟩
 intro _ _ r3 _
 refine (one_q (h.below r3.first) hN (tb hT r3)).mono ?_
 rintro _ V2 ⟨v, rfl, h2, k2⟩
 obtain ⟨b2, A2, n2, c2, x2, rfl⟩ := h2.ex
 replace h2 := h2.lower r3.fs
 refine ⟨[.bool b2, .slice A2 n2 c2, .int .i64 x2], rfl, rfl, rfl, k2, ?_⟩
 intro _ _ _ r4 S4
 exact rt S4 [.agg #[.bool b1, .slice A1 n1 c1, .int .i64 x1, .bool b2, .slice A2 n2 c2, .int .i64 x2]] (⟨_, rfl, .mk (h1.lat (r4.at_ 0 _ rfl)) (h2.lat (r4.at_ 1 _ rfl)), r4.first⟩)
def Fc85_0 := [ig 0, U, U, U, U, U, U, U, U, U]
def Fc85_1 := fs Fc85_0 [(1, ps 0 0), (2, ps 1 0)]
def Bc85_2 := [bb 28 (i6 0), bb 28 o6]
def Rc85_3 : Rg := ⟨2, 6, 0, Fc85_0, Bc85_2, [pa 0 0, pa 1 0], []⟩
def Fc85_4 := fs Fc85_1 [(3, ps 0 3), (4, dg 3), (5, dg 6), (6, ps 0 0), (7, dg 0), (8, dg 9), (9, ig 6)]
def Rc85_5 : Rg := ⟨7, 6, 2, Fc85_1, Bc85_2, [pv (ps 0 3) 0, pl (dg 3) 0 0 3, pc (dg 6) 0 106 [dg 3] 3, pv (ps 0 0) 0, pl (dg 0) 0 0 0, pc (dg 9) 1 106 [dg 0] 3, pv (ig 6) 2], [2, 5]⟩
def Bc85_6 := [bb 28 (i6 0), bb 28 (i6 6)]
theorem turn_q {v : Value} {a b : Rat} {N : Nat} {w : World} (h : CI w v a b N) (hN : N ≤ 67108864) (hT : TB w) :
 Calls Tryz.prog 85 #[v] w fun en w' => ∃ v', en = .returned v' ∧ PI w' w.heap.size v' (-b) (-a) N ∧ BL w w' := by
 obtain ⟨b0, A0, n0, c0, x0, d0, B0, m0, e0, y0, rfl⟩ := h.ex
 refine fn_enter (u := 64) (fn := Tryz.f85) Tryz.func85 rfl Fc85_0 [.bool b0, .slice A0 n0 c0, .int .i64 x0, .bool d0, .slice B0 m0 e0, .int .i64 y0] (by kernel_rfl) rfl (fun a0 S0 r0 => ?_)
 refine wp_seq (rk Rc85_3 [] Fc85_1 Bc85_2 S0 r0 ?_)
 intro _ _ _ r1 S1
 refine wp_seq (rk Rc85_5 [.st 1 0 (i6 6)] Fc85_4 Bc85_6 S1 r1 ?_)
 intro _ _ r2 _
 refine (neg_q (h.below r2.first).hi hN (tb hT r2)).mono ?_
 rintro _ V1 ⟨v, rfl, h1, k1⟩
 obtain ⟨b1, A1, n1, c1, x1, rfl⟩ := h1.ex
 replace h1 := h1.lower r2.fs
 refine ⟨[.bool b1, .slice A1 n1 c1, .int .i64 x1], rfl, rfl, rfl, k1, ?_⟩
 intro _ _ r3 _
 refine (neg_q (h.below r3.first).lo hN (tb hT r3)).mono ?_
 rintro _ V2 ⟨v, rfl, h2, k2⟩
 obtain ⟨b2, A2, n2, c2, x2, rfl⟩ := h2.ex
 replace h2 := h2.lower r3.fs
 refine ⟨[.bool b2, .slice A2 n2 c2, .int .i64 x2], rfl, rfl, rfl, k2, ?_⟩
 intro _ _ _ r4 S4
 exact rt S4 [.agg #[.bool b1, .slice A1 n1 c1, .int .i64 x1, .bool b2, .slice A2 n2 c2, .int .i64 x2]] (⟨_, rfl, .mk (h1.lat (r4.at_ 0 _ rfl)) (h2.lat (r4.at_ 1 _ rfl)), r4.first⟩)
end Go.Proofs.YtkdicconchobfaaGreatDoor

namespace Exq
set_option linter.unusedVariables false
def CutOf (up : Bool) (x c e : Rat) : Prop := (0 ≤ x → if up then Up x c e else Dn x c e) ∧ (x ≤ 0 → if up then Dn (-x) (-c) e else Up (-x) (-c) e)
theorem CutOf.le {x c e : Rat} (h : CutOf false x c e) : c ≤ x := by
 by_cases hx : 0 ≤ x
 · exact (h.1 hx).1
 · have := (h.2 (by grind)).1; grind
theorem CutOf.ge {x c e : Rat} (h : CutOf true x c e) : x ≤ c := by
 by_cases hx : 0 ≤ x
 · exact (h.1 hx).1
 · have := (h.2 (by grind)).1; grind
def Enc (lo hi x d : Rat) : Prop := Exs lo hi x ∧ Nar lo hi d
theorem Exs.wider {a b c d x : Rat} (h : Exs a b x) (hc : 0 < c) (h1 : c ≤ a) (h2 : b ≤ d) : Exs c d x := by
 have pa := h.1
 have pb := h.2.1
 by_cases hx : 0 ≤ x
 · exact ⟨hc, by grind, .inl ⟨hx, (h.pos hx).wider h1 h2⟩⟩
 · exact ⟨hc, by grind, .inr ⟨by grind, (h.neg.pos (show 0 ≤ -x by grind)).wider (inv_le (by grind) h2) (inv_le hc h1)⟩⟩
theorem Enc.cut {lo hi x d l h e : Rat} (n : Enc lo hi x d) (hl : CutOf false lo l e) (hh : CutOf true hi h e) (h0 : 0 ≤ d) (h1 : d ≤ 1) (e0 : 0 ≤ e) (e1 : 8 * e ≤ 1) : Enc l h x (d + 5 * e) := by
 have p := n.1.1
 have q := n.1.2.1
 have r := Nar.cut n.2 (hl.1 (Rat.le_of_lt p)) (hh.1 (by grind)) h0 h1 e0 e1
 exact ⟨n.1.wider r.1 hl.le hh.ge, r⟩
theorem Enc.inv {lo hi x d l h e : Rat} (n : Enc lo hi x d) (hl : CutOf false hi⁻¹ l e) (hh : CutOf true lo⁻¹ h e) (h0 : 0 ≤ d) (h1 : d ≤ 1) (e0 : 0 ≤ e) (e1 : 8 * e ≤ 1) : Enc l h (-x) (d + 5 * e) :=
 Enc.cut ⟨n.1.neg, Nar.inv n.2 n.1.2.1⟩ hl hh h0 h1 e0 e1
theorem Enc.less_pos {lo hi x d : Rat} (n : Enc lo hi x d) (hx : 1 ≤ 256 * x) (h0 : 0 ≤ d) (h1 : 1024 * d ≤ 1) : Nar (lo - 1) (hi - 1) (1024 * d) := by
 have q := n.1.ge_add
 obtain ⟨n1, n2⟩ := n.2
 have k : 512 < 511 * lo := by
  have s1 : 257 ≤ 256 * (lo * (1 + d)) := by grind
  have s2 := Rat.mul_le_mul_of_nonneg_left h1 (Rat.le_of_lt n1)
  grind
 refine ⟨by grind, ?_⟩
 have s3 := Rat.mul_le_mul_of_nonneg_right (show lo ≤ 1024 * (lo - 1) by grind) h0
 grind
theorem Enc.less_neg {lo hi x d : Rat} (n : Enc lo hi x d) (hx : 256 * x ≤ -1) (h0 : 0 ≤ d) (h1 : 1024 * d ≤ 1) : Nar (1 - hi) (1 - lo) (1024 * d) := by
 have q := n.1.neg.ge_add
 obtain ⟨n1, n2⟩ := n.2
 have i := Rat.mul_inv_cancel lo (by grind)
 have k0 := Rat.mul_le_mul_of_nonneg_left q (Rat.le_of_lt n1)
 have k1 : lo * (1 + -x) ≤ 1 := by grind
 have k2 := Rat.mul_le_mul_of_nonneg_left (show 257 ≤ 256 * (1 + -x) by grind) (Rat.le_of_lt n1)
 have k : 257 * lo ≤ 256 := by grind
 have s2 := Rat.mul_le_mul_of_nonneg_left h1 (Rat.le_of_lt n1)
 have hl1 : lo ≤ 1 := by grind
 have s4 : 1 ≤ 1024 * (1 - hi) := by grind
 refine ⟨by grind, ?_⟩
 have s3 := Rat.mul_le_mul_of_nonneg_right s4 h0
 have s5 := Rat.mul_le_mul_of_nonneg_right hl1 h0
 grind
theorem Nar.scale {lo hi d t : Rat} (n : Nar lo hi d) (ht : 0 < t) : Nar (t * lo) (t * hi) d := by
 refine ⟨Rat.mul_pos ht n.1, ?_⟩
 have := Rat.mul_le_mul_of_nonneg_left n.2 (Rat.le_of_lt ht)
 grind
theorem Nar.over {a b c d p q : Rat} (n : Nar a b p) (m : Nar c d q) (hcd : c ≤ d) (hb : 0 ≤ b) (p0 : 0 ≤ p) (p1 : p ≤ 1) (q0 : 0 ≤ q) : Nar (a * d⁻¹) (b * c⁻¹) (p + 2 * q) :=
 Nar.mul n (m.inv hcd) (Rat.le_of_lt (Rat.inv_pos.2 m.1)) p0 p1 q0
end Exq

namespace Exq
set_option linter.unusedVariables false
theorem cut_room {m p n : Nat} (hp : 1 ≤ p) (hm : 2 ^ (p + n - 1) ≤ m) : ((2 ^ n : Nat) : Rat) ≤ (m : Rat) * ep p := by
 have e : 2 ^ (p + n - 1) * 2 = 2 ^ p * 2 ^ n := by
  rw [← Nat.pow_succ, ← Nat.pow_add]; congr 1; omega
 have h1 : 2 ^ p * 2 ^ n ≤ m * 2 := by rw [← e]; exact Nat.mul_le_mul_right _ hm
 have h2 := Rat.natCast_le_natCast.2 h1
 rw [Rat.natCast_mul, Rat.natCast_mul] at h2
 have P := upos (Nat.two_pow_pos p)
 unfold ep
 generalize ((2 ^ p : Nat) : Rat) = A at *
 generalize ((2 ^ n : Nat) : Rat) = B at *
 have i := Rat.mul_inv_cancel A (by grind)
 have h3 := Rat.mul_le_mul_of_nonneg_right h2 (Rat.le_of_lt (Rat.inv_pos.2 P))
 rw [show ((2 : Nat) : Rat) = 2 from rfl] at h3
 have e3 : A * B * A⁻¹ = B := by clear h1 e hm hp; grind
 rw [e3, Rat.mul_assoc, Rat.mul_comm 2] at h3
 exact h3
theorem cut_down {m p n : Nat} (hp : 1 ≤ p) (hm : 2 ^ (p + n - 1) ≤ m) : Dn (m : Rat) ((m / 2 ^ n * 2 ^ n : Nat) : Rat) (ep p) := by
 have h1 := Nat.div_mul_le_self m (2 ^ n)
 have h2 : m ≤ m / 2 ^ n * 2 ^ n + 2 ^ n := by
  have := Nat.div_add_mod m (2 ^ n); have := Nat.mod_lt m (Nat.two_pow_pos n); rw [Nat.mul_comm (m / 2 ^ n)]; omega
 have h3 := Rat.natCast_le_natCast.2 h2
 rw [Rat.natCast_add] at h3
 have h4 := cut_room hp hm
 refine ⟨Rat.natCast_le_natCast.2 h1, ?_⟩
 generalize ((2 ^ n : Nat) : Rat) = B at *
 grind
theorem cut_up {m p n : Nat} (hp : 1 ≤ p) (hm : 2 ^ (p + n - 1) ≤ m) : Up (m : Rat) (((m / 2 ^ n + 1) * 2 ^ n : Nat) : Rat) (ep p) := by
 have h1 := Nat.div_mul_le_self m (2 ^ n)
 have h2 : m ≤ (m / 2 ^ n + 1) * 2 ^ n := by
  have := Nat.div_add_mod m (2 ^ n); have := Nat.mod_lt m (Nat.two_pow_pos n); rw [Nat.add_mul, Nat.one_mul, Nat.mul_comm (m / 2 ^ n)]; omega
 have h3 : (m / 2 ^ n + 1) * 2 ^ n ≤ m + 2 ^ n := by rw [Nat.add_mul, Nat.one_mul]; omega
 have h5 := Rat.natCast_le_natCast.2 h3
 rw [Rat.natCast_add] at h5
 have h4 := cut_room hp hm
 refine ⟨Rat.natCast_le_natCast.2 h2, ?_⟩
 generalize ((2 ^ n : Nat) : Rat) = B at *
 grind
theorem Dn.scale {x c e s : Rat} (h : Dn x c e) (hs : 0 ≤ s) : Dn (x * s) (c * s) e := by
 obtain ⟨h1, h2⟩ := h
 refine ⟨Rat.mul_le_mul_of_nonneg_right h1 hs, ?_⟩
 have := Rat.mul_le_mul_of_nonneg_right h2 hs
 grind
theorem Up.scale {x c e s : Rat} (h : Up x c e) (hs : 0 ≤ s) : Up (x * s) (c * s) e := by
 obtain ⟨h1, h2⟩ := h
 refine ⟨Rat.mul_le_mul_of_nonneg_right h1 hs, ?_⟩
 have := Rat.mul_le_mul_of_nonneg_right h2 hs
 grind
theorem Dn.self {x e : Rat} (hx : 0 ≤ x) (he : 0 ≤ e) : Dn x x e := ⟨Rat.le_refl, by have := Rat.mul_nonneg hx he; grind⟩
theorem Up.self {x e : Rat} (hx : 0 ≤ x) (he : 0 ≤ e) : Up x x e := ⟨Rat.le_refl, by have := Rat.mul_nonneg hx he; grind⟩
theorem CutOf.self {b : Bool} {x e : Rat} (he : 0 ≤ e) : CutOf b x x e := by
 cases b
 · exact ⟨fun h => Dn.self h he, fun h => Up.self (by grind) he⟩
 · exact ⟨fun h => Up.self h he, fun h => Dn.self (by grind) he⟩
theorem CutOf.amount {up neg : Bool} {x c e : Rat} (hx : 0 < x) (h : if up = neg then Dn x c e else Up x c e) : CutOf up (if neg then -x else x) (if neg then -c else c) e := by
 cases neg <;> cases up
 · exact ⟨fun _ => h, fun q => by exfalso; have q2 : x ≤ 0 := q; grind⟩
 · exact ⟨fun _ => h, fun q => by exfalso; have q2 : x ≤ 0 := q; grind⟩
 · refine ⟨fun q => by exfalso; have q2 : 0 ≤ -x := q; grind, fun _ => ?_⟩
   show Up (- -x) (- -c) e
   rw [Rat.neg_neg, Rat.neg_neg]; exact h
 · refine ⟨fun q => by exfalso; have q2 : 0 ≤ -x := q; grind, fun _ => ?_⟩
   show Dn (- -x) (- -c) e
   rw [Rat.neg_neg, Rat.neg_neg]; exact h
end Exq

namespace Go.Proofs.YtkdicconchobfaaGreatDoor
open Go Go.RowKit Go.Proofs.YtkdicconchobfaaGreatDoorW.PrintWords Limb Exq
set_option linter.unusedVariables false
set_option linter.unusedSimpArgs false
theorem Dv_form (z e : Int) : Dv z e = Dv (sgn (cneg z) (cman z)) (cexp z e) := by
 by_cases h0 : z = 0
 · subst h0; rw [cman_zero, sgn_zero, Dv_zero, Dv_zero]
 · obtain ⟨k, h1, h2, _⟩ := of_form (e := e) h0
   rw [h1, ← Dv_shift, ← sgn_pow, ← h2]
theorem Dv_sgn (b : Bool) (m : Nat) (e : Int) : Dv (sgn b m) e = if b then -((m : Rat) * (2 : Rat) ^ e) else (m : Rat) * (2 : Rat) ^ e := by
 cases b
 · rfl
 · show Dv (-(m : Int)) e = _
   rw [Dv_neg]; rfl
def Short (p : Nat) (c : Rat) : Prop := ∃ y f : Int, c = Dv y f ∧ y.natAbs ≤ 2 ^ p
theorem cut_len {m p k : Nat} (hk : bl m = p + k) : m / 2 ^ k + 1 ≤ 2 ^ p := by
 have h1 := bl_lt m
 rw [hk, Nat.pow_add] at h1
 exact (Nat.div_lt_iff_lt_mul (Nat.two_pow_pos k)).2 h1
theorem cut_pure {z e : Int} {p k : Nat} {up : Bool} (h0 : z ≠ 0) (hp : 1 ≤ p) (hk : bl (cman z) = p + k) (hk0 : 0 < k) {a : Nat} (ha : a = cman z / 2 ^ k + if (!(up == cneg z)) = true then 1 else 0) :
 CutOf up (Dv z e) (Dv (sgn (cneg z) a) (cexp z e + k)) (ep p) ∧ Short p (Dv (sgn (cneg z) a) (cexp z e + k)) := by
 have hm0 : cman z ≠ 0 := fun h => h0 (cman_eq_zero.1 h)
 have hb : 2 ^ (p + k - 1) ≤ cman z := by
  have := bl_le hm0; rwa [hk] at this
 have hp2 : (0 : Rat) < (2 : Rat) ^ cexp z e := Dv_pow_pos _
 have he : (2 : Rat) ^ (cexp z e + k) = ((2 ^ k : Nat) : Rat) * (2 : Rat) ^ cexp z e := by
  rw [Int.add_comm, Rat.zpow_add two_ne]
  congr 1
  rw [← pow_cast]
  norm_cast
 refine ⟨?_, sgn (cneg z) a, _, rfl, ?_⟩
 · rw [Dv_form z e, Dv_sgn, Dv_sgn]
   refine CutOf.amount (Rat.mul_pos (upos (Nat.pos_of_ne_zero hm0)) hp2) ?_
   have hx : (a : Rat) * (2 : Rat) ^ (cexp z e + k) = ((a * 2 ^ k : Nat) : Rat) * (2 : Rat) ^ cexp z e := by
    rw [he, ← Rat.mul_assoc, ← Rat.natCast_mul]
   rw [hx, ha]
   by_cases hu : up = cneg z
   · rw [if_pos hu, if_neg (by simp [hu]), Nat.add_zero]
     exact (cut_down hp hb).scale (Rat.le_of_lt hp2)
   · rw [if_neg hu, if_pos (by simpa using hu)]
     exact (cut_up hp hb).scale (Rat.le_of_lt hp2)
 · rw [sgn_abs, ha]
   have := cut_len hk
   split <;> omega
theorem cut_bd {z e : Int} {N p k : Nat} (h0 : z ≠ 0) (hk : bl (cman z) = p + k) (hp : 1 ≤ p) (h : Bd N z e) {a : Nat} (ha : a ≤ cman z / 2 ^ k + 1) : ∃ j : Nat, cexp z e + k = e + (j : Int) ∧ Bd (N + 1) (sgn (cneg z) a * 2 ^ j) e := by
 obtain ⟨i, h1, h2, h3⟩ := of_form (e := e) h0
 refine ⟨i + k, by rw [h1]; omega, ?_, by have := h.2.1; omega, by have := h.2.2; omega⟩
 have hm0 : cman z ≠ 0 := fun h => h0 (cman_eq_zero.1 h)
 have hz : z.natAbs = cman z * 2 ^ i := by
  have := congrArg Int.natAbs h2
  rwa [sgn_abs] at this
 have hb : 2 ^ k ≤ cman z := by
  have := bl_le hm0
  rw [hk] at this
  exact Nat.le_trans (Nat.pow_le_pow_right (by decide) (by omega)) this
 rw [← sgn_pow, sgn_abs]
 have hd : cman z / 2 ^ k * 2 ^ k ≤ cman z := Nat.div_mul_le_self _ _
 have h4 : a * 2 ^ k ≤ cman z * 2 := by
  calc a * 2 ^ k ≤ (cman z / 2 ^ k + 1) * 2 ^ k := Nat.mul_le_mul_right _ ha
   _ = cman z / 2 ^ k * 2 ^ k + 2 ^ k := by rw [Nat.add_mul, Nat.one_mul]
   _ ≤ _ := by omega
 calc a * 2 ^ (i + k) = a * 2 ^ k * 2 ^ i := by rw [Nat.add_comm, Nat.pow_add, Nat.mul_assoc]
  _ ≤ cman z * 2 * 2 ^ i := Nat.mul_le_mul_right _ h4
  _ = z.natAbs * 2 := by rw [hz]; ac_rfl
  _ < 2 ^ (N + 1) := by have := h.1; rw [Nat.pow_succ]; omega
theorem PDy.of_scale {w : World} {b : Nat} {v : Value} {z e : Int} (k : Nat) (h : PDy w b v (z * 2 ^ k) e) : PDy w b v z (e + k) := by
 obtain ⟨A, n, c, rfl, hr⟩ := h
 rw [cman_mul] at hr
 exact ⟨A, n, c, by rw [cneg_mul, cexp_mul], hr⟩
theorem PDy.as_ {w : World} {b : Nat} {v : Value} {z e y f : Int} (h : PDy w b v z e) (he : Dv z e = Dv y f) : PDy w b v y f := by
 obtain ⟨g, i, j, rfl, rfl, _⟩ := Dv_common e f
 rw [← Dv_shift, ← Dv_shift] at he
 have := Dv_inj he
 have h1 := h.scale i
 rw [this] at h1
 exact h1.of_scale j
theorem PQ.tight {w : World} {b N M : Nat} {v : Value} {q : Rat} {y f : Int} (h : PQ w b v q N) (hq : q = Dv y f) (hb : Bd M y f) : PQ w b v q M := by
 obtain ⟨z, e, h1, h2, h3⟩ := h
 exact ⟨y, f, h1.as_ (h2.symm.trans hq), hq, hb⟩
theorem i64_id {x : Int} (h1 : -9223372036854775808 ≤ x) (h2 : x ≤ 9223372036854775807) : IntKind.i64.wrap x = x := wrap_i64 h1 h2
def CutX (up : Bool) (p : Nat) (q c : Rat) : Prop := ∀ (m : Nat) (E : Int) (k : Nat), q = Dv (m : Int) E → m % 2 = 1 → bl m = p + k → 0 < k → c = Dv ((m / 2 ^ k + (if up = true then 1 else 0) : Nat) : Int) (E + (k : Int))
theorem odd_form {z e E : Int} {m : Nat} (h : Dv z e = Dv (m : Int) E) (hm : m % 2 = 1) : cman z = m ∧ cexp z e = E ∧ cneg z = false := by
 have tz0 : tz m = 0 := tz_odd hm
 have hm0 : (m : Int) ≠ 0 := by omega
 have c1 : cman (m : Int) = m := by unfold cman; rw [Int.natAbs_natCast, tz0]; simp
 have c2 : cexp (m : Int) E = E := by unfold cexp; rw [if_neg hm0, Int.natAbs_natCast, tz0]; simp
 have c3 : cneg (m : Int) = false := by unfold cneg; exact decide_eq_false (by omega)
 obtain ⟨g, i, j, rfl, rfl, _⟩ := Dv_common e E
 rw [← Dv_shift, ← Dv_shift] at h
 have h2 := Dv_inj h
 have a1 := cman_mul z i; have a2 := cexp_mul z g i; have a3 := cneg_mul z i
 rw [h2] at a1 a2 a3
 rw [cman_mul] at a1; rw [cexp_mul] at a2; rw [cneg_mul] at a3
 exact ⟨a1.symm.trans c1, a2.symm.trans c2, a3.symm.trans c3⟩
theorem CutX.few {up : Bool} {z e : Int} {p : Nat} {c : Rat} (h : bl (cman z) ≤ p) : CutX up p (Dv z e) c := by
 intro m E k hq hm hb hk
 rw [(odd_form hq hm).1, hb] at h; omega
theorem CutX.of {up : Bool} {z e : Int} {p k a : Nat} (hk : bl (cman z) = p + k) (hk0 : 0 < k) (ha : a = cman z / 2 ^ k + if (!(up == cneg z)) = true then 1 else 0) : CutX up p (Dv z e) (Dv (sgn (cneg z) a) (cexp z e + k)) := by
 intro m E k' hq hm hb hk'
 obtain ⟨h1, h2, h3⟩ := odd_form hq hm
 rw [h1] at hk ha
 have : k' = k := by omega
 subst this
 rw [h2, h3, ha, h3]
 cases up <;> rfl
theorem cut_fin {z e : Int} {N p k : Nat} {up : Bool} {w W : World} {v : Value} (hB : Bd N z e) (h0 : z ≠ 0) (hp : 1 ≤ p) (hk : bl (cman z) = p + k) (hk0 : 0 < k) {a : Nat} (ha : a = cman z / 2 ^ k + if (!(up == cneg z)) = true then 1 else 0) (hle : a ≤ cman z / 2 ^ k + 1) (hW : BL w W)
 (hv : PDy W w.heap.size v (sgn (cneg z) a) (cexp z e + k)) : ∃ v' c, Ending.returned v = .returned v' ∧ PQ W w.heap.size v' c (N + 1) ∧ CutOf up (Dv z e) c (ep p) ∧ Short p c ∧ CutX up p (Dv z e) c ∧ BL w W := by
 obtain ⟨h1, h2⟩ := cut_pure (up := up) h0 hp hk hk0 ha
 obtain ⟨j, h3, h4⟩ := cut_bd h0 hk hp hB hle
 refine ⟨v, _, rfl, ⟨_, e, ?_, ?_, h4⟩, h1, h2, CutX.of hk hk0 ha, hW⟩
 · rw [h3] at hv; exact hv.scale j
 · rw [h3, Dv_shift]
def Fe111_0 := [dg 0, vi 3, vb 4, U, U, U, U, U, U, U, U, U, U, U, U, U, U, U, U, U, U, U, U, U, U, U, U, U, U, U, U, U, U, U, U, U, U, U, U, U, U, U]
def Fe111_1 := fs Fe111_0 [(3, ps 0 0), (6, ps 1 0)]
def Be111_2 := [bb 25 (d3 0), bb 25 o3]
def Re111_3 : Rg := ⟨2, 5, 0, Fe111_0, Be111_2, [pa 0 0, pa 1 0], []⟩
def Fe111_4 := fs Fe111_1 [(10, dg 0), (11, dg 5)]
def Re111_5 : Rg := ⟨2, 5, 2, Fe111_1, Be111_2, [pl (dg 0) 0 0 0, pc (dg 5) 0 66 [dg 0] 3], [1]⟩
def Be111_6 := [bb 25 (d3 5), bb 25 o3]
def Fe111_7 := fs Fe111_4 [(7, bo .sub (vi 8) (vi 3)), (12, ps 0 1), (13, vs 6), (14, vi 8), (15, vi 3), (16, bo .sub (vi 8) (vi 3))]
def Re111_8 : Rg := ⟨6, 8, 2, Fe111_4, Be111_6, [pv (ps 0 1) 0, pl (vs 6) 0 0 1, pc (vi 8) 0 116 [vs 6] 1, pv (vi 3) 0, pv (bo .sub (vi 8) (vi 3)) 1, pv (bo .sub (vi 8) (vi 3)) 1], [2]⟩
def Fe111_9 := fs Fe111_7 [(17, bo .sub (vi 8) (vi 3)), (18, bo .leq (bo .sub (vi 8) (vi 3)) (li 0))]
def Re111_10 : Rg := ⟨2, 9, 2, Fe111_7, Be111_6, [pv (bo .sub (vi 8) (vi 3)) 0, pv (bo .leq (bo .sub (vi 8) (vi 3)) (li 0)) 0], []⟩
def Fe111_11 := fs Fe111_9 [(19, dg 5)]
def Re111_12 : Rg := ⟨1, 9, 2, Fe111_9, Be111_6, [pl (dg 5) 0 0 0], []⟩
def Be111_13 := [bb 25 (d3 5), bb 25 (d3 5)]
def Fe111_14 := fs Fe111_9 [(8, vs 9), (9, vb 10), (20, tu [vs 9, vb 10]), (21, ps 0 1), (22, vs 6), (23, bo .sub (vi 8) (vi 3)), (24, tu [vs 9, vb 10]), (25, vs 9), (26, vb 10)]
def Re111_15 : Rg := ⟨9, 9, 2, Fe111_9, Be111_6, [pv (ps 0 1) 0, pl (vs 6) 0 0 1, pv (bo .sub (vi 8) (vi 3)) 0, pc (tu [vs 9, vb 10]) 0 133 [vs 6, bo .sub (vi 8) (vi 3)] 2, pv (tu [vs 9, vb 10]) 1, pv (vs 9) 1, pv (vb 10) 1, pv (vs 9) 1, pv (vb 10) 1], [3]⟩
def Fe111_16 := fs Fe111_14 [(27, vb 4), (28, ps 0 0), (29, vb 5), (30, bo .neq (vb 4) (vb 5))]
def Re111_17 : Rg := ⟨4, 11, 2, Fe111_14, Be111_6, [pv (vb 4) 0, pv (ps 0 0) 0, pl (vb 5) 0 0 0, pv (bo .neq (vb 4) (vb 5)) 0], []⟩
def Fe111_18 := fs Fe111_16 [(8, vs 12), (31, vs 9), (32, vs 11), (33, vs 12)]
def Re111_19 : Rg := ⟨3, 11, 2, Fe111_16, Be111_6, [pv (vs 9) 0, pc (vs 11) 0 110 [lu 1] 1, pc (vs 12) 1 103 [vs 9, vs 11] 1], [1, 2]⟩
def Fe111_20 := fs Fe111_18 [(34, ps 0 0), (35, vb 5), (36, vs 12), (37, ps 0 2), (38, vi 7), (39, bo .sub (vi 8) (vi 3)), (40, bo .add (vi 7) (bo .sub (vi 8) (vi 3))), (41, dg 13)]
def Re111_21 : Rg := ⟨8, 13, 2, Fe111_18, Be111_6, [pv (ps 0 0) 0, pl (vb 5) 0 0 0, pv (vs 12) 0, pv (ps 0 2) 0, pl (vi 7) 0 0 2, pv (bo .sub (vi 8) (vi 3)) 0, pv (bo .add (vi 7) (bo .sub (vi 8) (vi 3))) 0, pc (dg 13) 0 102 [vb 5, vs 12, bo .add (vi 7) (bo .sub (vi 8) (vi 3))] 3], [7]⟩
def Be111_22 := [bb 25 (d3 5), bb 25 (d3 13)]
def Fe111_23 := fs Fe111_16 [(34, ps 0 0), (35, vb 5), (36, vs 9), (37, ps 0 2), (38, vi 7), (39, bo .sub (vi 8) (vi 3)), (40, bo .add (vi 7) (bo .sub (vi 8) (vi 3))), (41, dg 11)]
def Re111_24 : Rg := ⟨8, 11, 2, Fe111_16, Be111_6, [pv (ps 0 0) 0, pl (vb 5) 0 0 0, pv (vs 9) 0, pv (ps 0 2) 0, pl (vi 7) 0 0 2, pv (bo .sub (vi 8) (vi 3)) 0, pv (bo .add (vi 7) (bo .sub (vi 8) (vi 3))) 0, pc (dg 11) 0 102 [vb 5, vs 9, bo .add (vi 7) (bo .sub (vi 8) (vi 3))] 3], [7]⟩
def Be111_25 := [bb 25 (d3 5), bb 25 (d3 11)]
theorem cut_q {v : Value} {q : Rat} {N p : Nat} {up : Bool} {w : World} (h : CQ w v q N) (hN : N ≤ 67108864) (hp : 1 ≤ p) (hp2 : p ≤ 67108864) (hT : TB w) :
 Calls Tryz.prog 111 #[v, .int .i64 (p : Int), .bool up] w fun en w' => ∃ v' c, en = .returned v' ∧ PQ w' w.heap.size v' c (N + 1) ∧ CutOf up q c (ep p) ∧ Short p c ∧ CutX up p q c ∧ BL w w' := by
 obtain ⟨z, e, h, rfl, hB⟩ := h
 obtain ⟨b0, A0, n0, c0, x0, rfl⟩ := h.ex
 have l := bd_len hB; have lo := bd_lo hB; have hi := bd_hi hB
 have hbl : bl (cman z) ≤ N := bl_le_iff.2 (bd_man hB)
 have hw : IntKind.i64.wrap ((bl (cman z) : Int) - (p : Int)) = (bl (cman z) : Int) - (p : Int) := i64_id (by omega) (by omega)
 refine fn_enter (u := 64) (fn := Tryz.f111) Tryz.func111 rfl Fe111_0 [.bool b0, .slice A0 n0 c0, .int .i64 x0, .int .i64 (p : Int), .bool up] (by kernel_rfl) rfl (fun a0 S0 r0 => ?_)
 refine wp_seq (rk Re111_3 [] Fe111_1 Be111_2 S0 r0 ?_)
 intro _ _ _ r1 S1
 refine wp_seq (rk Re111_5 [.st 0 0 (d3 5)] Fe111_4 Be111_6 S1 r1 ?_)
 intro _ _ r2 _
 refine (pone_dy _ z e _ (h.below r2.first) (by omega) (by omega) (by omega) (tb hT r2)).mono ?_
 rintro _ V1 ⟨v, rfl, h1, k1⟩
 obtain ⟨b1, A1, n1, c1, x1, rfl⟩ := h1.ex
 replace h1 := h1.lower r2.fs
 refine ⟨[.bool b1, .slice A1 n1 c1, .int .i64 x1], rfl, rfl, rfl, k1, ?_⟩
 obtain ⟨hb1, hx1, p1⟩ := h1.cells
 intro _ _ _ r3 S3
 refine wp_seq (rk Re111_8 [] Fe111_7 Be111_6 S3 r3 ?_)
 intro _ _ r4 _
 refine (len_n (p1.lat (r4.at_ 0 _ rfl)).c (by omega)).mono ?_
 rintro _ V2 ⟨rfl, k2⟩
 refine ⟨[.int .i64 (bl (cman z) : Int)], rfl, rfl, rfl, k2, ?_⟩
 intro _ _ _ r5 S5
 refine wp_seq ?_
 refine wp_seq (rk Re111_10 [] Fe111_9 Be111_6 S5 r5 ?_)
 intro _ _ _ r6 S6
 refine wp_cond_split (t := decide ((IntKind.i64.wrap ((bl (cman z) : Int) - (p : Int))) ≤ 0)) (S6.cnd (by kernel_rfl)) (fun q1 => ?_) (fun q1 => ?_)
 · rw [hw] at q1
   have hle : bl (cman z) ≤ p := by have := of_decide_eq_true q1; omega
   have hshort : Short p (Dv z e) := ⟨_, _, Dv_form z e, by rw [sgn_abs]; exact Nat.le_of_lt (Nat.lt_of_lt_of_le (bl_le_iff.1 hle) (Nat.le_refl _))⟩
   refine wp_seq (rk Re111_12 [.st 1 0 (d3 5)] Fe111_11 Be111_13 S6 r6 ?_)
   intro _ g7 W7 r7 S7
   exact wp_ret (then_ret (ret_ok S7 [.agg #[.bool b1, .slice A1 n1 c1, .int .i64 x1]] (by kernel_rfl) (⟨_, _, rfl, ⟨z, e, (h1.lat (r7.at_ 0 _ rfl)), rfl, hB.more (by omega)⟩, CutOf.self (Rat.le_of_lt (ep_pos _)), hshort, CutX.few hle, r7.first⟩)))
 · rw [hw] at q1
   have hlt : p < bl (cman z) := by have := of_decide_eq_false q1; omega
   obtain ⟨k, hk⟩ : ∃ k, bl (cman z) = p + k := ⟨bl (cman z) - p, by omega⟩
   have hkk : IntKind.i64.wrap ((bl (cman z) : Int) - (p : Int)) = (k : Int) := by rw [hw]; omega
   have h0 : z ≠ 0 := by rintro rfl; rw [cman_zero] at hlt; exact absurd hlt (by rw [bl_zero]; omega)
   have hX : IntKind.i64.wrap (x1 + IntKind.i64.wrap ((bl (cman z) : Int) - (p : Int))) = cexp z e + (k : Int) := by rw [hkk, hx1]; exact i64_id (by omega) (by omega)
   refine wp_skip ?_
   refine wp_seq (rk Re111_15 [] Fe111_14 Be111_6 S6 r6 ?_)
   intro W7 g7 r7 _
   show Calls Tryz.prog 133 #[.slice A1 n1 c1, .int .i64 (IntKind.i64.wrap ((bl (cman z) : Int) - (p : Int)))] W7 _
   refine (shr_n _ k hkk (p1.lat (r7.at_ 0 _ rfl)).c (by omega) (by omega) (tb hT r7)).mono ?_
   rintro _ V3 ⟨v, rfl, h3, k3⟩
   obtain ⟨A3, n3, c3, rfl⟩ := h3.ex
   replace h3 := h3.lower r7.fs
   refine ⟨[.slice A3 n3 c3, .bool (cman z % 2 ^ k != 0)], rfl, rfl, rfl, k3, ?_⟩
   intro _ _ _ r8 S8
   refine wp_seq ?_
   refine wp_seq (rk Re111_17 [] Fe111_16 Be111_6 S8 r8 ?_)
   intro _ _ _ r9 S9
   refine wp_cond_split (t := !(up == b1)) (S9.cnd (by kernel_rfl)) (fun q2 => ?_) (fun q2 => ?_)
   · have fin1 : ∀ v W, BL w W → PDy W w.heap.size v (sgn b1 (cman z / 2 ^ k + 1)) (IntKind.i64.wrap (x1 + IntKind.i64.wrap ((bl (cman z) : Int) - (p : Int)))) → _ := fun v W hW hv => cut_fin hB h0 hp hk (by omega) (a := cman z / 2 ^ k + 1) (up := up) (by rw [if_pos (by rw [← hb1]; exact q2)]) (by omega) hW (by rw [hX, hb1] at hv; exact hv)
     refine rk Re111_19 [.mv (vs 12)] Fe111_18 Be111_6 S9 r9 ?_
     intro W10 g10 r10 _
     refine (of_n 1 (by decide) _).mono ?_
     rintro _ V4 ⟨v, rfl, h4, k4⟩
     obtain ⟨A4, n4, c4, rfl⟩ := h4.ex
     replace h4 := h4.lower r10.fs
     refine ⟨[.slice A4 n4 c4], rfl, rfl, rfl, k4, ?_⟩
     intro W11 g11 r11 _
     refine (add_n (h3.lat (r11.at_ 2 _ rfl)).c (h4.lat (r11.at_ 3 _ rfl)).c (by have := bl_div (d := 2 ^ k) hbl; omega) (by decide)).mono ?_
     rintro _ V5 ⟨v, rfl, h5, k5⟩
     obtain ⟨A5, n5, c5, rfl⟩ := h5.ex
     replace h5 := h5.lower r11.fs
     refine ⟨[.slice A5 n5 c5], rfl, rfl, rfl, k5, ?_⟩
     intro _ _ _ r12 S12
     refine wp_seq (rk Re111_21 [.st 1 0 (d3 13)] Fe111_20 Be111_22 S12 r12 ?_)
     intro W13 _ r13 _
     show Calls Tryz.prog 102 #[.bool b1, .slice A5 n5 c5, .int .i64 (IntKind.i64.wrap (x1 + (IntKind.i64.wrap ((bl (cman z) : Int) - (p : Int)))))] W13 _
     refine (form_n _ _ (h5.lat (r13.at_ 4 _ rfl)).c (by have := bl_div (d := 2 ^ k) hbl; have := bl_add (K := 4294967295) (a := cman z / 2 ^ k) (b := 1) (by omega) (by decide); omega) (by rw [hX]; omega) (by rw [hX]; omega) (tb hT r13)).mono ?_
     rintro _ V6 ⟨v, rfl, h6, k6⟩
     obtain ⟨b6, A6, n6, c6, x6, rfl⟩ := h6.ex
     replace h6 := h6.lower r13.fs
     refine ⟨[.bool b6, .slice A6 n6 c6, .int .i64 x6], rfl, rfl, rfl, k6, ?_⟩
     intro _ _ _ r14 S14
     exact rt S14 [.agg #[.bool b6, .slice A6 n6 c6, .int .i64 x6]] (fin1 _ _ r14.first (h6.lat (r14.at_ 5 _ rfl)))
   · have fin2 : ∀ v W, BL w W → PDy W w.heap.size v (sgn b1 (cman z / 2 ^ k)) (IntKind.i64.wrap (x1 + IntKind.i64.wrap ((bl (cman z) : Int) - (p : Int)))) → _ := fun v W hW hv => cut_fin hB h0 hp hk (by omega) (a := cman z / 2 ^ k) (up := up) (by rw [if_neg (by rw [← hb1, q2]; decide)]; rfl) (by omega) hW (by rw [hX, hb1] at hv; exact hv)
     refine wp_skip ?_
     refine wp_seq (rk Re111_24 [.st 1 0 (d3 11)] Fe111_23 Be111_25 S9 r9 ?_)
     intro W10 g10 r10 _
     show Calls Tryz.prog 102 #[.bool b1, .slice A3 n3 c3, .int .i64 (IntKind.i64.wrap (x1 + (IntKind.i64.wrap ((bl (cman z) : Int) - (p : Int)))))] W10 _
     refine (form_n _ _ (h3.lat (r10.at_ 2 _ rfl)).c (by have := bl_div (d := 2 ^ k) hbl; omega) (by rw [hX]; omega) (by rw [hX]; omega) (tb hT r10)).mono ?_
     rintro _ V7 ⟨v, rfl, h7, k7⟩
     obtain ⟨b7, A7, n7, c7, x7, rfl⟩ := h7.ex
     replace h7 := h7.lower r10.fs
     refine ⟨[.bool b7, .slice A7 n7 c7, .int .i64 x7], rfl, rfl, rfl, k7, ?_⟩
     intro _ g11 W11 r11 S11
     exact rt S11 [.agg #[.bool b7, .slice A7 n7 c7, .int .i64 x7]] (fin2 _ _ r11.first (h7.lat (r11.at_ 3 _ rfl)))
end Go.Proofs.YtkdicconchobfaaGreatDoor
