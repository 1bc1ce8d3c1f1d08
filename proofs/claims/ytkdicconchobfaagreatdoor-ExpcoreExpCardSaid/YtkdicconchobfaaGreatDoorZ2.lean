/- Part 2 of the library of this claim: what the program and the document compute, as contracts of their functions. -/
import Derived.Test.YtkdicconchobfaaGreatDoorZ1
import Derived.Laws.Bits64b
import Derived.BigRegion
import Derived.Deep.RegionWith
import Ieee.Arith
import Derived.Laws.FloatArith
import Derived.Laws.BitsAllLaws
import Derived.Shelf.Abstract
set_option maxRecDepth 100000
set_option maxHeartbeats 8000000
namespace Go.Proofs.YtkdicconchobfaaGreatDoor
open Go.RowKit Go.Proofs.YtkdicconchobfaaGreatDoorW.PrintWords Limb
set_option linter.unusedVariables false
set_option linter.unusedSimpArgs false
theorem nv_set2 {l : List Nat} {i : Nat} (h : i < l.length) (x : Nat) (h0 : wd l i = 0) : nv (l.set i x) = nv l + 2 ^ (64 * i) * x := by
 have := nv_set h x
 rw [h0, Nat.mul_zero, Nat.add_zero] at this
 exact this
theorem shl_two (p s c : Nat) : 2 ^ (64 * p) * s + 2 ^ (64 * (p + 1)) * c = 2 ^ (64 * p) * (s + 2 ^ 64 * c) := by
 rw [pw p, Nat.mul_add, Nat.mul_assoc, Nat.mul_left_comm]
theorem pshl_any (a : List Nat) (A : Option Addr) (na c n : Nat) (hna : a.length = na) (w : World) (ha : kU.C w A na a) (hc : na ≤ c) (wa : Wf a) (la : na ≤ 1073741824) (ln : n ≤ 68719476736) :
 Calls Tryz.prog 131 #[.slice A na c, .int .i64 (n : Int)] w fun e w' => ∃ v, e = .returned v ∧ PL w' w.heap.size v (limbs (nv a * 2 ^ n)) ∧ BL w w' := by
 subst hna
 have QA := yk (trim_any a A c w ha hc wa (by omega))
 have CA := yk (C_trim ha wa)
 obtain ⟨L, hL⟩ : ∃ L, L = limbs (nv a) := ⟨_, rfl⟩
 obtain ⟨n1, hn1⟩ : ∃ n, n = L.length := ⟨_, rfl⟩
 have ln1 : n1 ≤ 1073741824 := by have := limbs_nv_len wa; rw [hn1, hL]; omega
 have WL := yk (show Wf L by rw [hL]; exact wf_limbs _)
 have VL := yk (show nv L = nv a by rw [hL, nv_limbs])
 have NL := yk hn1.symm
 rw [← hL, ← hn1] at QA CA
 clear ha hc wa la hL hn1
 by_cases h0 : n1 = 0
 · subst h0
   have HZ := yk (show limbs (nv a * 2 ^ n) = [] by rw [← VL.out, List.length_eq_zero_iff.1 NL.out]; simp [nv, limbs_zero])
   go_enter Tryz.func131, Tryz.ntmps131
   go_wp2_with (go_at_call 109; refine QA.out.mono ?_; rintro e w_1 ⟨rfl, nq1, rfl⟩)
   go_ret
   exact ⟨_, rfl, by rw [HZ.out]; exact PL.nil _ _, pw_below_drewN yr _⟩
 have h00 : ((n1 : Int) == 0) = false := by simp; exact h0
 obtain ⟨q, hq⟩ : ∃ q, q = n / 64 := ⟨_, rfl⟩
 obtain ⟨k, hk⟩ : ∃ k, k = n % 64 := ⟨_, rfl⟩
 have hdv : (n : Int).tdiv 64 = (q : Int) := by rw [Int.tdiv_eq_ediv_of_nonneg (by omega)]; omega
 have hmd : (n : Int).tmod 64 = (k : Int) := by rw [Int.tmod_eq_emod_of_nonneg (by omega)]; omega
 have hk63 : k ≤ 63 := by omega
 have hq30 : q ≤ 1073741824 := by omega
 have HNK := yk (show n = 64 * q + k by omega)
 clear hq hk
 obtain ⟨N, hN⟩ : ∃ N, N = q + n1 + 1 := ⟨_, rfl⟩
 have hN1 : (q : Int) + n1 + 1 = (N : Int) := by omega
 have hN2 : N ≤ 2147483649 := by omega
 have hN3 : q + n1 < N := by omega
 have hNp : 0 < N := by omega
 have HN := yk hN
 clear hN h0
 go_enter Tryz.func131, Tryz.ntmps131
 go_wp2_with (first
  | (go_at_call 109; refine QA.out.mono ?_; rintro e w_2 ⟨rfl, hw2⟩; have W2 := yk (show BL w w_2 by obtain ⟨m, rfl⟩ := hw2; exact pw_below_drewN yr _); have C1 := yk (Kd.C_below CA.out W2.out); clear hw2)
  | ((with_reducible refine gate_dst (N := 20) rfl ?_); go_must (refine Kd.R_make kU (w0 := w_2) w_2.heap.size 64 rfl rfl 22 (.tmp 19) (.tmp 19) rfl (N : Int) ?mx ?my Tryz.underlying22 (.int .u64 0) 8 info_word rfl (by decide) (by decide) 0 (ok := fun _ => True) (okp := fun _ => False) ?mz (fun _ h => h.elim) trivial (by omega) ?ml yr (Nat.le_refl _) ?_; (case mx => rfl); (case my => rfl); (case mz => rfl); (case ml => omega); intro v_3 w_3 ho hb hg hown; obtain ⟨g, cap, rfl, hg1, hg2, _⟩ := Kd.R_form ho (by simp; omega); rw [show (List.replicate ((N : Int)).toNat (0 : Nat)).length = N by simp] at ho ⊢; have HO := yk ho; have B3 := yk hb; have HG := yk hg1; clear ho hb hg hown hg1 hg2)))
 go_loopw [25] (fun v25 wr => ∃ (i : Nat) (o : List Nat), v25 = .int .i64 i ∧ i ≤ n1 ∧ Aside0 (BL w_2 wr) ∧ Aside0 (kU.R 64 wr w_2.heap.size (fun _ => True) (.slice (some ⟨g, 0, none⟩) N cap) o) ∧ Aside0 (o.length = N ∧ Wf o ∧ nv o = nv (L.take i) * 2 ^ (64 * q + k))) (fun v25 _ => n1 - (intOf v25).toNat)
 case atStart => exact ⟨0, _, rfl, Nat.zero_le _, B3, HO, ⟨by simp, Wf.replicate _, by rw [nv_replicate]; simp [nv]⟩⟩
 case round =>
  obtain ⟨i, o, rfl, hi, HB, HO1, HG1⟩ := hrel
  by_cases hlt : i < n1
  · obtain ⟨ad, x, hA', hx0, hcell⟩ := at_word (Kd.C_below C1.out HB.out) NL.out i hlt
    subst hA'
    have HX := yk (wd_of hx0)
    have hx64 : x < 18446744073709551616 := WL.out.get hx0
    clear hx0
    obtain ⟨p, hp⟩ : ∃ p, p = q + i := ⟨_, rfl⟩
    have hpN : p < N := by omega
    have hp1N : p + 1 < N := by have := HN.out; omega
    have hp1 : (q : Int) + i = (p : Int) := by omega
    have HP := yk hp
    obtain ⟨w0, hw0⟩ : ∃ w0, w0 = wd o p := ⟨_, rfl⟩
    have HW0 := yk hw0
    have hsmall : nv o < 2 ^ (64 * p + k) := by
     rw [HG1.out.2.2, HP.out, show 64 * (q + i) + k = 64 * i + (64 * q + k) by omega]
     have h5 := Nat.mul_lt_mul_of_pos_right (nv_take_lt WL.out i) (Nat.two_pow_pos (64 * q + k))
     rw [← Nat.pow_add] at h5
     exact h5
    have hw0k : w0 < 2 ^ k := by
     rw [hw0, wd_eq HG1.out.2.1]
     refine Nat.lt_of_le_of_lt (Nat.mod_le _ _) ?_
     rw [Nat.div_lt_iff_lt_mul (Nat.two_pow_pos _), ← Nat.pow_add]
     rw [Nat.add_comm]; exact hsmall
    have hw64 : w0 < 18446744073709551616 := by rw [hw0]; exact wd_lt HG1.out.2.1 p
    have HZ1 := yk (show wd o (p + 1) = 0 from wd_small HG1.out.2.1 (k := p + 1) (Nat.lt_of_lt_of_le hsmall (Nat.pow_le_pow_right (by decide) (by omega))) (Nat.le_refl _))
    obtain ⟨hw1, hw2, hput⟩ := put_word HO1.out hpN
    rw [← hw0] at hw1
    obtain ⟨h1, h2, h3, h4⟩ := shl_word hx64 hk63 hw0k
    obtain ⟨s, hs⟩ : ∃ s, s = x * 2 ^ k % 2 ^ 64 := ⟨_, rfl⟩
    obtain ⟨t, ht⟩ : ∃ t, t = s + w0 := ⟨_, rfl⟩
    obtain ⟨c', hc'⟩ : ∃ c', c' = x / 2 ^ (64 - k) := ⟨_, rfl⟩
    have hd := Nat.mod_add_div (x * 2 ^ k) (2 ^ 64)
    rw [← hs, h3, ← hc'] at hd
    rw [← hs] at h1 h2
    rw [← hc'] at h4
    have hs64 : s < 18446744073709551616 := by rw [hs]; exact Nat.mod_lt _ (by decide)
    have hsh : IntKind.u64.wrap ((x : Int) * 2 ^ k) = (s : Int) := by
     rw [hs]; unfold IntKind.wrap; simp [IntKind.bits, IntKind.signed]
    have hor : bits .or .u64 (w0 : Int) (s : Int) = (t : Int) := by
     rw [bits_or_u64_nat w0 s hw64 hs64, Nat.or_comm, h1, ht]
    have hdd : s + 2 ^ 64 * c' = x * 2 ^ k := by omega
    have hc64 : c' < 18446744073709551616 := Nat.lt_of_lt_of_le h4 (Nat.pow_le_pow_right (by decide) (show k ≤ 64 by omega))
    have ht64 : t < 18446744073709551616 := by omega
    have hshr : (x : Int) / 2 ^ (64 - k) = (c' : Int) := by rw [hc']; simp
    have HDD := yk hdd
    have HT := yk ht
    have HC4 := yk h4
    have HPUT := yk hput
    have hst := run_store_word (P := Tryz.prog) (u := (t : Int)) hw1 hw2
    have HO2 := yk (hput t)
    have HL2 := yk (show (o.set p t).length = N by simp [HG1.out.1])
    have HV2 := yk (show nv (o.set p t) = nv o + 2 ^ (64 * p) * s by
     have := nv_set (l := o) (i := p) (by have := HG1.out.1; omega) t
     rw [← HW0.out] at this
     have h5 : 2 ^ (64 * p) * t = 2 ^ (64 * p) * s + 2 ^ (64 * p) * w0 := by rw [HT.out, Nat.mul_add]
     omega)
    have HS2 := yk (show nv (L.take (i + 1)) * 2 ^ (64 * q + k) = nv o + 2 ^ (64 * p) * (x * 2 ^ k) by
     rw [nv_take_succ, HX.out, Nat.add_mul, ← HG1.out.2.2, HP.out]
     congr 1
     rw [Nat.mul_add, Nat.pow_add, Nat.pow_add]
     simp only [Nat.mul_assoc, Nat.mul_comm, Nat.mul_left_comm])
    clear h1 h2 h3 h4 hd hs ht hc' hput hw0k hsmall hw0 hdd hp
    by_cases hk0 : k = 0
    · have hkn : k ≤ 0 := by omega
      have hkd : decide (0 < (k : Int)) = false := decide_eq_false (by omega)
      have HC0 := yk (show c' = 0 by have := HC4.out; rw [hk0] at this; omega)
      clear hk0
      go_wp2
      go_region
      go_wp2
      go_roundw
      case rel => exact ⟨i + 1, o.set p t, by go_num, by omega, ⟨below_drew (HB.out.setCell HG.out _)⟩, ⟨Kd.R_drewN HO2.out 1⟩, ⟨HL2.out, HG1.out.2.1.set ht64, by
       rw [HV2.out, HS2.out]
       have h5 := HDD.out
       rw [HC0.out, Nat.mul_zero, Nat.add_zero] at h5
       rw [h5]⟩⟩
      case measure => simp [intOf]; omega
    · have hkn : 0 < k := by omega
      have hkd : decide (0 < (k : Int)) = true := decide_eq_true (by omega)
      obtain ⟨p1, hpp⟩ : ∃ p1, p1 = p + 1 := ⟨_, rfl⟩
      have hpp1 : (p : Int) + 1 = (p1 : Int) := by omega
      have hp1M : p1 < N := by omega
      have HPP := yk hpp
      obtain ⟨hv1, hv2, hput2⟩ := put_word HO2.out hp1M
      have hst2 := run_store_word (P := Tryz.prog) (u := (c' : Int)) hv1 hv2
      have HO3 := yk (hput2 c')
      have HZ2 := yk (show wd (o.set p t) p1 = 0 by rw [wd_set_ne (by omega), hpp]; exact HZ1.out)
      clear hput2 hk0 hpp
      go_wp2
      go_region
      go_wp2
      go_roundw
      case rel => exact ⟨i + 1, (o.set p t).set p1 c', by go_num, by omega, ⟨by first | exact (below_drew (HB.out.setCell HG.out _)).setCell HG.out _ | exact below_drew ((HB.out.setCell HG.out _).setCell HG.out _)⟩, ⟨by first | exact HO3.out | exact Kd.R_drewN HO3.out 1⟩, ⟨by rw [List.length_set]; exact HL2.out, (HG1.out.2.1.set ht64).set hc64, by
       rw [nv_set2 (by rw [HL2.out]; exact hp1M) c' HZ2.out, HV2.out, HS2.out, ← HDD.out, HPP.out, Nat.add_assoc, shl_two]⟩⟩
      case measure => simp [intOf]; omega
  · obtain rfl : i = n1 := by omega
    have HF := yk (show nv o = nv a * 2 ^ n by rw [HG1.out.2.2, nv_take_all (by rw [NL.out]; omega), VL.out, ← HNK.out])
    have QT := yk (trim_own HO1.out HG1.out.2.1 (by omega))
    go_wp2_with (go_at_call 109; refine QT.out.mono ?_; rintro e w5 ⟨v, rfl, ho, n5, rfl⟩; rw [HF.out] at ho; have HOO := yk ho; clear ho)
    go_ret
    have HB4 := below_then W2.out W2.out.size HB.out
    exact ⟨_, rfl, HOO.out.lower W2.out.size, pw_below_drewN HB4 _⟩
theorem addr_add (ad : Addr) (q i : Nat) : (ad.add q).add i = ad.add (q + i) := by
 unfold Addr.add
 split <;> split <;> simp_all <;> omega
theorem run_from (n : Nat) (ad : Addr) (q m : Nat) (hq : q < n) (hm : n - q = m) : ∀ W : World, (Instr.slice 22 (.slice (some ad) n n) (some (.int .i64 (q : Int))) none none).run Tryz.prog W = .ok (.slice (some (ad.add q)) m m) W := by
 obtain ⟨i, hi, he⟩ := Option.map_eq_some_iff.1 info_word
 simp only [Prod.mk.injEq] at he
 intro W
 have hu : Tryz.prog.underlying 22 = some (.slice (Tryz.prog.elem 22)) := by kernel_rfl
 rw [run_slice_l W 22 (some ad) n n hu .i64 q (by omega) (by omega)]
 have hs : (sizeOf (Tryz.prog.elem 22)).run Tryz.prog W = .ok 1 W := by
  rw [show Tryz.prog.elem 22 = 64 by kernel_rfl]
  exact Tryz.sizeOf64 W
 rw [hs]
 show Result.ok (sliced (some ad) ((q : Int)).toNat n n 1) W = _
 rw [Int.toNat_natCast]
 unfold sliced
 rw [if_neg (by omega), Option.map_some, Nat.mul_one, hm]
theorem pshr_any (a : List Nat) (A : Option Addr) (na c n : Nat) (hna : a.length = na) (w : World) (ha : kU.C w A na a) (hc : na ≤ c) (wa : Wf a) (la : na ≤ 1073741824) (ln : n ≤ 68719476736) (hT : TabAt 0 Lib.deBruijn64tab w) :
 Calls Tryz.prog 133 #[.slice A na c, .int .i64 (n : Int)] w fun e w' => ∃ v, e = .returned (.tuple #[v, .bool (nv a % 2 ^ n != 0)]) ∧ PL w' w.heap.size v (limbs (nv a / 2 ^ n)) ∧ BL w w' := by
 subst hna
 have QA := yk (trim_any a A c w ha hc wa (by omega))
 have CA := yk (C_trim ha wa)
 have HTAB := yk hT
 obtain ⟨L, hL⟩ : ∃ L, L = limbs (nv a) := ⟨_, rfl⟩
 obtain ⟨n1, hn1⟩ : ∃ n, n = L.length := ⟨_, rfl⟩
 have ln1 : n1 ≤ 1073741824 := by have := limbs_nv_len wa; rw [hn1, hL]; omega
 have WL := yk (show Wf L by rw [hL]; exact wf_limbs _)
 have VL := yk (show nv L = nv a by rw [hL, nv_limbs])
 have NL := yk hn1.symm
 have HLL := yk hL
 rw [← hL, ← hn1] at QA CA
 clear ha hc wa la hL hn1 hT
 by_cases h0 : n1 = 0
 · subst h0
   have hz : nv a = 0 := by rw [← VL.out, List.length_eq_zero_iff.1 NL.out]; simp [nv]
   have HZ := yk (show limbs (nv a / 2 ^ n) = [] by rw [hz]; simp [limbs_zero])
   have HB := yk (show (nv a % 2 ^ n != 0) = false by rw [hz]; simp)
   clear hz
   go_enter Tryz.func133, Tryz.ntmps133
   go_wp2_with (go_at_call 109; refine QA.out.mono ?_; rintro e w_1 ⟨rfl, nq1, rfl⟩)
   go_ret2
   exact ⟨_, by rw [HB.out]; rfl, by rw [HZ.out]; exact PL.nil _ _, pw_below_drewN yr _⟩
 have h00 : ((n1 : Int) == 0) = false := by simp; exact h0
 obtain ⟨q, hq⟩ : ∃ q, q = n / 64 := ⟨_, rfl⟩
 obtain ⟨k, hk⟩ : ∃ k, k = n % 64 := ⟨_, rfl⟩
 have hdv : (n : Int).tdiv 64 = (q : Int) := by rw [Int.tdiv_eq_ediv_of_nonneg (by omega)]; omega
 have hmd : (n : Int).tmod 64 = (k : Int) := by rw [Int.tmod_eq_emod_of_nonneg (by omega)]; omega
 have hk63 : k ≤ 63 := by omega
 have hq30 : q ≤ 1073741824 := by omega
 have HNK := yk (show n = 64 * q + k by omega)
 have hane : nv a ≠ 0 := fun h => h0 (by rw [← NL.out, HLL.out, h, limbs_zero]; rfl)
 obtain ⟨lost, hlost⟩ : ∃ b, b = (nv a % 2 ^ n != 0) := ⟨_, rfl⟩
 have hlow : decide ((tz (nv a) : Int) < n) = lost := by
  rw [hlost, Bool.eq_iff_iff, decide_eq_true_iff, bne_iff_ne]
  obtain ⟨p1, p2⟩ := tz_spec (nv a) hane
  constructor
  · intro h hm
    have hd := Nat.dvd_of_mod_eq_zero hm
    obtain ⟨e, he⟩ := hd
    have h2 : n = tz (nv a) + 1 + (n - tz (nv a) - 1) := by omega
    rw [h2, Nat.pow_add, Nat.pow_succ, Nat.mul_assoc, Nat.mul_assoc] at he
    have h3 : nv a / 2 ^ tz (nv a) = 2 * (2 ^ (n - tz (nv a) - 1) * e) := Nat.div_eq_of_eq_mul_right (Nat.two_pow_pos _) he
    omega
  · intro h
    refine Classical.byContradiction fun hc => h ?_
    have h2 : tz (nv a) = n + (tz (nv a) - n) := by omega
    rw [p1, h2, Nat.pow_add, Nat.mul_left_comm]
    exact Nat.mul_mod_right _ _
 have QLow := yk (fun (m : World) (hC : kU.C m A n1 L) (hT : TabAt 0 Lib.deBruijn64tab m) => (by
  have h := plow_any L A n1 m (by rw [NL.out]; exact hC) (by rw [NL.out]; exact Nat.le_refl _) WL.out (by rw [NL.out]; exact ln1) hT
  rw [NL.out, VL.out] at h
  exact h : Calls Tryz.prog 132 #[.slice A n1 n1] m fun e w' => e = .returned (.int .i64 (tz (nv a) : Int)) ∧ ∃ n, w' = m.drewN n))
 rw [← hlost]
 clear hq hk hane hlost
 obtain ⟨zz, hzz⟩ : ∃ z, z = tz (nv a) := ⟨_, rfl⟩
 rw [← hzz] at hlow QLow
 have HLOST := yk (show lost = decide (zz < n) by rw [← hlow, decide_eq_decide]; omega)
 clear hzz hlow
 by_cases hbig : n1 ≤ q
 · have hge : decide ((n1 : Int) ≤ (q : Int)) = true := decide_eq_true (by omega)
   have HZ := yk (show limbs (nv a / 2 ^ n) = [] by
    have h1 := nv_lt WL.out
    rw [NL.out, VL.out] at h1
    rw [Nat.div_eq_of_lt (Nat.lt_of_lt_of_le h1 (Nat.pow_le_pow_right (by decide) (by have := HNK.out; omega))), limbs_zero])
   go_enter Tryz.func133, Tryz.ntmps133
   go_wp2_with (first
    | (go_at_call 109; refine QA.out.mono ?_; rintro e w_1 ⟨rfl, nq1, rfl⟩)
    | (go_at_call 132; refine (QLow.out _ (Kd.C_drewN CA.out _) (tab_below HTAB.out (pw_below_drewN (Below.refl w.heap.size w) _))).mono ?_; rintro e w_2 ⟨rfl, nq2, rfl⟩))
   go_ret2
   exact ⟨_, by rw [HLOST.out]; rfl, by rw [HZ.out]; exact PL.nil _ _, pw_below_drewN yr _⟩
 obtain ⟨m, hm⟩ : ∃ m, n1 - q = m := ⟨_, rfl⟩
 have hqn : q < n1 := by omega
 have hm0 : 0 < m := by omega
 have hmn : m ≤ 1073741824 := by omega
 have hge : decide ((n1 : Int) ≤ (q : Int)) = false := decide_eq_false (by omega)
 obtain ⟨ad, x0, hAe, hx0, hc0⟩ := at_word CA.out NL.out q hqn
 subst hAe
 have hsl := run_from n1 ad q m hqn hm
 have HM := yk hm
 obtain ⟨V, hV⟩ : ∃ V, V = nv a / 2 ^ n := ⟨_, rfl⟩
 have HV := yk hV
 rw [← hV]
 clear hx0 hc0 hm hV hbig h0
 go_enter Tryz.func133, Tryz.ntmps133
 go_wp2_with (first
  | (go_at_call 109; refine QA.out.mono ?_; rintro e w_1 ⟨rfl, nq1, rfl⟩)
  | (go_at_call 132; refine (QLow.out _ (Kd.C_drewN CA.out _) (tab_below HTAB.out (pw_below_drewN (Below.refl w.heap.size w) _))).mono ?_; rintro e w_2 ⟨rfl, hw2⟩; have W2 := yk (show BL w w_2 by obtain ⟨m, rfl⟩ := hw2; exact pw_below_drewN (pw_below_drewN yr _) _); have C1 := yk (Kd.C_below CA.out W2.out); clear hw2)
  | ((with_reducible refine gate_dst (N := 32) rfl ?_); go_must (refine Kd.R_make kU (w0 := w_2) w_2.heap.size 64 rfl rfl 22 (.tmp 31) (.tmp 31) rfl (m : Int) ?mx ?my Tryz.underlying22 (.int .u64 0) 8 info_word rfl (by decide) (by decide) 0 (ok := fun _ => True) (okp := fun _ => False) ?mz (fun _ h => h.elim) trivial (by omega) ?ml yr (Nat.le_refl _) ?_; (case mx => rfl); (case my => rfl); (case mz => rfl); (case ml => omega); intro v_3 w_3 ho hb hg hown; obtain ⟨g, cap, rfl, hg1, hg2, _⟩ := Kd.R_form ho (by simp; omega); rw [show (List.replicate ((m : Int)).toNat (0 : Nat)).length = m by simp] at ho ⊢; have HO := yk ho; have B3 := yk hb; have HG := yk hg1; clear ho hb hg hown hg1 hg2)))
 go_loopw [37] (fun v37 wr => ∃ (i : Nat) (o : List Nat), v37 = .int .i64 i ∧ i ≤ m ∧ Aside0 (BL w_2 wr) ∧ Aside0 (kU.R 64 wr w_2.heap.size (fun _ => True) (.slice (some ⟨g, 0, none⟩) m cap) o) ∧ Aside0 (o.length = m ∧ Wf o ∧ nv (o.take i) = V % 2 ^ (64 * i))) (fun v37 _ => m - (intOf v37).toNat)
 case atStart => exact ⟨0, _, rfl, Nat.zero_le _, B3, HO, ⟨by simp, Wf.replicate _, by simp [nv, Nat.mod_one]⟩⟩
 case round =>
  obtain ⟨i, o, rfl, hi, HB, HO1, HG1⟩ := hrel
  by_cases hlt : i < m
  · obtain ⟨ad', x, hA', hx0, hcell0⟩ := at_word (Kd.C_below C1.out HB.out) NL.out (q + i) (by have := HM.out; omega)
    obtain rfl := Option.some.inj hA'
    have hcell : wr.cell? ((ad.add q).add i) = some (.int .u64 (x : Int)) := by rw [addr_add]; exact hcell0
    have HX := yk (wd_of hx0)
    have hx64 : x < 18446744073709551616 := WL.out.get hx0
    obtain ⟨y, hy⟩ : ∃ y, y = wd L (q + i + 1) := ⟨_, rfl⟩
    have hy64 : y < 18446744073709551616 := by rw [hy]; exact wd_lt WL.out _
    obtain ⟨t, ht⟩ : ∃ t, t = (x + 2 ^ 64 * y) / 2 ^ k % 2 ^ 64 := ⟨_, rfl⟩
    have HT := yk (show t = V / 2 ^ (64 * i) % 2 ^ 64 by
     rw [ht, ← HX.out, hy, HV.out, HNK.out, ← VL.out]
     exact (nv_down WL.out q i k).resolve_right (by omega))
    have ht64 : t < 18446744073709551616 := by rw [ht]; exact Nat.mod_lt _ (by decide)
    obtain ⟨x1, hx1⟩ : ∃ x1, x1 = x / 2 ^ k := ⟨_, rfl⟩
    have hx164 : x1 < 18446744073709551616 := by rw [hx1]; exact Nat.lt_of_le_of_lt (Nat.div_le_self _ _) hx64
    have hxs : (x : Int) / 2 ^ k = (x1 : Int) := by rw [hx1]; simp
    have hsr := shr_word (y := y) hx64 (show k ≤ 64 by omega)
    rw [← ht, ← hx1] at hsr
    have HSR := yk hsr
    have HY := yk hy
    have HX1 := yk hx1
    obtain ⟨hw1, hw2, hput⟩ := put_word HO1.out hlt
    have hst := run_store_word (P := Tryz.prog) (u := (x1 : Int)) hw1 hw2
    have HO2 := yk (hput x1)
    have HST := yk (show V % 2 ^ (64 * (i + 1)) = V % 2 ^ (64 * i) + 2 ^ (64 * i) * t by rw [mod_words, ← HT.out])
    clear hcell0 hx0 hy ht hx1 hsr hput hsl hA'
    by_cases hk0 : k = 0
    · have hkn : k ≤ 0 := by omega
      have hkd : decide (0 < (k : Int)) = false := decide_eq_false (by omega)
      have HT1 := yk (show x1 = t by
       have h5 := HSR.out
       subst hk0
       rw [show y * 2 ^ (64 - 0) % 2 ^ 64 = 0 from Nat.mul_mod_left _ _, Nat.or_zero] at h5
       exact h5)
      clear hk0
      go_wp2
      go_roundw
      case rel => exact ⟨i + 1, o.set i x1, by go_num, by omega, ⟨by first | exact HB.out.setCell HG.out _ | exact below_drew (HB.out.setCell HG.out _) | exact pw_below_drewN (HB.out.setCell HG.out _) _⟩, ⟨by first | exact HO2.out | exact Kd.R_drewN HO2.out _⟩, ⟨by rw [List.length_set]; exact HG1.out.1, HG1.out.2.1.set hx164, by rw [nv_take_set o i x1 (by have := HG1.out.1; omega), HG1.out.2.2, HST.out, HT1.out]⟩⟩
      case measure => simp [intOf]; omega
    · have hkn : 0 < k := by omega
      have hkd : decide (0 < (k : Int)) = true := decide_eq_true (by omega)
      have hi1 : IntKind.i64.wrap ((i : Int) + 1) = ((i + 1 : Nat) : Int) := by unfold IntKind.wrap; simp [IntKind.bits, IntKind.signed]; omega
      by_cases hlt2 : i + 1 < m
      · obtain ⟨ad', y', hA', hy0, hcell0⟩ := at_word (Kd.C_below C1.out HB.out) NL.out (q + i + 1) (by have := HM.out; omega)
        obtain rfl := Option.some.inj hA'
        obtain rfl : y' = y := by rw [HY.out]; exact (wd_of hy0).symm
        obtain ⟨i1, hii⟩ : ∃ i1, i1 = i + 1 := ⟨_, rfl⟩
        have hii1 : (i : Int) + 1 = (i1 : Int) := by omega
        have hlt3 : i1 < m := by omega
        have hcell2 : (wr.setCell ⟨g, i, none⟩ (.int .u64 (x1 : Int))).cell? ((ad.add q).add i1) = some (.int .u64 (y' : Int)) := by
         obtain ⟨ad'', y'', hA'', hy0', hcell0'⟩ := at_word (Kd.C_below C1.out (HB.out.setCell HG.out (.int .u64 (x1 : Int)) : Below w_2.heap.size w_2 (wr.setCell ⟨g, i, none⟩ (.int .u64 (x1 : Int))))) NL.out (q + i + 1) (by have := HM.out; omega)
         obtain rfl := Option.some.inj hA''
         rw [hy0] at hy0'
         obtain rfl := Option.some.inj hy0'
         rw [addr_add, hii]; exact hcell0'
        have HII := yk hii
        obtain ⟨y1, hy1⟩ : ∃ y1, y1 = y' * 2 ^ (64 - k) % 2 ^ 64 := ⟨_, rfl⟩
        have hy164 : y1 < 18446744073709551616 := by rw [hy1]; exact Nat.mod_lt _ (by decide)
        have hsh : IntKind.u64.wrap ((y' : Int) * 2 ^ (64 - k)) = (y1 : Int) := by
         rw [hy1]; unfold IntKind.wrap; simp [IntKind.bits, IntKind.signed]
        have hor : bits .or .u64 (x1 : Int) (y1 : Int) = (t : Int) := by
         rw [bits_or_u64_nat x1 y1 hx164 hy164, hy1, HSR.out]
        obtain ⟨hv1, hv2, hput2⟩ := put_word HO2.out hlt
        rw [wd_set o i x1 (by have := HG1.out.1; omega)] at hv1
        have hst2 := run_store_word (P := Tryz.prog) (u := (t : Int)) hv1 hv2
        have HO3 := yk (hput2 t)
        clear hy0 hcell0 hput2 hk0 hii hy1 hlt2 hA' hi1
        go_wp2
        go_region
        go_wp2
        go_roundw
        case rel => exact ⟨i1, (o.set i x1).set i t, rfl, by omega, ⟨below_drew ((HB.out.setCell HG.out _).setCell HG.out _)⟩, ⟨Kd.R_drewN HO3.out 1⟩, ⟨by rw [List.length_set, List.length_set]; exact HG1.out.1, (HG1.out.2.1.set hx164).set ht64, by rw [HII.out, nv_take_set (o.set i x1) i t (by rw [List.length_set]; have := HG1.out.1; omega), take_set, HG1.out.2.2, HST.out]⟩⟩
        case measure => simp [intOf]; omega
      · have hmi : m = i + 1 := by omega
        have hy0 : y = 0 := by rw [HY.out]; exact wd_ge (by rw [NL.out]; have := HM.out; omega)
        have HT1 := yk (show x1 = t by
         have h5 := HSR.out
         rw [hy0, Nat.zero_mul, Nat.zero_mod, Nat.or_zero] at h5
         exact h5)
        clear hk0 hy0
        subst hmi
        go_wp2
        go_roundw
        case rel => exact ⟨i + 1, o.set i x1, by go_num, by omega, ⟨by first | exact HB.out.setCell HG.out _ | exact below_drew (HB.out.setCell HG.out _) | exact pw_below_drewN (HB.out.setCell HG.out _) _⟩, ⟨by first | exact HO2.out | exact Kd.R_drewN HO2.out _⟩, ⟨by rw [List.length_set]; exact HG1.out.1, HG1.out.2.1.set hx164, by rw [nv_take_set o i x1 (by have := HG1.out.1; omega), HG1.out.2.2, HST.out, HT1.out]⟩⟩
        case measure => first | (simp [intOf]; done) | (simp [intOf]; omega)
  · obtain rfl : i = m := by omega
    clear hsl
    have HF := yk (show nv o = V by
     have h5 := HG1.out.2.2
     rw [nv_take_all (by have := HG1.out.1; omega)] at h5
     rw [h5]
     refine Nat.mod_eq_of_lt ?_
     rw [HV.out, HNK.out, Nat.pow_add, ← Nat.div_div_eq_div_mul]
     refine Nat.lt_of_le_of_lt (Nat.div_le_self _ _) ?_
     rw [Nat.div_lt_iff_lt_mul (Nat.two_pow_pos _), ← Nat.pow_add]
     have h6 := nv_lt WL.out
     rw [NL.out, VL.out] at h6
     rw [show 64 * i + 64 * q = 64 * n1 by have := HM.out; omega]
     exact h6)
    have QT := yk (trim_own HO1.out HG1.out.2.1 (by omega))
    go_wp2_with (go_at_call 109; refine QT.out.mono ?_; rintro e w5 ⟨v, rfl, ho, n5, rfl⟩; rw [HF.out] at ho; have HOO := yk ho; clear ho)
    go_ret2
    have HB4 := below_then W2.out W2.out.size HB.out
    exact ⟨_, by rw [HLOST.out]; rfl, HOO.out.lower W2.out.size, pw_below_drewN HB4 _⟩
theorem pmul_any (a b : List Nat) (A B : Option Addr) (na nb c d : Nat) (hna : a.length = na) (hnb : b.length = nb) (w : World) (ha : kU.C w A na a) (hb : kU.C w B nb b) (hc : na ≤ c) (hd : nb ≤ d) (wa : Wf a) (wb : Wf b) (la : na ≤ 1073741824) (lb : nb ≤ 1073741824) :
 Calls Tryz.prog 141 #[.slice A na c, .slice B nb d] w fun e w' => ∃ v, e = .returned v ∧ PL w' w.heap.size v (limbs (nv a * nv b)) ∧ BL w w' := by
 subst hna hnb
 have QA := yk (trim_any a A c w ha hc wa (by omega))
 have QB := yk (fun (m : Nat) => trim_any b B d (w.drewN m) (Kd.C_drewN hb _) hd wb (by omega))
 have CA := yk (C_trim ha wa)
 have CB := yk (C_trim hb wb)
 obtain ⟨L, hL⟩ : ∃ L, L = limbs (nv a) := ⟨_, rfl⟩
 obtain ⟨M, hM⟩ : ∃ M, M = limbs (nv b) := ⟨_, rfl⟩
 obtain ⟨n1, hn1⟩ : ∃ n, n = L.length := ⟨_, rfl⟩
 obtain ⟨n2, hn2⟩ : ∃ n, n = M.length := ⟨_, rfl⟩
 have ln1 : n1 ≤ 1073741824 := by have := limbs_nv_len wa; rw [hn1, hL]; omega
 have ln2 : n2 ≤ 1073741824 := by have := limbs_nv_len wb; rw [hn2, hM]; omega
 have WL := yk (show Wf L by rw [hL]; exact wf_limbs _)
 have WM := yk (show Wf M by rw [hM]; exact wf_limbs _)
 have VL := yk (show nv L = nv a by rw [hL, nv_limbs])
 have VM := yk (show nv M = nv b by rw [hM, nv_limbs])
 have NL := yk hn1.symm
 have NM := yk hn2.symm
 rw [← hL, ← hn1] at QA CA
 rw [← hM, ← hn2] at QB CB
 clear ha hb hc hd wa wb la lb hL hM hn1 hn2
 obtain ⟨N, hN⟩ : ∃ N, N = n1 + n2 := ⟨_, rfl⟩
 have hN1 : (n1 : Int) + n2 = (N : Int) := by omega
 have hN2 : N ≤ 2147483648 := by omega
 have hN3 : n1 ≤ N ∧ n2 ≤ N := by omega
 have HN := yk hN
 clear hN
 by_cases h0 : N = 0
 · subst h0
   obtain rfl : n1 = 0 := by omega
   obtain rfl : n2 = 0 := by omega
   clear hN1 hN2 hN3 HN
   have HZ := yk (show nv a * nv b = 0 by rw [← VL.out, List.length_eq_zero_iff.1 NL.out]; simp [nv])
   go_enter Tryz.func141, Tryz.ntmps141
   go_wp2_with (first
    | (go_at_call 109; first
    | (with_reducible refine QA.out.mono ?_; rintro e w_1 ⟨rfl, nq1, rfl⟩)
    | (with_reducible refine (QB.out _).mono ?_; rintro e w_2 ⟨rfl, nq2, hw2⟩; have W2 := yk (show BL w w_2 by rw [hw2]; exact pw_below_drewN (pw_below_drewN yr _) _); have C1 := yk (Kd.C_below CA.out W2.out); have C2 := yk (Kd.C_below CB.out W2.out); clear hw2))
    | ((with_reducible refine gate_dst (N := 23) rfl ?_); go_must (refine Kd.R_make kU (w0 := w_2) w_2.heap.size 64 rfl rfl 22 (.tmp 22) (.tmp 22) rfl (0 : Int) ?mx ?my Tryz.underlying22 (.int .u64 0) 8 info_word rfl (by decide) (by decide) 0 (ok := fun _ => True) (okp := fun _ => False) ?mz (fun _ h => h.elim) trivial (by omega) ?ml yr (Nat.le_refl _) ?_; (case mx => rfl); (case my => rfl); (case mz => rfl); (case ml => omega); intro v_3 w_3 ho hb hg hown; obtain ⟨A3, c3, rfl⟩ := Kd.R_slice ho; have HO := yk ho; have B3 := yk hb; clear ho hb hg hown)))
   go_loopw [26] (fun v26 wr => v26 = .int .i64 0 ∧ Aside0 (wr = w_3)) (fun _ _ => 0)
   case atStart => exact ⟨rfl, ⟨rfl⟩⟩
   case round =>
    obtain ⟨rfl, HE⟩ := hrel
    obtain rfl := HE.out
    have QT := yk (trim_own HO.out (by simpa using Wf.replicate 0) (by decide))
    have HV := yk (show nv (List.replicate ((0 : Int)).toNat 0) = nv a * nv b by rw [HZ.out]; simp [nv])
    go_wp2_with (go_at_call 109; refine QT.out.mono ?_; rintro e w5 ⟨v, rfl, ho, n5, rfl⟩; rw [HV.out] at ho; have HOO := yk ho; clear ho)
    go_ret
    exact ⟨_, rfl, HOO.out.lower W2.out.size, pw_below_drewN (below_then W2.out W2.out.size B3.out) _⟩
 have hNp : 0 < N := by omega
 clear h0
 go_enter Tryz.func141, Tryz.ntmps141
 go_wp2_with (first
  | (go_at_call 109; first
    | (with_reducible refine QA.out.mono ?_; rintro e w_1 ⟨rfl, nq1, rfl⟩)
    | (with_reducible refine (QB.out _).mono ?_; rintro e w_2 ⟨rfl, nq2, hw2⟩; have W2 := yk (show BL w w_2 by rw [hw2]; exact pw_below_drewN (pw_below_drewN yr _) _); have C1 := yk (Kd.C_below CA.out W2.out); have C2 := yk (Kd.C_below CB.out W2.out); clear hw2))
  | ((with_reducible refine gate_dst (N := 23) rfl ?_); go_must (refine Kd.R_make kU (w0 := w_2) w_2.heap.size 64 rfl rfl 22 (.tmp 22) (.tmp 22) rfl (N : Int) ?mx ?my Tryz.underlying22 (.int .u64 0) 8 info_word rfl (by decide) (by decide) 0 (ok := fun _ => True) (okp := fun _ => False) ?mz (fun _ h => h.elim) trivial (by omega) ?ml yr (Nat.le_refl _) ?_; (case mx => rfl); (case my => rfl); (case mz => rfl); (case ml => omega); intro v_3 w_3 ho hb hg hown; obtain ⟨g, cap, rfl, hg1, hg2, _⟩ := Kd.R_form ho (by simp; omega); rw [show (List.replicate ((N : Int)).toNat (0 : Nat)).length = N by simp] at ho ⊢; have HO := yk ho; have B3 := yk hb; have HG := yk hg1; clear ho hb hg hown hg1 hg2)))
 go_loopw [26] (fun v26 wr => ∃ (k : Nat) (o : List Nat), v26 = .int .i64 k ∧ k ≤ n1 ∧ Aside0 (BL w_2 wr) ∧ Aside0 (kU.R 64 wr w_2.heap.size (fun _ => True) (.slice (some ⟨g, 0, none⟩) N cap) o) ∧ Aside0 (o.length = N ∧ Wf o ∧ nv o = nv (L.take k) * nv M)) (fun v26 _ => n1 - (intOf v26).toNat)
 case atStart => exact ⟨0, _, rfl, Nat.zero_le _, B3, HO, ⟨by simp, Wf.replicate _, by rw [nv_replicate]; simp [nv]⟩⟩
 case round =>
  obtain ⟨k, o, rfl, hk, HB, HO1, HG1⟩ := hrel
  by_cases hlt : k < n1
  · obtain ⟨ad, x, hA', hx0, hcell⟩ := at_word (Kd.C_below C1.out HB.out) NL.out k hlt
    subst hA'
    have HX := yk (wd_of hx0)
    have hx64 : x < 18446744073709551616 := WL.out.get hx0
    clear hx0
    have hp0 : k + n2 < N := by have := HN.out; omega
    go_wp2
    go_loopw [8, 33] (fun v8 v33 wr => ∃ (j cy : Nat) (o : List Nat), v8 = .int .u64 cy ∧ v33 = .int .i64 j ∧ j ≤ n2 ∧ cy ≤ 18446744073709551615 ∧ Aside0 (BL w_2 wr) ∧ Aside0 (kU.R 64 wr w_2.heap.size (fun _ => True) (.slice (some ⟨g, 0, none⟩) N cap) o) ∧ Aside0 (o.length = N ∧ Wf o ∧ nv o + 2 ^ (64 * (k + j)) * cy = nv (L.take k) * nv M + 2 ^ (64 * k) * (x * nv (M.take j)) ∧ wd o (k + n2) = 0)) (fun _ v33 _ => n2 - (intOf v33).toNat)
    case atStart =>
     refine ⟨0, 0, o, rfl, rfl, Nat.zero_le _, by omega, HB, HO1, ⟨HG1.out.1, HG1.out.2.1, by rw [HG1.out.2.2]; simp [nv], ?_⟩⟩
     refine wd_small HG1.out.2.1 (k := k + n2) ?_ (Nat.le_refl _)
     rw [HG1.out.2.2, Nat.mul_add, Nat.pow_add]
     have h1 := nv_take_lt WL.out k
     have h2 := nv_lt WM.out
     rw [NM.out] at h2
     exact Nat.mul_lt_mul'' h1 h2
    case round =>
     clear HO1 HG1
     obtain ⟨j, cy, o, rfl, rfl, hj, hcy, HB', HO2, HG2⟩ := hrel
     by_cases hlt2 : j < n2
     · obtain ⟨bd, y, hB', hy0, hcell2⟩ := at_word (Kd.C_below C2.out HB'.out) NM.out j hlt2
       subst hB'
       have HY := yk (wd_of hy0)
       have hy64 : y < 18446744073709551616 := WM.out.get hy0
       clear hy0
       obtain ⟨p, hp⟩ : ∃ p, p = k + j := ⟨_, rfl⟩
       have hpN : p < N := by omega
       have hp1 : (k : Int) + j = (p : Int) := by omega
       have HP := yk hp
       obtain ⟨hw1, hw2, hput⟩ := put_word HO2.out hpN
       obtain ⟨w0, hw0⟩ : ∃ w0, w0 = wd o p := ⟨_, rfl⟩
       have hw64 : w0 < 18446744073709551616 := by rw [hw0]; exact wd_lt HG2.out.2.1 p
       rw [← hw0] at hw1
       obtain ⟨lo, hi, hlo, hlh, QM⟩ : ∃ lo hi : Nat, lo < 18446744073709551616 ∧ lo + 18446744073709551616 * hi = x * y ∧ ∀ m : World, Calls Tryz.prog 151 #[.int .u64 (x : Int), .int .u64 (y : Int)] m fun e w' => e = .returned (.tuple #[.int .u64 (hi : Int), .int .u64 (lo : Int)]) ∧ w' = m := ⟨x * y % 18446744073709551616, x * y / 18446744073709551616, Nat.mod_lt _ (by decide), Nat.mod_add_div _ _, fun m => Tryz.bits_Mul64 x y hx64 hy64 m⟩
       have QT := yk QM
       obtain ⟨s, c1', hs1, hs2, hs3, hs4⟩ : ∃ s c' : Nat, s < 18446744073709551616 ∧ c' ≤ 1 ∧ s + 18446744073709551616 * c' = lo + cy + 0 ∧ ∀ W : World, (callFunc 134 #[.int .u64 (lo : Int), .int .u64 (cy : Int), .int .u64 0]).run Tryz.prog W = .ok (.value (.tuple #[.int .u64 (s : Int), .int .u64 (c' : Int)])) W := ⟨(lo + cy + 0) % 18446744073709551616, (lo + cy + 0) / 18446744073709551616, by omega, by omega, by omega, fun W => Tryz.bits_Add64 lo cy 0 (by decide) W⟩
       obtain ⟨t, c2', ht1, ht2, ht3, ht4⟩ : ∃ s' c' : Nat, s' < 18446744073709551616 ∧ c' ≤ 1 ∧ s' + 18446744073709551616 * c' = w0 + s + 0 ∧ ∀ W : World, (callFunc 134 #[.int .u64 (w0 : Int), .int .u64 (s : Int), .int .u64 0]).run Tryz.prog W = .ok (.value (.tuple #[.int .u64 (s' : Int), .int .u64 (c' : Int)])) W := ⟨(w0 + s + 0) % 18446744073709551616, (w0 + s + 0) / 18446744073709551616, by omega, by omega, by omega, fun W => Tryz.bits_Add64 w0 s 0 (by decide) W⟩
       have hxy : x * y ≤ 18446744073709551615 * 18446744073709551615 := Nat.mul_le_mul (by omega) (by omega)
       obtain ⟨h1', hh1⟩ : ∃ h, h = hi + c1' := ⟨_, rfl⟩
       obtain ⟨h2', hh2⟩ : ∃ h, h = h1' + c2' := ⟨_, rfl⟩
       have hhi : h2' ≤ 18446744073709551615 := by omega
       have HT := yk (show t + 2 ^ 64 * h2' = w0 + x * y + cy by omega)
       have e1 : IntKind.u64.wrap ((hi : Int) + c1') = (h1' : Int) := by unfold IntKind.wrap; simp [IntKind.bits, IntKind.signed]; omega
       have e2 : IntKind.u64.wrap ((h1' : Int) + c2') = (h2' : Int) := by unfold IntKind.wrap; simp [IntKind.bits, IntKind.signed]; omega
       have HW0 := yk hw0
       have HPUT := yk hput
       have hst := run_store_word (P := Tryz.prog) (u := (t : Int)) hw1 hw2
       clear hw0 hp hput hxy hs3 ht3 hlh QM hh1 hh2
       go_wp2_with (go_at_call 151; refine (QT.out _).mono ?_; rintro e w' ⟨rfl, rfl⟩)
       go_roundw
       case rel =>
        refine ⟨j + 1, _, o.set p t, rfl, by go_num, by omega, by omega, ?hB, ?hO, ?hG⟩
        case hB => exact ⟨HB'.out.setCell HG.out _⟩
        case hO => exact ⟨HPUT.out t⟩
        case hG =>
         have hl : p < o.length := by have := HG2.out.1; omega
         refine ⟨by simp [HG2.out.1], HG2.out.2.1.set ht1, ?_, ?_⟩
         · rw [nv_take_succ M, HY.out]
           refine mul_step HG2.out.2.2.1 ?_ HT.out
           rw [← HP.out, HW0.out]
           exact nv_set hl t
         · rw [wd_set_ne (by have := HP.out; omega)]
           exact HG2.out.2.2.2
       case measure => simp [intOf]; omega
     · obtain rfl : j = n2 := by omega
       obtain ⟨p, hp⟩ : ∃ p, p = k + j := ⟨_, rfl⟩
       have hpN : p < N := by omega
       have hp1 : (k : Int) + j = (p : Int) := by omega
       have HP := yk hp
       obtain ⟨hw1, hw2, hput⟩ := put_word HO2.out hpN
       have HPUT := yk hput
       have hst := run_store_word (P := Tryz.prog) (u := (cy : Int)) hw1 hw2
       clear hp hput
       go_wp2
       go_roundw
       case rel =>
        refine ⟨k + 1, o.set p cy, by go_num, by omega, ?hB, ?hO, ?hG⟩
        case hB => exact ⟨HB'.out.setCell HG.out _⟩
        case hO => exact ⟨HPUT.out cy⟩
        case hG =>
         have hl : p < o.length := by have := HG2.out.1; omega
         refine ⟨by simp [HG2.out.1], HG2.out.2.1.set (by omega), ?_⟩
         rw [nv_take_succ L, HX.out]
         have e1 := nv_set hl cy
         have e2 := HG2.out.2.2.2
         rw [← HP.out] at e2
         rw [e2, HP.out] at e1
         have e3 := HG2.out.2.2.1
         rw [nv_take_all (l := M) (by rw [NM.out]; omega)] at e3
         rw [HP.out]
         exact mul_row e3 rfl (by omega)
       case measure => simp [intOf]; omega
  · obtain rfl : k = n1 := by omega
    have HF := yk (show nv o = nv a * nv b by rw [HG1.out.2.2, nv_take_all (by rw [NL.out]; omega), VL.out, VM.out])
    have QT := yk (trim_own HO1.out HG1.out.2.1 (by omega))
    go_wp2_with (go_at_call 109; refine QT.out.mono ?_; rintro e w5 ⟨v, rfl, ho, n5, rfl⟩; rw [HF.out] at ho; have HOO := yk ho; clear ho)
    go_ret
    have HB4 := below_then W2.out W2.out.size HB.out
    exact ⟨_, rfl, HOO.out.lower W2.out.size, pw_below_drewN HB4 _⟩
def PDy (w : World) (base : Nat) (v : Value) (z e : Int) : Prop :=
 ∃ A n c, v = .agg #[.bool (cneg z), .slice A n c, .int .i64 (cexp z e)] ∧ PL w base (.slice A n c) (limbs (cman z))
theorem PDy.c {w : World} {base : Nat} {v : Value} {z e : Int} (h : PDy w base v z e) : CDy w v z e := by
 obtain ⟨A, n, c, rfl, hr⟩ := h
 obtain ⟨A', c', he, hc, hC⟩ := hr.c
 injection he with h1 h2 h3
 subst h1 h2 h3
 exact ⟨A, _, c, rfl, hC, rfl, hc⟩
theorem PDy.lower {w : World} {b b' : Nat} {v : Value} {z e : Int} (h : PDy w b v z e) (hb : b' ≤ b) : PDy w b' v z e := by
 obtain ⟨A, n, c, rfl, hr⟩ := h
 exact ⟨A, n, c, rfl, hr.lower hb⟩
theorem PDy.below {w w1 : World} {b : Nat} {v : Value} {z e : Int} (h : PDy w b v z e) (hb : BL w w1) : PDy w1 b v z e := by
 obtain ⟨A, n, c, rfl, hr⟩ := h
 exact ⟨A, n, c, rfl, hr.below hb⟩
theorem PDy.grown {w w1 : World} {b g : Nat} {v : Value} {z e : Int} (h : PDy w b v z e) (hg : w.grownBy w1 (some g)) (hgb : g < b) : PDy w1 b v z e := by
 obtain ⟨A, n, c, rfl, hr⟩ := h
 exact ⟨A, n, c, rfl, hr.grown hg hgb⟩
theorem PDy.scale {w : World} {b : Nat} {v : Value} {z e : Int} (k : Nat) (h : PDy w b v z (e + k)) : PDy w b v (z * 2 ^ k) e := by
 obtain ⟨A, n, c, rfl, hr⟩ := h
 exact ⟨A, n, c, by rw [cneg_mul, cexp_mul], by rw [cman_mul]; exact hr⟩
theorem pform_any (neg : Bool) (l : List Nat) (A : Option Addr) (n c : Nat) (ex : Int) (hn : l.length = n) (w : World) (hl : kU.C w A n l) (hc : n ≤ c) (wl : Wf l) (ln : n ≤ 1073741824) (le1 : -1099511627776 ≤ ex) (le2 : ex ≤ 1099511627776) (hT : TabAt 0 Lib.deBruijn64tab w) :
 Calls Tryz.prog 102 #[.bool neg, .slice A n c, .int .i64 ex] w fun e w' => ∃ v, e = .returned v ∧ PDy w' w.heap.size v (sgn neg (nv l)) ex ∧ BL w w' := by
 subst hn
 have QN := yk (fun (m : World) (hm : BL w m) => trim_any l A c m (Kd.C_below hl hm) hc wl (by omega))
 have CL := yk (fun (m : World) (hm : BL w m) => C_trim (Kd.C_below hl hm) wl)
 have HT := yk (fun (m : World) (hm : BL w m) => tab_below hT hm)
 by_cases h0 : nv l = 0
 · have HZ := yk (show (limbs (nv l)).length = 0 by rw [h0, limbs_zero]; rfl)
   have HV := yk (show sgn neg (nv l) = 0 by rw [h0]; exact sgn_zero neg)
   rw [HZ.out] at QN
   clear hl h0 CL
   go_enter Tryz.func102, Tryz.ntmps102
   go_wp2_with (first
    | (go_at_call 109; go_must (refine (QN.out _ (below_alloc yr _)).mono ?_; rintro e w1 ⟨rfl, hw⟩; have hb := quiet_below hw; have HB := yk hb; have HH := yk (yb (blk_new w _) hb); clear hb hw))
    | ((with_reducible refine gate_store (p := 6) rfl ?_); go_must (refine sdy 6 (.tmp 15) rfl rfl rfl rfl rfl HH.out rfl ?_; intro wb HX HG)))
   refine bodyPost_ret (results_dyad rfl _ _ w.heap.size _ rfl HX.out rfl) rfl ?_
   refine ⟨_, rfl, ⟨none, 0, 0, by rw [HV.out]; rfl, by rw [HV.out, cman_zero, limbs_zero]; exact PL.nil _ _⟩, ?_⟩
   exact (below_then (below_alloc yr _) (below_alloc (Below.refl w.heap.size w) _).size HB.out).grown HG.out (below_then (below_alloc yr _) (below_alloc (Below.refl w.heap.size w) _).size HB.out).size (fun k hk => by cases hk; exact Nat.le_refl _)
 · obtain ⟨L, hL⟩ : ∃ L, L = limbs (nv l) := ⟨_, rfl⟩
   obtain ⟨n1, hn1⟩ : ∃ n, n = L.length := ⟨_, rfl⟩
   obtain ⟨k, hk⟩ : ∃ k, k = tz (nv l) := ⟨_, rfl⟩
   have hn0 : n1 ≠ 0 := by
    rw [hn1, hL]; intro h; exact h0 (limbs_eq_nil.1 (List.length_eq_zero_iff.1 h))
   have hnn : n1 ≤ 1073741824 := by have := limbs_nv_len wl; rw [hn1, hL]; omega
   have hkb : k ≤ 68719476736 := by
    have h1 := tz_lt_bl h0
    have h2 : bl (nv l) ≤ 64 * l.length := bl_le_iff.2 (nv_lt wl)
    omega
   have WL := yk (show Wf L by rw [hL]; exact wf_limbs _)
   have VL := yk (show nv L = nv l by rw [hL, nv_limbs])
   have NL := yk hn1.symm
   have HK := yk hk
   have HN0 := yk h0
   rw [← hL, ← hn1] at QN CL
   have QLow := yk (fun (m : World) (hm : BL w m) => (by
    have q := plow_any L A n1 m (by rw [NL.out]; exact CL.out m hm) (by rw [NL.out]; exact Nat.le_refl _) WL.out (by rw [NL.out]; exact hnn) (HT.out m hm)
    rw [NL.out, VL.out, ← HK.out] at q
    exact q : Calls Tryz.prog 132 #[.slice A n1 n1] m fun e w' => e = .returned (.int .i64 (k : Int)) ∧ ∃ n, w' = m.drewN n))
   have QShr := yk (fun (m : World) (hm : BL w m) => (by
    have q := pshr_any L A n1 n1 k NL.out m (CL.out m hm) (Nat.le_refl _) WL.out hnn hkb (HT.out m hm)
    rw [VL.out] at q
    exact q : Calls Tryz.prog 133 #[.slice A n1 n1, .int .i64 (k : Int)] m fun e w' => ∃ v, e = .returned (.tuple #[v, .bool (nv l % 2 ^ k != 0)]) ∧ PL w' m.heap.size v (limbs (nv l / 2 ^ k)) ∧ BL m w'))
   clear hl h0 hL hn1 hk
   have hz : ((n1 : Int) == 0) = false := by simp; omega
   have hex : IntKind.i64.wrap (ex + (k : Int)) = ex + k := wrap_i64 (by omega) (by omega)
   go_enter Tryz.func102, Tryz.ntmps102
   go_wp2_with (first
    | (go_at_call 109; go_must (refine (QN.out _ (below_alloc yr _)).mono ?_; rintro e w1 ⟨rfl, hw⟩; have hb := quiet_below hw; have HB := yk (below_then (below_alloc yr _) (below_alloc (Below.refl w.heap.size w) _).size hb); have HH := yk (yb (blk_new w _) hb); clear hb hw))
    | (go_at_call 132; go_must (refine (QLow.out _ HB.out).mono ?_; rintro e w2 ⟨rfl, hw⟩; have hb := quiet_below hw; have HB2 := yk (below_then HB.out HB.out.size hb); have HH2 := yk (yb HH.out hb); clear hb hw))
    | (go_at_call 133; go_must (refine (QShr.out _ HB2.out).mono ?_; rintro e w3 ⟨v, rfl, ho, hb⟩; obtain ⟨A2, c2, rfl, hc2, hC2⟩ := ho.c; have HO := yk ho; have HB3 := yk hb; have HH3 := yk (yb HH2.out hb); clear hb ho hC2))
    | ((with_reducible refine gate_store (p := 6) rfl ?_); go_must (refine sdy 6 (.tmp 29) rfl rfl rfl rfl rfl HH3.out rfl ?_; intro wb HX HG)))
   refine bodyPost_ret (results_dyad rfl _ _ w.heap.size _ rfl HX.out rfl) rfl ?_
   have b2 := below_then HB2.out HB2.out.size HB3.out
   refine ⟨_, rfl, ?_, b2.grown HG.out b2.size (fun k hk => by cases hk; exact Nat.le_refl _)⟩
   refine PDy.lower (b := w2.heap.size) ?_ HB2.out.size
   refine PDy.grown (w := w3) ?_ HG.out ?_
   · refine ⟨A2, (limbs (nv l / 2 ^ k)).length, c2, ?_, ?_⟩
     · rw [cneg_sgn HN0.out, cexp_sgn HN0.out, ← HK.out]
     · rw [cman_sgn, ← HK.out]; exact HO.out
   · exact blk_lt HH2.out
theorem form_at_self (z e : Int) (b : Bool) (h : b = cneg z ∨ z = 0) (k : Int) {w : World} {base : Nat} {v : Value} (hr : PDy w base v (sgn b (cman z)) (cexp z e + k)) : PDy w base v z (e + k) := by
 by_cases h0 : z = 0
 · subst h0
   rw [cman_zero, sgn_zero] at hr
   obtain ⟨A, n, c, rfl, hr⟩ := hr
   exact ⟨A, n, c, rfl, hr⟩
 · obtain rfl := h.resolve_right h0
   obtain ⟨j, e1, e2, _⟩ := of_form (e := e) h0
   rw [e1, show e + (j : Int) + k = e + k + j by omega] at hr
   have := PDy.scale j hr
   rw [← sgn_pow, ← e2] at this
   exact this
theorem cman_neg (z : Int) : cman (-z) = cman z := by unfold cman; rw [Int.natAbs_neg]
theorem cexp_neg (z e : Int) : cexp (-z) e = cexp z e := by unfold cexp; rw [Int.natAbs_neg]; by_cases h : z = 0 <;> simp [h]
theorem cman_abs (z : Int) : cman (z.natAbs : Int) = cman z := by unfold cman; rw [Int.natAbs_natCast]
theorem cexp_abs (z e : Int) : cexp (z.natAbs : Int) e = cexp z e := by unfold cexp; rw [Int.natAbs_natCast]; by_cases h : z = 0 <;> simp [h]
theorem cneg_abs (z : Int) : cneg (z.natAbs : Int) = false := by unfold cneg; exact decide_eq_false (by omega)
theorem cneg_neg {z : Int} (h : z ≠ 0) : cneg (-z) = !cneg z := by
 unfold cneg
 by_cases h1 : z < 0
 · rw [decide_eq_true h1, decide_eq_false (by omega)]; rfl
 · rw [decide_eq_false h1, decide_eq_true (by omega)]; rfl
theorem pone_dy (v : Value) (z e : Int) (w : World) (h : CDy w v z e) (hl : (limbs (cman z)).length ≤ 1073741824) (le1 : -549755813888 ≤ cexp z e) (le2 : cexp z e ≤ 549755813888) (hT : TabAt 0 Lib.deBruijn64tab w) :
 Calls Tryz.prog 66 #[v] w fun en w' => ∃ v', en = .returned v' ∧ PDy w' w.heap.size v' (z) (e) ∧ BL w w' := by
 obtain ⟨A, n, c, rfl, hC, hn, hc⟩ := h
 have QF := yk (fun (m : World) (hm : BL w m) => (by
  have q := pform_any (cneg z) (limbs (cman z)) A n c (cexp z e) hn m (Kd.C_below hC hm) hc (wf_limbs _) (by omega) (by omega) (by omega) (tab_below hT hm)
  refine q.mono ?_
  rintro en w' ⟨v', rfl, hr, hb⟩
  rw [nv_limbs] at hr
  exact ⟨v', rfl, by have := form_at_self z e (cneg z) (.inl rfl) 0 (by rw [Int.add_zero]; exact hr); rw [Int.add_zero] at this; exact this, hb⟩ : Calls Tryz.prog 102 #[.bool (cneg z), .slice A n c, .int .i64 (cexp z e)] m fun en w' => ∃ v', en = .returned v' ∧ PDy w' m.heap.size v' (z) (e) ∧ BL m w'))
 obtain ⟨x0, hx0⟩ : ∃ x, x = cexp z e := ⟨_, rfl⟩
 obtain ⟨b0, hb0⟩ : ∃ x, x = cneg z := ⟨_, rfl⟩
 rw [← hx0] at le1 le2
 simp only [← hx0, ← hb0] at QF
 rw [← hx0, ← hb0]
 clear hC hx0 hb0 hT
 go_enter Tryz.func66, Tryz.ntmps66
 go_wp2_with (first
  | (go_at_call 102; go_must (refine (QF.out _ (below_alloc (below_alloc yr _) _)).mono ?_; rintro e w1 ⟨v, rfl, ⟨A2, n2, c2, rfl, hr⟩, hb⟩; have HR := yk hr; have HB := yk (below_then (below_alloc (below_alloc (Below.refl w.heap.size w) _) _) (below_alloc (below_alloc (Below.refl w.heap.size w) _) _).size hb); have hh := yb (blk_new _ _) hb; rw [size_alloc'] at hh; have HH := yk hh; clear hr hb hh))
  | ((with_reducible refine gate_store (p := 2) rfl ?_); go_must (refine sdy 2 (.tmp 9) rfl rfl rfl rfl rfl HH.out rfl ?_; intro wb HX HG)))
 refine bodyPost_ret (results_dyad rfl _ _ (w.heap.size + 1) _ rfl HX.out rfl) rfl ?_
 refine ⟨_, rfl, PDy.lower (b := w.heap.size + 2) (PDy.grown (w := w1) ?_ HG.out (by omega)) (by omega), HB.out.grown HG.out HB.out.size (fun k hk => by cases hk; omega)⟩
 have h := HR.out
 rw [size_alloc', size_alloc'] at h
 exact ⟨A2, n2, c2, rfl, h⟩
theorem pneg_dy (v : Value) (z e : Int) (w : World) (h : CDy w v z e) (hl : (limbs (cman z)).length ≤ 1073741824) (le1 : -549755813888 ≤ cexp z e) (le2 : cexp z e ≤ 549755813888) (hT : TabAt 0 Lib.deBruijn64tab w) :
 Calls Tryz.prog 106 #[v] w fun en w' => ∃ v', en = .returned v' ∧ PDy w' w.heap.size v' (-z) (e) ∧ BL w w' := by
 obtain ⟨A, n, c, rfl, hC, hn, hc⟩ := h
 have QF := yk (fun (m : World) (hm : BL w m) => (by
  have q := pform_any (!cneg z) (limbs (cman z)) A n c (cexp z e) hn m (Kd.C_below hC hm) hc (wf_limbs _) (by omega) (by omega) (by omega) (tab_below hT hm)
  refine q.mono ?_
  rintro en w' ⟨v', rfl, hr, hb⟩
  rw [nv_limbs] at hr
  exact ⟨v', rfl, by have := form_at_self (-z) e (!cneg z) (by by_cases h0 : z = 0; exact .inr (by omega); exact .inl (cneg_neg h0).symm) 0 (by rw [Int.add_zero, cman_neg, cexp_neg]; exact hr); rw [Int.add_zero] at this; exact this, hb⟩ : Calls Tryz.prog 102 #[.bool (!cneg z), .slice A n c, .int .i64 (cexp z e)] m fun en w' => ∃ v', en = .returned v' ∧ PDy w' m.heap.size v' (-z) (e) ∧ BL m w'))
 obtain ⟨x0, hx0⟩ : ∃ x, x = cexp z e := ⟨_, rfl⟩
 obtain ⟨b0, hb0⟩ : ∃ x, x = cneg z := ⟨_, rfl⟩
 rw [← hx0] at le1 le2
 simp only [← hx0, ← hb0] at QF
 rw [← hx0, ← hb0]
 clear hC hx0 hb0 hT
 go_enter Tryz.func106, Tryz.ntmps106
 go_wp2_with (first
  | (go_at_call 102; go_must (refine (QF.out _ (below_alloc (below_alloc yr _) _)).mono ?_; rintro e w1 ⟨v, rfl, ⟨A2, n2, c2, rfl, hr⟩, hb⟩; have HR := yk hr; have HB := yk (below_then (below_alloc (below_alloc (Below.refl w.heap.size w) _) _) (below_alloc (below_alloc (Below.refl w.heap.size w) _) _).size hb); have hh := yb (blk_new _ _) hb; rw [size_alloc'] at hh; have HH := yk hh; clear hr hb hh))
  | ((with_reducible refine gate_store (p := 2) rfl ?_); go_must (refine sdy 2 (.tmp 10) rfl rfl rfl rfl rfl HH.out rfl ?_; intro wb HX HG)))
 refine bodyPost_ret (results_dyad rfl _ _ (w.heap.size + 1) _ rfl HX.out rfl) rfl ?_
 refine ⟨_, rfl, PDy.lower (b := w.heap.size + 2) (PDy.grown (w := w1) ?_ HG.out (by omega)) (by omega), HB.out.grown HG.out HB.out.size (fun k hk => by cases hk; omega)⟩
 have h := HR.out
 rw [size_alloc', size_alloc'] at h
 exact ⟨A2, n2, c2, rfl, h⟩
theorem pabs_dy (v : Value) (z e : Int) (w : World) (h : CDy w v z e) (hl : (limbs (cman z)).length ≤ 1073741824) (le1 : -549755813888 ≤ cexp z e) (le2 : cexp z e ≤ 549755813888) (hT : TabAt 0 Lib.deBruijn64tab w) :
 Calls Tryz.prog 68 #[v] w fun en w' => ∃ v', en = .returned v' ∧ PDy w' w.heap.size v' ((z.natAbs : Int)) (e) ∧ BL w w' := by
 obtain ⟨A, n, c, rfl, hC, hn, hc⟩ := h
 have QF := yk (fun (m : World) (hm : BL w m) => (by
  have q := pform_any (false) (limbs (cman z)) A n c (cexp z e) hn m (Kd.C_below hC hm) hc (wf_limbs _) (by omega) (by omega) (by omega) (tab_below hT hm)
  refine q.mono ?_
  rintro en w' ⟨v', rfl, hr, hb⟩
  rw [nv_limbs] at hr
  exact ⟨v', rfl, by have := form_at_self (z.natAbs : Int) e false (.inl (cneg_abs z).symm) 0 (by rw [Int.add_zero, cman_abs, cexp_abs]; exact hr); rw [Int.add_zero] at this; exact this, hb⟩ : Calls Tryz.prog 102 #[.bool (false), .slice A n c, .int .i64 (cexp z e)] m fun en w' => ∃ v', en = .returned v' ∧ PDy w' m.heap.size v' ((z.natAbs : Int)) (e) ∧ BL m w'))
 obtain ⟨x0, hx0⟩ : ∃ x, x = cexp z e := ⟨_, rfl⟩
 obtain ⟨b0, hb0⟩ : ∃ x, x = cneg z := ⟨_, rfl⟩
 rw [← hx0] at le1 le2
 simp only [← hx0, ← hb0] at QF
 rw [← hx0, ← hb0]
 clear hC hx0 hb0 hT
 go_enter Tryz.func68, Tryz.ntmps68
 go_wp2_with (first
  | (go_at_call 102; go_must (refine (QF.out _ (below_alloc (below_alloc yr _) _)).mono ?_; rintro e w1 ⟨v, rfl, ⟨A2, n2, c2, rfl, hr⟩, hb⟩; have HR := yk hr; have HB := yk (below_then (below_alloc (below_alloc (Below.refl w.heap.size w) _) _) (below_alloc (below_alloc (Below.refl w.heap.size w) _) _).size hb); have hh := yb (blk_new _ _) hb; rw [size_alloc'] at hh; have HH := yk hh; clear hr hb hh))
  | ((with_reducible refine gate_store (p := 2) rfl ?_); go_must (refine sdy 2 (.tmp 7) rfl rfl rfl rfl rfl HH.out rfl ?_; intro wb HX HG)))
 refine bodyPost_ret (results_dyad rfl _ _ (w.heap.size + 1) _ rfl HX.out rfl) rfl ?_
 refine ⟨_, rfl, PDy.lower (b := w.heap.size + 2) (PDy.grown (w := w1) ?_ HG.out (by omega)) (by omega), HB.out.grown HG.out HB.out.size (fun k hk => by cases hk; omega)⟩
 have h := HR.out
 rw [size_alloc', size_alloc'] at h
 exact ⟨A2, n2, c2, rfl, h⟩
theorem pshift_dy (v : Value) (z e : Int) (k : Int) (w : World) (h : CDy w v z e) (hl : (limbs (cman z)).length ≤ 1073741824) (le1 : -549755813888 ≤ cexp z e) (le2 : cexp z e ≤ 549755813888) (lk1 : -549755813888 ≤ k) (lk2 : k ≤ 549755813888) (hT : TabAt 0 Lib.deBruijn64tab w) :
 Calls Tryz.prog 96 #[v, .int .i64 k] w fun en w' => ∃ v', en = .returned v' ∧ PDy w' w.heap.size v' (z) (e + k) ∧ BL w w' := by
 obtain ⟨A, n, c, rfl, hC, hn, hc⟩ := h
 have QF := yk (fun (m : World) (hm : BL w m) => (by
  have q := pform_any (cneg z) (limbs (cman z)) A n c (cexp z e + k) hn m (Kd.C_below hC hm) hc (wf_limbs _) (by omega) (by omega) (by omega) (tab_below hT hm)
  refine q.mono ?_
  rintro en w' ⟨v', rfl, hr, hb⟩
  rw [nv_limbs] at hr
  exact ⟨v', rfl, form_at_self z e (cneg z) (.inl rfl) k hr, hb⟩ : Calls Tryz.prog 102 #[.bool (cneg z), .slice A n c, .int .i64 (cexp z e + k)] m fun en w' => ∃ v', en = .returned v' ∧ PDy w' m.heap.size v' (z) (e + k) ∧ BL m w'))
 obtain ⟨x0, hx0⟩ : ∃ x, x = cexp z e := ⟨_, rfl⟩
 obtain ⟨b0, hb0⟩ : ∃ x, x = cneg z := ⟨_, rfl⟩
 rw [← hx0] at le1 le2
 simp only [← hx0, ← hb0] at QF
 rw [← hx0, ← hb0]
 clear hC hx0 hb0 hT
 have hk : IntKind.i64.wrap (x0 + k) = x0 + k := wrap_i64 (by omega) (by omega)
 go_enter Tryz.func96, Tryz.ntmps96
 go_wp2_with (first
  | (go_at_call 102; go_must (refine (QF.out _ (below_alloc (below_alloc yr _) _)).mono ?_; rintro e w1 ⟨v, rfl, ⟨A2, n2, c2, rfl, hr⟩, hb⟩; have HR := yk hr; have HB := yk (below_then (below_alloc (below_alloc (Below.refl w.heap.size w) _) _) (below_alloc (below_alloc (Below.refl w.heap.size w) _) _).size hb); have hh := yb (blk_new _ _) hb; rw [size_alloc'] at hh; have HH := yk hh; clear hr hb hh))
  | ((with_reducible refine gate_store (p := 4) rfl ?_); go_must (refine sdy 4 (.tmp 13) rfl rfl rfl rfl rfl HH.out rfl ?_; intro wb HX HG)))
 refine bodyPost_ret (results_dyad rfl _ _ (w.heap.size + 1) _ rfl HX.out rfl) rfl ?_
 refine ⟨_, rfl, PDy.lower (b := w.heap.size + 2) (PDy.grown (w := w1) ?_ HG.out (by omega)) (by omega), HB.out.grown HG.out HB.out.size (fun k hk => by cases hk; omega)⟩
 have h := HR.out
 rw [size_alloc', size_alloc'] at h
 exact ⟨A2, n2, c2, rfl, h⟩
theorem pzero_dy (v : Value) (z e : Int) (w : World) (h : CDy w v z e) (hl : (limbs (cman z)).length ≤ 1073741824) :
 Calls Tryz.prog 79 #[v] w fun en w' => en = .returned (.bool (decide (z = 0))) ∧ BL w w' := by
 obtain ⟨A, n, c, rfl, hC, hn, hc⟩ := h
 have QN := yk (fun (m : World) (hm : BL w m) => trim_any (limbs (cman z)) A c m (by rw [hn]; exact Kd.C_below hC hm) (by omega) (wf_limbs _) (by omega))
 rw [hn, nv_limbs] at QN
 obtain ⟨n1, hn1⟩ : ∃ k, k = (limbs (cman z)).length := ⟨_, rfl⟩
 obtain ⟨x, hx⟩ : ∃ x, x = cexp z e := ⟨_, rfl⟩
 obtain ⟨b, hb⟩ : ∃ x, x = cneg z := ⟨_, rfl⟩
 have hz : ((n1 : Int) == 0) = decide (z = 0) := by
  rw [Bool.eq_iff_iff]
  simp only [beq_iff_eq, decide_eq_true_eq]
  rw [hn1]
  constructor
  · intro h
    exact cman_eq_zero.1 (limbs_eq_nil.1 (List.length_eq_zero_iff.1 (by omega)))
  · rintro rfl
    rw [cman_zero, limbs_zero]; rfl
 rw [← hn1] at QN
 rw [← hx, ← hb]
 clear hC hn1 hn hx hb
 go_enter Tryz.func79, Tryz.ntmps79
 go_wp2_with (go_at_call 109; go_must (refine (QN.out _ (below_alloc yr _)).mono ?_; rintro e w1 ⟨rfl, hw⟩; have hb := quiet_below hw; have HB : Aside0 (BL w w1) := ⟨(by exact below_of_alloc hb)⟩; clear hb hw))
 go_ret
 exact ⟨ret_bool (by first | rfl | exact hz), HB.out⟩
theorem psign_dy (v : Value) (z e : Int) (w : World) (h : CDy w v z e) (hl : (limbs (cman z)).length ≤ 1073741824) :
 Calls Tryz.prog 49 #[v] w fun en w' => en = .returned (.int .i64 (sgnI z)) ∧ BL w w' := by
 have QZ := yk (fun (m : World) (hm : BL w m) => pzero_dy v z e m (h.below hm) hl)
 obtain ⟨A, n, c, rfl, hC, hn, hc⟩ := h
 obtain ⟨x, hx⟩ : ∃ x, x = cexp z e := ⟨_, rfl⟩
 obtain ⟨b, hb⟩ : ∃ x, x = cneg z := ⟨_, rfl⟩
 rw [← hx, ← hb] at QZ
 rw [← hx, ← hb]
 obtain ⟨d, hd⟩ : ∃ d, d = decide (z = 0) := ⟨_, rfl⟩
 rw [← hd] at QZ
 have HS := yk (show sgnI z = if d then 0 else if b then -1 else 1 by
  rw [hd, hb]; unfold sgnI cneg
  by_cases h0 : z = 0
  · simp [h0]
  · simp [h0])
 clear hC hx hb hd
 cases d
 all_goals cases b
 all_goals
  go_enter Tryz.func49, Tryz.ntmps49
  go_wp2_with (go_at_call 79; go_must (refine (QZ.out _ (below_alloc yr _)).mono ?_; rintro e w1 ⟨rfl, hb⟩; have HB : Aside0 (BL w w1) := ⟨(by exact below_of_alloc hb)⟩; have hh : w1.heap[w.heap.size]? = some (.cells #[.bool _, .slice A n c, .int .i64 x] 25 (0, 0)) := (by exact yb (blk_new _ _) hb); have c0 := (cell_of_row w1 _ 0 _ _ _ hh).trans rfl; clear hb hh))
  go_ret
  exact ⟨ret_int (by rw [HS.out]; rfl), HB.out⟩
theorem ptop_dy (v : Value) (z e : Int) (w : World) (h : CDy w v z e) (hl : (limbs (cman z)).length ≤ 1073741824) (le1 : -1099511627776 ≤ cexp z e) (le2 : cexp z e ≤ 1099511627776) :
 Calls Tryz.prog 80 #[v] w fun en w' => en = .returned (.int .i64 (cexp z e + bl (cman z) - 1)) ∧ BL w w' := by
 obtain ⟨A, n, c, rfl, hC, hn, hc⟩ := h
 have QL := yk (fun (m : World) (hm : BL w m) => plen_any (limbs (cman z)) A c m (by rw [hn]; exact Kd.C_below hC hm) (by omega) (wf_limbs _) (by omega))
 rw [hn] at QL
 obtain ⟨T, hT⟩ : ∃ T, T = bl (cman z) := ⟨_, rfl⟩
 have hTb : T ≤ 68719476736 := by
  have := nv_lt (wf_limbs (cman z))
  rw [nv_limbs] at this
  have := bl_le_iff.2 this
  omega
 rw [nv_limbs, ← hT] at QL
 rw [← hT]
 obtain ⟨x, hx⟩ : ∃ x, x = cexp z e := ⟨_, rfl⟩
 rw [← hx] at le1 le2 ⊢
 have hw3 : IntKind.i64.wrap (IntKind.i64.wrap (x + T) - 1) = x + T - 1 := by rw [show IntKind.i64.wrap (x + T) = x + T from wrap_i64 (by omega) (by omega)]; exact wrap_i64 (by omega) (by omega)
 clear hC hT hx
 go_enter Tryz.func80, Tryz.ntmps80
 go_wp2
 go_region_with (go_at_call 116; refine (QL.out _ ?hB).mono ?_; (case hB => first | exact below_alloc yr _ | exact below_drew (below_alloc yr _) | exact pw_below_drewN (below_alloc yr _) _); rintro e w1 ⟨rfl, hw⟩; have hb := quiet_below hw; have HB : Aside0 (BL w w1) := ⟨(by first | exact below_of_alloc hb | exact below_of_drew hb)⟩; have hh : w1.heap[w.heap.size]? = some (.cells #[.bool (cneg z), .slice A n c, .int .i64 x] 25 (0, 0)) := (by first | exact yb (blk_new _ _) hb | exact yb (blk_drew (blk_new _ _)) hb | exact yb (blk_drewN (blk_new _ _) _) hb); have c2 : w1.cell? ⟨w.heap.size, 2, none⟩ = some (.int .i64 x) := (cell_of_row w1 _ 2 _ _ _ hh).trans rfl; clear hb hh hw)
 all_goals
  go_wp2
  go_ret
  exact ⟨ret_int (by first | rfl | exact hw3), HB.out⟩
theorem times_pform {w : World} {b : Nat} {v : Value} {y z e e' : Int} (h : PDy w b v (sgn (!(cneg y == cneg z)) (cman y * cman z)) (cexp y e + cexp z e')) : PDy w b v (y * z) (e + e') := by
 by_cases hy : y = 0
 · subst hy
   rw [cman_zero, Nat.zero_mul, sgn_zero] at h
   rw [Int.zero_mul]
   obtain ⟨A, n, c, rfl, hr⟩ := h
   exact ⟨A, n, c, rfl, hr⟩
 by_cases hz : z = 0
 · subst hz
   rw [cman_zero, Nat.mul_zero, sgn_zero] at h
   rw [Int.mul_zero]
   obtain ⟨A, n, c, rfl, hr⟩ := h
   exact ⟨A, n, c, rfl, hr⟩
 obtain ⟨j, e1, e2, _⟩ := of_form (e := e) hy
 obtain ⟨k, e3, e4, _⟩ := of_form (e := e') hz
 rw [e1, e3, show e + (j : Int) + (e' + (k : Int)) = e + e' + ((j + k : Nat) : Int) by omega] at h
 have h2 := PDy.scale (j + k) h
 rw [← sgn_pow] at h2
 have e5 : cman y * cman z * 2 ^ (j + k) = (cman y * 2 ^ j) * (cman z * 2 ^ k) := by rw [Nat.pow_add]; simp only [Nat.mul_assoc, Nat.mul_comm, Nat.mul_left_comm]
 have e6 : (!(cneg y == cneg z)) = (cneg y != cneg z) := rfl
 rw [e5, e6, sgn_mul, ← e2, ← e4] at h2
 exact h2
theorem pmul_dy (u v : Value) (y z e e' : Int) (w : World) (h : CDy w u y e) (h' : CDy w v z e') (hl : (limbs (cman y)).length ≤ 268435456) (hl' : (limbs (cman z)).length ≤ 268435456) (le1 : -137438953472 ≤ cexp y e) (le2 : cexp y e ≤ 137438953472) (le1' : -137438953472 ≤ cexp z e') (le2' : cexp z e' ≤ 137438953472) (hT : TabAt 0 Lib.deBruijn64tab w) :
 Calls Tryz.prog 118 #[u, v] w fun en w' => ∃ v', en = .returned v' ∧ PDy w' w.heap.size v' (y * z) (e + e') ∧ BL w w' := by
 obtain ⟨A, n, c, rfl, hC, hn, hc⟩ := h
 obtain ⟨A', n', c', rfl, hC', hn', hc'⟩ := h'
 obtain ⟨x0, hx0⟩ : ∃ x, x = cexp y e := ⟨_, rfl⟩
 obtain ⟨x1, hx1⟩ : ∃ x, x = cexp z e' := ⟨_, rfl⟩
 obtain ⟨b0, hb0⟩ : ∃ x, x = cneg y := ⟨_, rfl⟩
 obtain ⟨b1, hb1⟩ : ∃ x, x = cneg z := ⟨_, rfl⟩
 have QM := yk (fun (m : World) (hm : BL w m) => (by have q := pmul_any (limbs (cman y)) (limbs (cman z)) A A' n n' c c' hn hn' m (Kd.C_below hC hm) (Kd.C_below hC' hm) hc hc' (wf_limbs _) (wf_limbs _) (by omega) (by omega); rw [nv_limbs, nv_limbs] at q; exact q : Calls Tryz.prog 141 #[.slice A n c, .slice A' n' c'] m fun e w' => ∃ v, e = .returned v ∧ PL w' m.heap.size v (limbs (cman y * cman z)) ∧ BL m w'))
 have HX := yk (show IntKind.i64.wrap (x0 + x1) = x0 + x1 from wrap_i64 (by omega) (by omega))
 have QF := yk (fun (A3 : Option Addr) (c3 : Nat) (m : World) (hm : BL w m) (hC3 : kU.C m A3 (limbs (cman y * cman z)).length (limbs (cman y * cman z))) (hc3 : (limbs (cman y * cman z)).length ≤ c3) => (by
  have hlen : (limbs (cman y * cman z)).length ≤ 1073741824 := by
   refine Nat.le_trans (limbs_len_le (k := (limbs (cman y)).length + (limbs (cman z)).length) ?_) (by omega)
   have q1 := nv_lt (wf_limbs (cman y))
   have q2 := nv_lt (wf_limbs (cman z))
   rw [nv_limbs] at q1 q2
   rw [Nat.mul_add, Nat.pow_add]
   exact Nat.mul_lt_mul'' q1 q2
  have hm2 := pform_any (!(b0 == b1)) (limbs (cman y * cman z)) A3 _ c3 (x0 + x1) rfl m hC3 hc3 (wf_limbs _) hlen (by omega) (by omega) (tab_below hT hm)
  rw [nv_limbs] at hm2
  refine hm2.mono ?_
  rintro en w' ⟨v', rfl, hr, hb⟩
  refine ⟨v', rfl, times_pform ?_, hb⟩
  rw [hx0, hx1, hb0, hb1] at hr
  exact hr : Calls Tryz.prog 102 #[.bool (!(b0 == b1)), .slice A3 (limbs (cman y * cman z)).length c3, .int .i64 (x0 + x1)] m fun en w' => ∃ v', en = .returned v' ∧ PDy w' m.heap.size v' (y * z) (e + e') ∧ BL m w'))
 rw [← hx0, ← hb0, ← hx1, ← hb1]
 clear hC hC' hx0 hx1 hb0 hb1 hT
 obtain ⟨W0, hW0⟩ : ∃ W0, W0 = ((w.alloc (.cells #[.bool b0, .slice A n c, .int .i64 x0] 25)).alloc (.cells #[.bool b1, .slice A' n' c', .int .i64 x1] 25)).alloc (.cells #[.bool false, .slice none 0 0, .int .i64 0] 25) := ⟨_, rfl⟩
 have hh0 : Aside0 (W0.heap[w.heap.size]? = some (.cells #[.bool b0, .slice A n c, .int .i64 x0] 25 (0, 0))) := ⟨by rw [hW0]; exact blk_alloc (blk_alloc (blk_new _ _) _) _⟩
 have hh1 : Aside0 (W0.heap[w.heap.size + 1]? = some (.cells #[.bool b1, .slice A' n' c', .int .i64 x1] 25 (0, 0))) := ⟨by rw [hW0]; have := blk_new (w.alloc (.cells #[.bool b0, .slice A n c, .int .i64 x0] 25)) (.cells #[.bool b1, .slice A' n' c', .int .i64 x1] 25); rw [size_alloc'] at this; exact blk_alloc this _⟩
 have hh2 : Aside0 (W0.heap[w.heap.size + 2]? = some (.cells #[.bool false, .slice none 0 0, .int .i64 0] 25 (0, 0))) := ⟨by rw [hW0]; have := blk_new ((w.alloc (.cells #[.bool b0, .slice A n c, .int .i64 x0] 25)).alloc (.cells #[.bool b1, .slice A' n' c', .int .i64 x1] 25)) (.cells #[.bool false, .slice none 0 0, .int .i64 0] 25); rw [size_alloc', size_alloc'] at this; exact this⟩
 have HW : Aside0 (BL w W0 ∧ w.heap.size + 3 ≤ W0.heap.size) := ⟨by rw [hW0]; exact ⟨below_alloc (below_alloc (below_alloc yr _) _) _, by rw [size_alloc', size_alloc', size_alloc']; exact Nat.le_refl _⟩⟩
 go_enter Tryz.func118, Tryz.ntmps118
 go_upto_region 1 with fail
 rw [← hW0]
 clear hW0
 obtain ⟨JM, hJM⟩ : ∃ J : (Nat → Prop) → World → Prop, J = fun L0 W => (BL w W ∧ w.heap.size + 3 ≤ W.heap.size) ∧ W.heap[w.heap.size]? = some (.cells #[.bool b0, .slice A n c, .int .i64 x0] 25 (0, 0)) ∧ W.heap[w.heap.size + 1]? = some (.cells #[.bool b1, .slice A' n' c', .int .i64 x1] 25 (0, 0)) ∧ (¬ L0 16 → W.heap[w.heap.size + 2]? = some (.cells #[.bool false, .slice none 0 0, .int .i64 0] 25 (0, 0))) ∧ (L0 16 → ∃ A2 n2 c2, W.heap[w.heap.size + 2]? = some (.cells #[.bool (cneg (y * z)), .slice A2 n2 c2, .int .i64 (cexp (y * z) (e + e'))] 25 (0, 0)) ∧ PL W (w.heap.size + 3) (.slice A2 n2 c2) (limbs (cman (y * z)))) := ⟨_, rfl⟩
 refine wp_region_slotsL [5, 6, 7, 8, 9, 10, 11, 12, 13, 14, 15, 16, 17, 18, 19, 20] (by kernel_rfl) (by kernel_rfl)
  (F := fun j q W => match j with | 0 => q = .pointer (some ⟨w.heap.size, 0, none⟩) | 1 => q = .bool b0 | 2 => q = .pointer (some ⟨w.heap.size + 1, 0, none⟩) | 3 => q = .bool b1 | 4 => q = .bool (!(b0 == b1)) | 5 => q = .pointer (some ⟨w.heap.size, 1, none⟩) | 6 => q = .slice A n c | 7 => q = .pointer (some ⟨w.heap.size + 1, 1, none⟩) | 8 => q = .slice A' n' c' | 9 => PL W (w.heap.size + 3) q (limbs (cman y * cman z)) | 10 => q = .pointer (some ⟨w.heap.size, 2, none⟩) | 11 => q = .int .i64 x0 | 12 => q = .pointer (some ⟨w.heap.size + 1, 2, none⟩) | 13 => q = .int .i64 x1 | 14 => q = .int .i64 (x0 + x1) | 15 => PDy W (w.heap.size + 3) q (y * z) (e + e') | 16 => True | _ => True)
  (J := JM) ?h0M ?hstepM ?hendM
 case h0M =>
  rw [hJM]
  have hd := below_drew (Below.refl W0.heap.size W0)
  exact ⟨⟨below_drew HW.out.1, HW.out.2⟩, yb hh0.out hd, yb hh1.out hd, fun _ => yb hh2.out hd, fun h => h.elim⟩
 case hstepM =>
  intro k o ho v W L0 hJW hF hnk haft hcl K hK
  rw [hJM] at hJW
  obtain ⟨hBW, hb0, hb1, hold, hnew⟩ := hJW
  have hJM : ∀ (k : Nat) (w4 : World), k ≠ 16 → BL W w4 → JM (fun j => L0 j ∨ j = k) w4 := by
   intro k w4 hkK hb
   rw [hJM]
   refine ⟨⟨below_then hBW.1 hBW.1.size hb, Nat.le_trans hBW.2 hb.size⟩, yb hb0 hb, yb hb1 hb, fun h => yb (hold (fun h2 => h (.inl h2))) hb, fun h => ?_⟩
   obtain ⟨A2, n2, c2, y1, y2⟩ := hnew (h.resolve_right (fun e => hkK e.symm))
   exact ⟨A2, n2, c2, yb y1 hb, y2.below hb⟩
  have HJM := yk hJM
  have HOLD := yk hold
  clear hold hnew
  clear hJM hcl
  rcases k with _ | _ | _ | _ | _ | _ | _ | _ | _ | _ | _ | _ | _ | _ | _ | _ | _ | k
  all_goals first
   | (cases ho; done)
   | (obtain rfl := (Option.some.inj ho).symm
      clear ho
      rw [if_pos (by rfl)]
      simp only [setAll, List.setIfInBounds_toArray, List.set_cons_zero, List.set_cons_succ, List.getElem_toArray, List.getElem_cons_zero, List.getElem_cons_succ, Nat.reduceAdd] at haft hF hK ⊢)
  ·
   have key := hK.out (.pointer (some ⟨w.heap.size, 0, none⟩)) W (HJM.out 0 W (by decide) yr) (fun _ _ h => h) rfl
   go_simp
   simpa [upd] using key
  ·
   have f0 : v 0 = .pointer (some ⟨w.heap.size, 0, none⟩) := hF 0 (haft ⟨0, .data⟩ (by simp) rfl)
   have cc := (box_cell (v := .bool b0) hb0 0 rfl).1
   have key := hK.out (.bool b0) W (HJM.out 1 W (by decide) yr) (fun _ _ h => h) rfl
   go_simp
   simpa [upd, f0] using key
  ·
   have key := hK.out (.pointer (some ⟨w.heap.size + 1, 0, none⟩)) W (HJM.out 2 W (by decide) yr) (fun _ _ h => h) rfl
   go_simp
   simpa [upd] using key
  ·
   have f2 : v 2 = .pointer (some ⟨w.heap.size + 1, 0, none⟩) := hF 2 (haft ⟨2, .data⟩ (by simp) rfl)
   have cc := (box_cell (v := .bool b1) hb1 0 rfl).1
   have key := hK.out (.bool b1) W (HJM.out 3 W (by decide) yr) (fun _ _ h => h) rfl
   go_simp
   simpa [upd, f2] using key
  ·
   have f1 : v 1 = .bool b0 := hF 1 (haft ⟨1, .data⟩ (by simp) rfl)
   have f3 : v 3 = .bool b1 := hF 3 (haft ⟨3, .data⟩ (by simp) rfl)
   have key := hK.out (.bool (!(b0 == b1))) W (HJM.out 4 W (by decide) yr) (fun _ _ h => h) rfl
   go_simp
   simpa [upd, f1, f3] using key
  ·
   have key := hK.out (.pointer (some ⟨w.heap.size, 1, none⟩)) W (HJM.out 5 W (by decide) yr) (fun _ _ h => h) rfl
   go_simp
   simpa [upd] using key
  ·
   have f5 : v 5 = .pointer (some ⟨w.heap.size, 1, none⟩) := hF 5 (haft ⟨5, .data⟩ (by simp) rfl)
   have cc := (box_cell (v := .slice A n c) hb0 1 rfl).1
   have key := hK.out (.slice A n c) W (HJM.out 6 W (by decide) yr) (fun _ _ h => h) rfl
   go_simp
   simpa [upd, f5] using key
  ·
   have key := hK.out (.pointer (some ⟨w.heap.size + 1, 1, none⟩)) W (HJM.out 7 W (by decide) yr) (fun _ _ h => h) rfl
   go_simp
   simpa [upd] using key
  ·
   have f7 : v 7 = .pointer (some ⟨w.heap.size + 1, 1, none⟩) := hF 7 (haft ⟨7, .data⟩ (by simp) rfl)
   have cc := (box_cell (v := .slice A' n' c') hb1 1 rfl).1
   have key := hK.out (.slice A' n' c') W (HJM.out 8 W (by decide) yr) (fun _ _ h => h) rfl
   go_simp
   simpa [upd, f7] using key
  ·
   have f6 : v 6 = .slice A n c := hF 6 (haft ⟨6, .data⟩ (by simp) rfl)
   have f8 : v 8 = .slice A' n' c' := hF 8 (haft ⟨8, .data⟩ (by simp) rfl)
   go_simp
   go_at_call 141
   refine (QM.out W hBW.1).mono ?_
   rintro en w4 ⟨v1, rfl, hr, hb⟩
   have key := hK.out (v1) w4 (HJM.out 9 w4 (by decide) hb) ?monoM_9 (hr.lower hBW.2)
   · simpa [upd, f6, f8] using key
   intro j hj hf
   rcases j with _ | _ | _ | _ | _ | _ | _ | _ | _ | _ | _ | _ | _ | _ | _ | _ | _ | j <;> first | exact hf | exact PDy.below hf hb | exact PL.below hf hb | exact RDy.below hf hb
  ·
   have key := hK.out (.pointer (some ⟨w.heap.size, 2, none⟩)) W (HJM.out 10 W (by decide) yr) (fun _ _ h => h) rfl
   go_simp
   simpa [upd] using key
  ·
   have f10 : v 10 = .pointer (some ⟨w.heap.size, 2, none⟩) := hF 10 (haft ⟨10, .data⟩ (by simp) rfl)
   have cc := (box_cell (v := .int .i64 x0) hb0 2 rfl).1
   have key := hK.out (.int .i64 x0) W (HJM.out 11 W (by decide) yr) (fun _ _ h => h) rfl
   go_simp
   simpa [upd, f10] using key
  ·
   have key := hK.out (.pointer (some ⟨w.heap.size + 1, 2, none⟩)) W (HJM.out 12 W (by decide) yr) (fun _ _ h => h) rfl
   go_simp
   simpa [upd] using key
  ·
   have f12 : v 12 = .pointer (some ⟨w.heap.size + 1, 2, none⟩) := hF 12 (haft ⟨12, .data⟩ (by simp) rfl)
   have cc := (box_cell (v := .int .i64 x1) hb1 2 rfl).1
   have key := hK.out (.int .i64 x1) W (HJM.out 13 W (by decide) yr) (fun _ _ h => h) rfl
   go_simp
   simpa [upd, f12] using key
  ·
   have f11 : v 11 = .int .i64 x0 := hF 11 (haft ⟨11, .data⟩ (by simp) rfl)
   have f13 : v 13 = .int .i64 x1 := hF 13 (haft ⟨13, .data⟩ (by simp) rfl)
   have hw := HX.out
   have key := hK.out (.int .i64 (x0 + x1)) W (HJM.out 14 W (by decide) yr) (fun _ _ h => h) rfl
   go_simp
   simpa [upd, f11, f13, hw] using key
  ·
   have f4 : v 4 = .bool (!(b0 == b1)) := hF 4 (haft ⟨4, .data⟩ (by simp) rfl)
   have f9 : PL W (w.heap.size + 3) (v 9) (limbs (cman y * cman z)) := hF 9 (haft ⟨9, .data⟩ (by simp) rfl)
   have f14 : v 14 = .int .i64 (x0 + x1) := hF 14 (haft ⟨14, .data⟩ (by simp) rfl)
   obtain ⟨A3, c3, f9v, hc3, hC3⟩ := f9.c
   have hm := QF.out A3 c3 W hBW.1 hC3 hc3
   go_simp
   go_at_call 102
   refine hm.mono ?_
   rintro en w4 ⟨v1, rfl, hr, hb⟩
   have key := hK.out (v1) w4 (HJM.out 15 w4 (by decide) hb) ?monoM_15 (hr.lower hBW.2)
   · simpa [upd, f4, f14, f9v] using key
   intro j hj hf
   rcases j with _ | _ | _ | _ | _ | _ | _ | _ | _ | _ | _ | _ | _ | _ | _ | _ | _ | j <;> first | exact hf | exact PDy.below hf hb | exact PL.below hf hb | exact RDy.below hf hb
  ·
   have fz : PDy W (w.heap.size + 3) (v 15) (y * z) (e + e') := hF 15 (haft ⟨15, .data⟩ (by simp) rfl)
   obtain ⟨A3, n3, c3, fz2, _⟩ := id fz
   refine wp_store_box 25 4 (.tmp 20) rfl rfl (g := w.heap.size + 2) (e := 25) (v 15) [.bool (cneg (y * z)), .slice A3 n3 c3, .int .i64 (cexp (y * z) (e + e'))] rfl rfl (by rw [fz2]; rfl) info_dyad ?_ (HOLD.out hnk) rfl ?_
   · intro q hq; simp at hq; rcases hq with rfl | rfl | rfl <;> rfl
   · intro w1 hw1 hg1
     have hn2 := fz.grown hg1 (by omega)
     obtain ⟨A4, n4, c4, fz4, hr4⟩ := hn2
     rw [fz2] at fz4
     injection fz4 with fz4
     simp at fz4
     obtain ⟨rfl, rfl, rfl⟩ := fz4
     have key := hK.out undef w1 (by rw [hJM]; exact ⟨⟨hBW.1.grown hg1 hBW.1.size (fun k hk => by have := Option.some.inj hk; omega), Nat.le_trans hBW.2 hg1.size⟩, (hg1.block _ (blk_lt hb0) (fun he => by have := Option.some.inj he; omega)).trans hb0, (hg1.block _ (blk_lt hb1) (fun he => by have := Option.some.inj he; omega)).trans hb1, fun h => (h (by simp)).elim, fun _ => ⟨_, _, _, hw1, hr4⟩⟩) ?mstM trivial
     · simpa [upd] using key
     intro j hj hf
     rcases j with _ | _ | _ | _ | _ | _ | _ | _ | _ | _ | _ | _ | _ | _ | _ | _ | _ | j <;> first | exact hf | exact PDy.grown hf hg1 (by omega) | exact PL.grown hf hg1 (by omega)
 case hendM =>
  intro v W L0 hall hJW hF
  rw [hJM] at hJW
  obtain ⟨hBW, _, _, _, hnew⟩ := hJW
  obtain ⟨A2, n2, c2, p1, p2⟩ := hnew (hall 16 (by decide))
  clear hF hall hnew
  have P1 := yk p1
  have P2 := yk (p2.lower (b' := w.heap.size) (by omega))
  have BF := yk hBW.1
  clear p1 p2 hBW
  simp only [setAll, List.setIfInBounds_toArray, List.set_cons_zero, List.set_cons_succ, Nat.reduceAdd]
  go_wp2
  refine bodyPost_ret (results_dyad rfl _ _ (w.heap.size + 1 + 1) _ rfl P1.out rfl) rfl ?_
  exact ⟨_, rfl, ⟨A2, n2, c2, rfl, P2.out⟩, BF.out⟩
theorem pint_dy (n : Int) (w : World) (h1 : -9223372036854775808 ≤ n) (h2 : n < 9223372036854775808) (hT : TabAt 0 Lib.deBruijn64tab w) :
 Calls Tryz.prog 69 #[.int .i64 n] w fun en w' => ∃ v', en = .returned v' ∧ PDy w' w.heap.size v' n 0 ∧ BL w w' := by
 obtain ⟨m, hm⟩ : ∃ m, m = n.natAbs := ⟨_, rfl⟩
 have hm64 : m < 18446744073709551616 := by omega
 have QO := yk (fun (W : World) => pof_any m hm64 W)
 have QF := yk (fun (A : Option Addr) (c : Nat) (W : World) (hb : BL w W) (hC : kU.C W A (limbs m).length (limbs m)) (hc : (limbs m).length ≤ c) => (by
  have hl : (limbs m).length ≤ 1 := limbs_len_le (by omega)
  have q := pform_any (decide (n < 0)) (limbs m) A _ c 0 rfl W hC hc (wf_limbs _) (by omega) (by omega) (by omega) (tab_below hT hb)
  rw [nv_limbs, hm, show sgn (decide (n < 0)) n.natAbs = n from sgn_self n, ← hm] at q
  exact q : Calls Tryz.prog 102 #[.bool (decide (n < 0)), .slice A (limbs m).length c, .int .i64 0] W fun en w' => ∃ v', en = .returned v' ∧ PDy w' W.heap.size v' n 0 ∧ BL W w'))
 by_cases hn : n < 0
 · obtain ⟨a0, e1, e2⟩ : ∃ a0 : Nat, IntKind.u64.wrap n = (a0 : Int) ∧ IntKind.u64.wrap (-(a0 : Int)) = (m : Int) := ⟨(n % 18446744073709551616).toNat, by unfold IntKind.wrap; simp [IntKind.bits, IntKind.signed]; omega, by unfold IntKind.wrap; simp [IntKind.bits, IntKind.signed]; omega⟩
   have hd : decide (n < 0) = true := decide_eq_true hn
   rw [hd] at QF
   clear hm hn
   go_enter Tryz.func69, Tryz.ntmps69
   go_wp2_with (first
    | (go_at_call 110; refine (QO.out _).mono ?_; rintro e w1 ⟨v1, rfl, hr, hb⟩; obtain ⟨A, c, rfl, hc1, hC1⟩ := hr.c; have HC := yk hC1; have HCC := yk hc1; have HB := yk (below_then (below_alloc yr _) (below_alloc (Below.refl w.heap.size w) _).size hb); have HH := yk (yb (blk_new w _) hb); clear hr hb hc1 hC1)
    | (go_at_call 102; refine (QF.out A c _ HB.out HC.out HCC.out).mono ?_; rintro e w2 ⟨v2, rfl, ⟨A2, n2, c2, rfl, hr⟩, hb⟩; have HR := yk hr; have HB2 := yk (below_then HB.out HB.out.size hb); have HH2 := yk (yb HH.out hb); have HSZ := yk (blk_lt HH.out); clear hr hb)
    | ((with_reducible refine gate_store (p := 2) rfl ?_); go_must (refine sdy 2 (.tmp 14) rfl rfl rfl rfl rfl HH2.out rfl ?_; intro wb HX HG)))
   refine bodyPost_ret (results_dyad rfl _ _ w.heap.size _ rfl HX.out rfl) rfl ?_
   exact ⟨_, rfl, PDy.lower (PDy.grown (w := w2) ⟨A2, n2, c2, rfl, HR.out⟩ HG.out HSZ.out) HB.out.size, HB2.out.grown HG.out HB2.out.size (fun k hk => by cases hk; exact Nat.le_refl _)⟩
 · have e1 : IntKind.u64.wrap n = (m : Int) := by unfold IntKind.wrap; simp [IntKind.bits, IntKind.signed]; omega
   have hd : decide (n < 0) = false := decide_eq_false hn
   have hn2 : 0 ≤ n := by omega
   rw [hd] at QF
   clear hm hn
   go_enter Tryz.func69, Tryz.ntmps69
   go_wp2_with (first
    | (go_at_call 110; refine (QO.out _).mono ?_; rintro e w1 ⟨v1, rfl, hr, hb⟩; obtain ⟨A, c, rfl, hc1, hC1⟩ := hr.c; have HC := yk hC1; have HCC := yk hc1; have HB := yk (below_then (below_alloc yr _) (below_alloc (Below.refl w.heap.size w) _).size hb); have HH := yk (yb (blk_new w _) hb); clear hr hb hc1 hC1)
    | (go_at_call 102; refine (QF.out A c _ HB.out HC.out HCC.out).mono ?_; rintro e w2 ⟨v2, rfl, ⟨A2, n2, c2, rfl, hr⟩, hb⟩; have HR := yk hr; have HB2 := yk (below_then HB.out HB.out.size hb); have HH2 := yk (yb HH.out hb); have HSZ := yk (blk_lt HH.out); clear hr hb)
    | ((with_reducible refine gate_store (p := 2) rfl ?_); go_must (refine sdy 2 (.tmp 14) rfl rfl rfl rfl rfl HH2.out rfl ?_; intro wb HX HG)))
   refine bodyPost_ret (results_dyad rfl _ _ w.heap.size _ rfl HX.out rfl) rfl ?_
   exact ⟨_, rfl, PDy.lower (PDy.grown (w := w2) ⟨A2, n2, c2, rfl, HR.out⟩ HG.out HSZ.out) HB.out.size, HB2.out.grown HG.out HB2.out.size (fun k hk => by cases hk; exact Nat.le_refl _)⟩
theorem pamounts_dy (u v : Value) (y z e : Int) (E : Int) (k0 k1 : Nat) (w : World) (h : CDy w u y e) (h' : CDy w v z e) (hE : E = min (cexp y e) (cexp z e)) (hk0 : cexp y e - E = k0) (hk1 : cexp z e - E = k1) (hl : (limbs (cman y)).length ≤ 268435456) (hl' : (limbs (cman z)).length ≤ 268435456) (le1 : -8589934592 ≤ cexp y e) (le2 : cexp y e ≤ 8589934592) (le1' : -8589934592 ≤ cexp z e) (le2' : cexp z e ≤ 8589934592) :
 Calls Tryz.prog 101 #[u, v] w fun en w' => ∃ p q, en = .returned (.tuple #[p, q, .int .i64 E]) ∧ PL w' w.heap.size p (limbs (cman y * 2 ^ k0)) ∧ PL w' w.heap.size q (limbs (cman z * 2 ^ k1)) ∧ BL w w' := by
 obtain ⟨A, n, c, rfl, hC, hn, hc⟩ := h
 obtain ⟨A', n', c', rfl, hC', hn', hc'⟩ := h'
 obtain ⟨x0, hx0⟩ : ∃ x, x = cexp y e := ⟨_, rfl⟩
 obtain ⟨x1, hx1⟩ : ∃ x, x = cexp z e := ⟨_, rfl⟩
 obtain ⟨b0, hb0⟩ : ∃ x, x = cneg y := ⟨_, rfl⟩
 obtain ⟨b1, hb1⟩ : ∃ x, x = cneg z := ⟨_, rfl⟩
 have QA := yk (fun (m : World) (hm : BL w m) => (by have q := pshl_any (limbs (cman y)) A n c k0 hn m (Kd.C_below hC hm) hc (wf_limbs _) (by omega) (by omega); rw [nv_limbs] at q; exact q : Calls Tryz.prog 131 #[.slice A n c, .int .i64 (k0 : Int)] m fun e w' => ∃ v, e = .returned v ∧ PL w' m.heap.size v (limbs (cman y * 2 ^ k0)) ∧ BL m w'))
 have QB := yk (fun (m : World) (hm : BL w m) => (by have q := pshl_any (limbs (cman z)) A' n' c' k1 hn' m (Kd.C_below hC' hm) hc' (wf_limbs _) (by omega) (by omega); rw [nv_limbs] at q; exact q : Calls Tryz.prog 131 #[.slice A' n' c', .int .i64 (k1 : Int)] m fun e w' => ∃ v, e = .returned v ∧ PL w' m.heap.size v (limbs (cman z * 2 ^ k1)) ∧ BL m w'))
 have HX0 := yk (show IntKind.i64.wrap (x0 - E) = (k0 : Int) by rw [hx0, hk0]; exact wrap_i64 (by omega) (by omega))
 have HX1 := yk (show IntKind.i64.wrap (x1 - E) = (k1 : Int) by rw [hx1, hk1]; exact wrap_i64 (by omega) (by omega))
 have hmin : (if x0 ≤ x1 then x0 else x1) = E := by rw [hE, hx0, hx1]; split <;> omega
 rw [← hx0, ← hb0, ← hx1, ← hb1]
 clear hC hC' hb0 hb1
 have hEx : E = min x0 x1 := by rw [hx0, hx1]; exact hE
 clear hx0 hx1 hE hk0 hk1 le1 le2 le1' le2'
 obtain ⟨W0, hW0⟩ : ∃ W0, W0 = ((w.alloc (.cells #[.bool b0, .slice A n c, .int .i64 x0] 25)).alloc (.cells #[.bool b1, .slice A' n' c', .int .i64 x1] 25)) := ⟨_, rfl⟩
 have hh0 : Aside0 (W0.heap[w.heap.size]? = some (.cells #[.bool b0, .slice A n c, .int .i64 x0] 25 (0, 0))) := ⟨by rw [hW0]; exact blk_alloc (blk_new _ _) _⟩
 have hh1 : Aside0 (W0.heap[w.heap.size + 1]? = some (.cells #[.bool b1, .slice A' n' c', .int .i64 x1] 25 (0, 0))) := ⟨by rw [hW0]; have := blk_new (w.alloc (.cells #[.bool b0, .slice A n c, .int .i64 x0] 25)) (.cells #[.bool b1, .slice A' n' c', .int .i64 x1] 25); rw [size_alloc'] at this; exact this⟩
 have HW : Aside0 (BL w W0 ∧ w.heap.size + 2 ≤ W0.heap.size) := ⟨by rw [hW0]; exact ⟨below_alloc (below_alloc yr _) _, by rw [size_alloc', size_alloc']; exact Nat.le_refl _⟩⟩
 go_enter Tryz.func101, Tryz.ntmps101
 go_upto_region 1 with fail
 rw [← hW0]
 clear hW0
 obtain ⟨q0, _⟩ := box_cell (v := .int .i64 x0) hh0.out 2 rfl
 obtain ⟨q1, _⟩ := box_cell (v := .int .i64 x1) hh1.out 2 rfl
 go_upto_region 2 with fail
 rw [← hEx]
 clear hEx q0 q1
 obtain ⟨JA, hJA⟩ : ∃ J : (Nat → Prop) → World → Prop, J = fun L0 W => (BL w W ∧ w.heap.size + 2 ≤ W.heap.size) ∧ W.heap[w.heap.size]? = some (.cells #[.bool b0, .slice A n c, .int .i64 x0] 25 (0, 0)) ∧ W.heap[w.heap.size + 1]? = some (.cells #[.bool b1, .slice A' n' c', .int .i64 x1] 25 (0, 0)) := ⟨_, rfl⟩
 refine wp_region_slotsL [13, 14, 15, 16, 17, 18, 19, 20, 21, 22, 23, 24, 25, 26, 27, 4, 5, 6] (by kernel_rfl) (by kernel_rfl)
  (F := fun j q W => match j with | 0 => q = .pointer (some ⟨w.heap.size, 1, none⟩) | 1 => q = .slice A n c | 2 => q = .pointer (some ⟨w.heap.size, 2, none⟩) | 3 => q = .int .i64 x0 | 4 => q = .int .i64 E | 5 => q = .int .i64 (k0 : Int) | 6 => PL W (w.heap.size + 2) q (limbs (cman y * 2 ^ k0)) | 7 => q = .pointer (some ⟨w.heap.size + 1, 1, none⟩) | 8 => q = .slice A' n' c' | 9 => q = .pointer (some ⟨w.heap.size + 1, 2, none⟩) | 10 => q = .int .i64 x1 | 11 => q = .int .i64 E | 12 => q = .int .i64 (k1 : Int) | 13 => PL W (w.heap.size + 2) q (limbs (cman z * 2 ^ k1)) | 14 => q = .int .i64 E | 15 => PL W (w.heap.size + 2) q (limbs (cman y * 2 ^ k0)) | 16 => PL W (w.heap.size + 2) q (limbs (cman z * 2 ^ k1)) | 17 => q = .int .i64 E | _ => True)
  (J := JA) ?h0A ?hstepA ?hendA
 case h0A =>
  rw [hJA]
  have hd := below_drew (Below.refl W0.heap.size W0)
  exact ⟨⟨below_drew HW.out.1, HW.out.2⟩, yb hh0.out hd, yb hh1.out hd⟩
 case hstepA =>
  intro k o ho v W L0 hJW hF hnk haft hcl K hK
  rw [hJA] at hJW
  obtain ⟨hBW, hb0, hb1⟩ := hJW
  have hJM : ∀ (k : Nat) (w4 : World), BL W w4 → JA (fun j => L0 j ∨ j = k) w4 := by
   intro k w4 hb
   rw [hJA]
   refine ⟨⟨below_then hBW.1 hBW.1.size hb, Nat.le_trans hBW.2 hb.size⟩, yb hb0 hb, yb hb1 hb⟩
  have HJM := yk hJM
  clear hJM hcl
  rcases k with _ | _ | _ | _ | _ | _ | _ | _ | _ | _ | _ | _ | _ | _ | _ | _ | _ | _ | k
  all_goals first
   | (cases ho; done)
   | (obtain rfl := (Option.some.inj ho).symm
      clear ho
      rw [if_pos (by rfl)]
      simp only [setAll, List.setIfInBounds_toArray, List.set_cons_zero, List.set_cons_succ, List.getElem_toArray, List.getElem_cons_zero, List.getElem_cons_succ, Nat.reduceAdd] at haft hF hK ⊢)
  ·
   have key := hK.out (.pointer (some ⟨w.heap.size, 1, none⟩)) W (HJM.out 0 W yr) (fun _ _ h => h) rfl
   go_simp
   simpa [upd] using key
  ·
   have f0 : v 0 = .pointer (some ⟨w.heap.size, 1, none⟩) := hF 0 (haft ⟨0, .data⟩ (by simp) rfl)
   have cc := (box_cell (v := .slice A n c) hb0 1 rfl).1
   have key := hK.out (.slice A n c) W (HJM.out 1 W yr) (fun _ _ h => h) rfl
   go_simp
   simpa [upd, f0] using key
  ·
   have key := hK.out (.pointer (some ⟨w.heap.size, 2, none⟩)) W (HJM.out 2 W yr) (fun _ _ h => h) rfl
   go_simp
   simpa [upd] using key
  ·
   have f2 : v 2 = .pointer (some ⟨w.heap.size, 2, none⟩) := hF 2 (haft ⟨2, .data⟩ (by simp) rfl)
   have cc := (box_cell (v := .int .i64 x0) hb0 2 rfl).1
   have key := hK.out (.int .i64 x0) W (HJM.out 3 W yr) (fun _ _ h => h) rfl
   go_simp
   simpa [upd, f2] using key
  ·
   have key := hK.out (.int .i64 E) W (HJM.out 4 W yr) (fun _ _ h => h) rfl
   go_simp
   simpa [upd] using key
  ·
   have f3 : v 3 = .int .i64 x0 := hF 3 (haft ⟨3, .data⟩ (by simp) rfl)
   have f4 : v 4 = .int .i64 E := hF 4 (haft ⟨4, .data⟩ (by simp) rfl)
   have hw := HX0.out
   have key := hK.out (.int .i64 (k0 : Int)) W (HJM.out 5 W yr) (fun _ _ h => h) rfl
   go_simp
   simpa [upd, f3, f4, hw] using key
  ·
   have f1 : v 1 = .slice A n c := hF 1 (haft ⟨1, .data⟩ (by simp) rfl)
   have f5 : v 5 = .int .i64 (k0 : Int) := hF 5 (haft ⟨5, .data⟩ (by simp) rfl)
   go_simp
   go_at_call 131
   refine (QA.out W hBW.1).mono ?_
   rintro en w4 ⟨v1, rfl, hr, hb⟩
   have key := hK.out (v1) w4 (HJM.out 6 w4 hb) ?monoA_6 (hr.lower hBW.2)
   · simpa [upd, f1, f5] using key
   intro j hj hf
   rcases j with _ | _ | _ | _ | _ | _ | _ | _ | _ | _ | _ | _ | _ | _ | _ | _ | _ | _ | j <;> first | exact hf | exact PDy.below hf hb | exact PL.below hf hb | exact RDy.below hf hb
  ·
   have key := hK.out (.pointer (some ⟨w.heap.size + 1, 1, none⟩)) W (HJM.out 7 W yr) (fun _ _ h => h) rfl
   go_simp
   simpa [upd] using key
  ·
   have f7 : v 7 = .pointer (some ⟨w.heap.size + 1, 1, none⟩) := hF 7 (haft ⟨7, .data⟩ (by simp) rfl)
   have cc := (box_cell (v := .slice A' n' c') hb1 1 rfl).1
   have key := hK.out (.slice A' n' c') W (HJM.out 8 W yr) (fun _ _ h => h) rfl
   go_simp
   simpa [upd, f7] using key
  ·
   have key := hK.out (.pointer (some ⟨w.heap.size + 1, 2, none⟩)) W (HJM.out 9 W yr) (fun _ _ h => h) rfl
   go_simp
   simpa [upd] using key
  ·
   have f9 : v 9 = .pointer (some ⟨w.heap.size + 1, 2, none⟩) := hF 9 (haft ⟨9, .data⟩ (by simp) rfl)
   have cc := (box_cell (v := .int .i64 x1) hb1 2 rfl).1
   have key := hK.out (.int .i64 x1) W (HJM.out 10 W yr) (fun _ _ h => h) rfl
   go_simp
   simpa [upd, f9] using key
  ·
   have key := hK.out (.int .i64 E) W (HJM.out 11 W yr) (fun _ _ h => h) rfl
   go_simp
   simpa [upd] using key
  ·
   have f10 : v 10 = .int .i64 x1 := hF 10 (haft ⟨10, .data⟩ (by simp) rfl)
   have f11 : v 11 = .int .i64 E := hF 11 (haft ⟨11, .data⟩ (by simp) rfl)
   have hw := HX1.out
   have key := hK.out (.int .i64 (k1 : Int)) W (HJM.out 12 W yr) (fun _ _ h => h) rfl
   go_simp
   simpa [upd, f10, f11, hw] using key
  ·
   have f8 : v 8 = .slice A' n' c' := hF 8 (haft ⟨8, .data⟩ (by simp) rfl)
   have f12 : v 12 = .int .i64 (k1 : Int) := hF 12 (haft ⟨12, .data⟩ (by simp) rfl)
   go_simp
   go_at_call 131
   refine (QB.out W hBW.1).mono ?_
   rintro en w4 ⟨v1, rfl, hr, hb⟩
   have key := hK.out (v1) w4 (HJM.out 13 w4 hb) ?monoA_13 (hr.lower hBW.2)
   · simpa [upd, f8, f12] using key
   intro j hj hf
   rcases j with _ | _ | _ | _ | _ | _ | _ | _ | _ | _ | _ | _ | _ | _ | _ | _ | _ | _ | j <;> first | exact hf | exact PDy.below hf hb | exact PL.below hf hb | exact RDy.below hf hb
  ·
   have key := hK.out (.int .i64 E) W (HJM.out 14 W yr) (fun _ _ h => h) rfl
   go_simp
   simpa [upd] using key
  ·
   have f6 : PL W (w.heap.size + 2) (v 6) (limbs (cman y * 2 ^ k0)) := hF 6 (haft ⟨6, .data⟩ (by simp) rfl)
   have key := hK.out (v 6) W (HJM.out 15 W yr) (fun _ _ h => h) f6
   go_simp
   simpa [upd] using key
  ·
   have f13 : PL W (w.heap.size + 2) (v 13) (limbs (cman z * 2 ^ k1)) := hF 13 (haft ⟨13, .data⟩ (by simp) rfl)
   have key := hK.out (v 13) W (HJM.out 16 W yr) (fun _ _ h => h) f13
   go_simp
   simpa [upd] using key
  ·
   have f14 : v 14 = .int .i64 E := hF 14 (haft ⟨14, .data⟩ (by simp) rfl)
   have key := hK.out (.int .i64 E) W (HJM.out 17 W yr) (fun _ _ h => h) rfl
   go_simp
   simpa [upd, f14] using key
 case hendA =>
  intro v W L0 hall hJW hF
  rw [hJA] at hJW
  obtain ⟨hBW, _, _⟩ := hJW
  have f15 : PL W (w.heap.size + 2) (v 15) (limbs (cman y * 2 ^ k0)) := hF 15 (by decide)
  have f16 : PL W (w.heap.size + 2) (v 16) (limbs (cman z * 2 ^ k1)) := hF 16 (by decide)
  have f17 : v 17 = .int .i64 E := hF 17 (by decide)
  have P1 := yk (f15.lower (b' := w.heap.size) (by omega))
  have P2 := yk (f16.lower (b' := w.heap.size) (by omega))
  have BF := yk hBW.1
  clear hF hall f15 f16 hBW
  simp only [setAll, List.setIfInBounds_toArray, List.set_cons_zero, List.set_cons_succ, Nat.reduceAdd, f17]
  go_wp2
  go_ret3
  exact ⟨_, _, rfl, P1.out, P2.out, BF.out⟩
def cmpZ (y z : Int) : Int := if y < z then -1 else if z < y then 1 else 0
def Two (w : World) (b : Nat) (v : Value) (l m : List Nat) (E : Int) : Prop := ∃ p q, v = .tuple #[p, q, .int .i64 E] ∧ PL w b p l ∧ PL w b q m
theorem pow_le2 (a b : Nat) (h : a ≤ b) : 2 ^ a ≤ 2 ^ b := Nat.pow_le_pow_right (by decide) h
theorem Two.below {w w1 : World} {b : Nat} {v : Value} {l m : List Nat} {E : Int} (h : Two w b v l m E) (hb : BL w w1) : Two w1 b v l m E := by
 obtain ⟨p, q, e, h1, h2⟩ := h
 exact ⟨p, q, e, h1.below hb, h2.below hb⟩
theorem abs_form {z e : Int} (h : z ≠ 0) : ∃ k : Nat, cexp z e = e + k ∧ z.natAbs = cman z * 2 ^ k := by
 obtain ⟨k, e1, e2, _⟩ := of_form (e := e) h
 refine ⟨k, e1, ?_⟩
 have := congrArg Int.natAbs e2
 rw [sgn_abs] at this
 exact this
theorem top_lt {y z e : Int} (hy : y ≠ 0) (hz : z ≠ 0) (h : cexp y e + bl (cman y) - 1 < cexp z e + bl (cman z) - 1) : y.natAbs < z.natAbs := by
 obtain ⟨j, e1, e2⟩ := abs_form (e := e) hy
 obtain ⟨k, e3, e4⟩ := abs_form (e := e) hz
 have h1 : bl y.natAbs = bl (cman y) + j := by rw [e2]; exact bl_mul_pow (fun h => hy (cman_eq_zero.1 h)) j
 have h2 : bl z.natAbs = bl (cman z) + k := by rw [e4]; exact bl_mul_pow (fun h => hz (cman_eq_zero.1 h)) k
 refine Classical.byContradiction fun hc => ?_
 have h3 := bl_lt y.natAbs
 have h4 : z.natAbs < 2 ^ bl y.natAbs := by omega
 have h5 := bl_le_iff.2 h4
 omega
theorem cmp_amounts {y z e E : Int} {k0 k1 : Nat} (hy : y ≠ 0) (hz : z ≠ 0) (hE : E = min (cexp y e) (cexp z e)) (h0 : cexp y e - E = k0) (h1 : cexp z e - E = k1) : cmpN (cman y * 2 ^ k0) (cman z * 2 ^ k1) = cmpN y.natAbs z.natAbs := by
 obtain ⟨j, e1, e2⟩ := abs_form (e := e) hy
 obtain ⟨k, e3, e4⟩ := abs_form (e := e) hz
 obtain ⟨d, hd⟩ : ∃ d : Nat, E = e + d := ⟨min j k, by omega⟩
 have a1 : j = k0 + d := by omega
 have a2 : k = k1 + d := by omega
 rw [e2, e4, a1, a2, Nat.pow_add, Nat.pow_add, ← Nat.mul_assoc, ← Nat.mul_assoc]
 have hp := Nat.two_pow_pos d
 unfold cmpN
 simp only [Nat.mul_lt_mul_right hp]
theorem cmpZ_sign {y z s : Int} (hy : sgnI y = s) (hz : sgnI z = s) (h0 : s ≠ 0) : cmpZ y z = s * cmpN y.natAbs z.natAbs := by
 unfold sgnI at hy hz
 unfold cmpZ cmpN
 split at hy
 · omega
 · split at hz
   · omega
   · split at hy <;> split at hz <;> subst hy <;> first | (exfalso; revert hz; decide) | skip
     all_goals
      repeat' split
      all_goals omega
theorem cmpZ_lt {y z : Int} (h : sgnI y < sgnI z) : cmpZ y z = -1 := by
 unfold sgnI at h
 unfold cmpZ
 rw [if_pos]
 revert h
 repeat' split
 all_goals omega
theorem cmpZ_gt {y z : Int} (h : sgnI z < sgnI y) : cmpZ y z = 1 := by
 unfold sgnI at h
 unfold cmpZ
 rw [if_neg, if_pos]
 all_goals
  revert h
  repeat' split
  all_goals omega
theorem pcmp_dy (u v : Value) (y z e : Int) (w : World) (h : CDy w u y e) (h' : CDy w v z e) (hl : (limbs (cman y)).length ≤ 268435456) (hl' : (limbs (cman z)).length ≤ 268435456) (le1 : -8589934592 ≤ cexp y e) (le2 : cexp y e ≤ 8589934592) (le1' : -8589934592 ≤ cexp z e) (le2' : cexp z e ≤ 8589934592) (hT : TabAt 0 Lib.deBruijn64tab w) :
 Calls Tryz.prog 67 #[u, v] w fun en w' => en = .returned (.int .i64 (cmpZ y z)) ∧ BL w w' := by
 have QS0 := yk (fun (m : World) (hm : BL w m) => psign_dy u y e m (h.below hm) (by omega))
 have QS1 := yk (fun (m : World) (hm : BL w m) => psign_dy v z e m (h'.below hm) (by omega))
 have QT0 := yk (fun (m : World) (hm : BL w m) => ptop_dy u y e m (h.below hm) (by omega) (by omega) (by omega))
 have QT1 := yk (fun (m : World) (hm : BL w m) => ptop_dy v z e m (h'.below hm) (by omega) (by omega) (by omega))
 have QO0 := yk (fun (m : World) (hm : BL w m) => pone_dy u y e m (h.below hm) (by omega) (by omega) (by omega) (tab_below hT hm))
 have QO1 := yk (fun (m : World) (hm : BL w m) => pone_dy v z e m (h'.below hm) (by omega) (by omega) (by omega) (tab_below hT hm))
 obtain ⟨E, hE⟩ : ∃ E, E = min (cexp y e) (cexp z e) := ⟨_, rfl⟩
 obtain ⟨k0, hk0⟩ : ∃ k : Nat, cexp y e - E = k := ⟨(cexp y e - E).toNat, by omega⟩
 obtain ⟨k1, hk1⟩ : ∃ k : Nat, cexp z e - E = k := ⟨(cexp z e - E).toNat, by omega⟩
 have QAM := yk (fun (u v : Value) (m : World) (h : CDy m u y e) (h' : CDy m v z e) => pamounts_dy u v y z e E k0 k1 m h h' hE hk0 hk1 (by omega) (by omega) (by omega) (by omega) (by omega) (by omega))
 obtain ⟨na, hna⟩ : ∃ x, x = cman y * 2 ^ k0 := ⟨_, rfl⟩
 obtain ⟨nb, hnb⟩ : ∃ x, x = cman z * 2 ^ k1 := ⟨_, rfl⟩
 have HCA := yk (fun (hy : y ≠ 0) (hz : z ≠ 0) => (by have q := cmp_amounts hy hz hE hk0 hk1; rw [← hna, ← hnb] at q; exact q : cmpN na nb = cmpN y.natAbs z.natAbs))
 have la1 : (limbs na).length ≤ 4294967296 := by
  rw [hna]
  refine limbs_len_le ?_
  have q1 := nv_lt (wf_limbs (cman y))
  rw [nv_limbs] at q1
  refine Nat.lt_of_lt_of_le (Nat.mul_lt_mul_of_pos_right q1 (Nat.two_pow_pos k0)) ?_
  rw [← Nat.pow_add]
  have q2 : 64 * (limbs (cman y)).length + k0 ≤ 64 * 4294967296 := by omega
  generalize 64 * 4294967296 = E2 at q2 ⊢
  exact pow_le2 _ _ q2
 have lb1 : (limbs nb).length ≤ 4294967296 := by
  rw [hnb]
  refine limbs_len_le ?_
  have q1 := nv_lt (wf_limbs (cman z))
  rw [nv_limbs] at q1
  refine Nat.lt_of_lt_of_le (Nat.mul_lt_mul_of_pos_right q1 (Nat.two_pow_pos k1)) ?_
  rw [← Nat.pow_add]
  have q2 : 64 * (limbs (cman z)).length + k1 ≤ 64 * 4294967296 := by omega
  generalize 64 * 4294967296 = E2 at q2 ⊢
  exact pow_le2 _ _ q2
 obtain ⟨la, hla⟩ : ∃ x, x = limbs na := ⟨_, rfl⟩
 obtain ⟨lb, hlb⟩ : ∃ x, x = limbs nb := ⟨_, rfl⟩
 rw [← hna, ← hnb, ← hla, ← hlb] at QAM
 have QC := yk (fun (A B : Option Addr) (c d : Nat) (m : World) (ha : kU.C m A la.length la) (hb : kU.C m B lb.length lb) (hc : la.length ≤ c) (hd : lb.length ≤ d) => (by
  have q := pcmp_any la lb A B la.length lb.length c d rfl rfl m ha hb hc hd (by rw [hla]; exact wf_limbs _) (by rw [hlb]; exact wf_limbs _) (by rw [hla]; exact la1) (by rw [hlb]; exact lb1)
  rw [show nv la = na by rw [hla, nv_limbs], show nv lb = nb by rw [hlb, nv_limbs]] at q
  exact q : Calls Tryz.prog 104 #[.slice A la.length c, .slice B lb.length d] m fun e w' => e = .returned (.int .i64 (cmpN na nb)) ∧ ∃ n, w' = m.drewN n))
 obtain ⟨s0, hs0⟩ : ∃ s, sgnI y = s := ⟨_, rfl⟩
 obtain ⟨s1, hs1⟩ : ∃ s, sgnI z = s := ⟨_, rfl⟩
 obtain ⟨t0, ht0⟩ : ∃ t, cexp y e + bl (cman y) - 1 = t := ⟨_, rfl⟩
 obtain ⟨t1, ht1⟩ : ∃ t, cexp z e + bl (cman z) - 1 = t := ⟨_, rfl⟩
 have HSV := yk (ya hs0 (ya hs1 (ya ht0 ht1)))
 have hsr0 : s0 = -1 ∨ s0 = 0 ∨ s0 = 1 := by rw [← hs0]; unfold sgnI; split; exact .inr (.inl rfl); split; exact .inl rfl; exact .inr (.inr rfl)
 rw [hs0] at QS0
 rw [hs1] at QS1
 rw [ht0] at QT0
 rw [ht1] at QT1
 obtain ⟨A, n, c, rfl, hC, hn, hc⟩ := h
 obtain ⟨A', n', c', rfl, hC', hn', hc'⟩ := h'
 obtain ⟨x0, hx0⟩ : ∃ x, x = cexp y e := ⟨_, rfl⟩
 obtain ⟨x1, hx1⟩ : ∃ x, x = cexp z e := ⟨_, rfl⟩
 obtain ⟨b0, hb0⟩ : ∃ x, x = cneg y := ⟨_, rfl⟩
 obtain ⟨b1, hb1⟩ : ∃ x, x = cneg z := ⟨_, rfl⟩
 rw [← hx0, ← hb0] at QS0 QT0 QO0
 rw [← hx1, ← hb1] at QS1 QT1 QO1
 rw [← hx0, ← hb0, ← hx1, ← hb1]
 clear hC hC' hx0 hx1 hb0 hb1 hT hE hk0 hk1 hna hnb hla hlb la1 lb1 hs0 hs1 ht0 ht1 le1 le2 le1' le2' hl hl'
 obtain ⟨W0, hW0⟩ : ∃ W0, W0 = ((w.alloc (.cells #[.bool b0, .slice A n c, .int .i64 x0] 25)).alloc (.cells #[.bool b1, .slice A' n' c', .int .i64 x1] 25)) := ⟨_, rfl⟩
 have hh0 : Aside0 (W0.heap[w.heap.size]? = some (.cells #[.bool b0, .slice A n c, .int .i64 x0] 25 (0, 0))) := ⟨by rw [hW0]; exact blk_alloc (blk_new _ _) _⟩
 have hh1 : Aside0 (W0.heap[w.heap.size + 1]? = some (.cells #[.bool b1, .slice A' n' c', .int .i64 x1] 25 (0, 0))) := ⟨by rw [hW0]; have := blk_new (w.alloc (.cells #[.bool b0, .slice A n c, .int .i64 x0] 25)) (.cells #[.bool b1, .slice A' n' c', .int .i64 x1] 25); rw [size_alloc'] at this; exact this⟩
 have HW : Aside0 (BL w W0 ∧ w.heap.size + 2 ≤ W0.heap.size) := ⟨by rw [hW0]; exact ⟨below_alloc (below_alloc yr _) _, by rw [size_alloc', size_alloc']; exact Nat.le_refl _⟩⟩
 go_enter Tryz.func67, Tryz.ntmps67
 go_upto_region 1 with fail
 rw [← hW0]
 clear hW0
 obtain ⟨JP, hJP⟩ : ∃ J : (Nat → Prop) → World → Prop, J = fun L0 W => (BL w W ∧ w.heap.size + 2 ≤ W.heap.size) ∧ W.heap[w.heap.size]? = some (.cells #[.bool b0, .slice A n c, .int .i64 x0] 25 (0, 0)) ∧ W.heap[w.heap.size + 1]? = some (.cells #[.bool b1, .slice A' n' c', .int .i64 x1] 25 (0, 0)) := ⟨_, rfl⟩
 refine wp_region_slotsL [12, 13, 14, 15, 5, 6] (by kernel_rfl) (by kernel_rfl)
  (F := fun j q W => match j with | 0 => q = .agg #[.bool b0, .slice A n c, .int .i64 x0] | 1 => q = .int .i64 s0 | 2 => q = .agg #[.bool b1, .slice A' n' c', .int .i64 x1] | 3 => q = .int .i64 s1 | 4 => q = .int .i64 s0 | 5 => q = .int .i64 s1 | _ => True)
  (J := JP) ?h0P ?hstepP ?hendP
 case h0P =>
  rw [hJP]
  have hd := below_drew (Below.refl W0.heap.size W0)
  exact ⟨⟨below_drew HW.out.1, HW.out.2⟩, yb hh0.out hd, yb hh1.out hd⟩
 case hstepP =>
  intro k o ho v W L0 hJW hF hnk haft hcl K hK
  rw [hJP] at hJW
  obtain ⟨hBW, hb0, hb1⟩ := hJW
  have hJM : ∀ (k : Nat) (w4 : World), BL W w4 → JP (fun j => L0 j ∨ j = k) w4 := by
   intro k w4 hb
   rw [hJP]
   refine ⟨⟨below_then hBW.1 hBW.1.size hb, Nat.le_trans hBW.2 hb.size⟩, yb hb0 hb, yb hb1 hb⟩
  have HJM := yk hJM
  clear hJM hcl
  rcases k with _ | _ | _ | _ | _ | _ | k
  all_goals first
   | (cases ho; done)
   | (obtain rfl := (Option.some.inj ho).symm
      clear ho
      rw [if_pos (by rfl)]
      simp only [setAll, List.setIfInBounds_toArray, List.set_cons_zero, List.set_cons_succ, List.getElem_toArray, List.getElem_cons_zero, List.getElem_cons_succ, Nat.reduceAdd] at haft hF hK ⊢)
  ·
   have cc0 := (box_cell (v := .bool b0) hb0 0 rfl).1
   have cc1 := (box_cell (v := .slice A n c) hb0 1 rfl).1
   have cc2 := (box_cell (v := .int .i64 x0) hb0 2 rfl).1
   have key := hK.out (.agg #[.bool b0, .slice A n c, .int .i64 x0]) W (HJM.out 0 W yr) (fun _ _ h => h) rfl
   go_simp
   simpa [upd] using key
  ·
   have f0 : v 0 = .agg #[.bool b0, .slice A n c, .int .i64 x0] := hF 0 (haft ⟨0, .data⟩ (by simp) rfl)
   go_simp
   go_at_call 49
   refine (QS0.out W hBW.1).mono ?_
   rintro en w4 ⟨rfl, hb⟩
   have key := hK.out (.int .i64 s0) w4 (HJM.out 1 w4 hb) ?monoP_1 (rfl)
   · simpa [upd, f0] using key
   intro j hj hf
   rcases j with _ | _ | _ | _ | _ | _ | j <;> first | exact hf | exact PDy.below hf hb | exact PL.below hf hb | exact Two.below hf hb | exact RDy.below hf hb
  ·
   have cc0 := (box_cell (v := .bool b1) hb1 0 rfl).1
   have cc1 := (box_cell (v := .slice A' n' c') hb1 1 rfl).1
   have cc2 := (box_cell (v := .int .i64 x1) hb1 2 rfl).1
   have key := hK.out (.agg #[.bool b1, .slice A' n' c', .int .i64 x1]) W (HJM.out 2 W yr) (fun _ _ h => h) rfl
   go_simp
   simpa [upd] using key
  ·
   have f2 : v 2 = .agg #[.bool b1, .slice A' n' c', .int .i64 x1] := hF 2 (haft ⟨2, .data⟩ (by simp) rfl)
   go_simp
   go_at_call 49
   refine (QS1.out W hBW.1).mono ?_
   rintro en w4 ⟨rfl, hb⟩
   have key := hK.out (.int .i64 s1) w4 (HJM.out 3 w4 hb) ?monoP_3 (rfl)
   · simpa [upd, f2] using key
   intro j hj hf
   rcases j with _ | _ | _ | _ | _ | _ | j <;> first | exact hf | exact PDy.below hf hb | exact PL.below hf hb | exact Two.below hf hb | exact RDy.below hf hb
  ·
   have f1 : v 1 = .int .i64 s0 := hF 1 (haft ⟨1, .data⟩ (by simp) rfl)
   have key := hK.out (.int .i64 s0) W (HJM.out 4 W yr) (fun _ _ h => h) rfl
   go_simp
   simpa [upd, f1] using key
  ·
   have f3 : v 3 = .int .i64 s1 := hF 3 (haft ⟨3, .data⟩ (by simp) rfl)
   have key := hK.out (.int .i64 s1) W (HJM.out 5 W yr) (fun _ _ h => h) rfl
   go_simp
   simpa [upd, f3] using key
 case hendP =>
  intro v1 W1 L1 hall hJW hF
  rw [hJP] at hJW
  obtain ⟨hB1, hbx0, hbx1⟩ := hJW
  have f4 : v1 4 = .int .i64 s0 := hF 4 (by decide)
  have f5 : v1 5 = .int .i64 s1 := hF 5 (by decide)
  have HB1 := yk hB1
  have HX0 := yk hbx0
  have HX1 := yk hbx1
  clear hF hall hB1 hbx0 hbx1 hJP
  simp only [setAll, List.setIfInBounds_toArray, List.set_cons_zero, List.set_cons_succ, Nat.reduceAdd, f4, f5]
  rcases Int.lt_trichotomy s0 s1 with hlt | heq | hgt
  · have HV := yk (show cmpZ y z = -1 from cmpZ_lt (by rw [HSV.out.1, HSV.out.2.1]; exact hlt))
    go_wp2
    go_ret
    exact ⟨ret_int (by rw [HV.out]), HB1.out.1⟩
  · subst heq
    have hirr : ¬ s0 < s0 := by omega
    by_cases hz0 : s0 = 0
    · subst hz0
      have HV := yk (show cmpZ y z = 0 by
       have q1 := HSV.out.1
       have q2 := HSV.out.2.1
       have hy0 : y = 0 := by unfold sgnI at q1; split at q1; assumption; split at q1 <;> omega
       have hz0 : z = 0 := by unfold sgnI at q2; split at q2; assumption; split at q2 <;> omega
       rw [hy0, hz0]; decide)
      go_wp2
      go_ret
      exact ⟨ret_int (by rw [HV.out]), HB1.out.1⟩
    · have hz1 : (s0 == 0) = false := by simp; exact hz0
      have HNE := yk (show y ≠ 0 ∧ z ≠ 0 by
       have q1 := HSV.out.1
       have q2 := HSV.out.2.1
       constructor
       · rintro rfl; exact hz0 q1.symm
       · rintro rfl; exact hz0 q2.symm)
      have HZS := yk (show cmpZ y z = s0 * cmpN y.natAbs z.natAbs from cmpZ_sign HSV.out.1 HSV.out.2.1 hz0)
      clear hz0
      go_upto_region 8 with fail
      obtain ⟨JR, hJR⟩ : ∃ J : (Nat → Prop) → World → Prop, J = fun L0 W => (BL w W ∧ w.heap.size + 2 ≤ W.heap.size) ∧ W.heap[w.heap.size]? = some (.cells #[.bool b0, .slice A n c, .int .i64 x0] 25 (0, 0)) ∧ W.heap[w.heap.size + 1]? = some (.cells #[.bool b1, .slice A' n' c', .int .i64 x1] 25 (0, 0)) := ⟨_, rfl⟩
      refine wp_region_slotsL [27, 28, 29, 30, 7, 8] (by kernel_rfl) (by kernel_rfl)
       (F := fun j q W => match j with | 0 => q = .agg #[.bool b0, .slice A n c, .int .i64 x0] | 1 => q = .int .i64 t0 | 2 => q = .agg #[.bool b1, .slice A' n' c', .int .i64 x1] | 3 => q = .int .i64 t1 | 4 => q = .int .i64 t0 | 5 => q = .int .i64 t1 | _ => True)
       (J := JR) ?h0R ?hstepR ?hendR
      case h0R =>
       rw [hJR]
       have hd := below_drew (Below.refl W1.heap.size W1)
       exact ⟨⟨below_drew HB1.out.1, HB1.out.2⟩, yb HX0.out hd, yb HX1.out hd⟩
      case hstepR =>
       intro k o ho v W L0 hJW hF hnk haft hcl K hK
       rw [hJR] at hJW
       obtain ⟨hBW, hb0, hb1⟩ := hJW
       have hJM : ∀ (k : Nat) (w4 : World), BL W w4 → JR (fun j => L0 j ∨ j = k) w4 := by
        intro k w4 hb
        rw [hJR]
        refine ⟨⟨below_then hBW.1 hBW.1.size hb, Nat.le_trans hBW.2 hb.size⟩, yb hb0 hb, yb hb1 hb⟩
       have HJM := yk hJM
       clear hJM hcl
       rcases k with _ | _ | _ | _ | _ | _ | k
       all_goals first
        | (cases ho; done)
        | (obtain rfl := (Option.some.inj ho).symm
           clear ho
           rw [if_pos (by rfl)]
           simp only [setAll, List.setIfInBounds_toArray, List.set_cons_zero, List.set_cons_succ, List.getElem_toArray, List.getElem_cons_zero, List.getElem_cons_succ, Nat.reduceAdd] at haft hF hK ⊢)
       ·
        have cc0 := (box_cell (v := .bool b0) hb0 0 rfl).1
        have cc1 := (box_cell (v := .slice A n c) hb0 1 rfl).1
        have cc2 := (box_cell (v := .int .i64 x0) hb0 2 rfl).1
        have key := hK.out (.agg #[.bool b0, .slice A n c, .int .i64 x0]) W (HJM.out 0 W yr) (fun _ _ h => h) rfl
        go_simp
        simpa [upd] using key
       ·
        have f0 : v 0 = .agg #[.bool b0, .slice A n c, .int .i64 x0] := hF 0 (haft ⟨0, .data⟩ (by simp) rfl)
        go_simp
        go_at_call 80
        refine (QT0.out W hBW.1).mono ?_
        rintro en w4 ⟨rfl, hb⟩
        have key := hK.out (.int .i64 t0) w4 (HJM.out 1 w4 hb) ?monoR_1 (rfl)
        · simpa [upd, f0] using key
        intro j hj hf
        rcases j with _ | _ | _ | _ | _ | _ | j <;> first | exact hf | exact PDy.below hf hb | exact PL.below hf hb | exact Two.below hf hb | exact RDy.below hf hb
       ·
        have cc0 := (box_cell (v := .bool b1) hb1 0 rfl).1
        have cc1 := (box_cell (v := .slice A' n' c') hb1 1 rfl).1
        have cc2 := (box_cell (v := .int .i64 x1) hb1 2 rfl).1
        have key := hK.out (.agg #[.bool b1, .slice A' n' c', .int .i64 x1]) W (HJM.out 2 W yr) (fun _ _ h => h) rfl
        go_simp
        simpa [upd] using key
       ·
        have f2 : v 2 = .agg #[.bool b1, .slice A' n' c', .int .i64 x1] := hF 2 (haft ⟨2, .data⟩ (by simp) rfl)
        go_simp
        go_at_call 80
        refine (QT1.out W hBW.1).mono ?_
        rintro en w4 ⟨rfl, hb⟩
        have key := hK.out (.int .i64 t1) w4 (HJM.out 3 w4 hb) ?monoR_3 (rfl)
        · simpa [upd, f2] using key
        intro j hj hf
        rcases j with _ | _ | _ | _ | _ | _ | j <;> first | exact hf | exact PDy.below hf hb | exact PL.below hf hb | exact Two.below hf hb | exact RDy.below hf hb
       ·
        have f1 : v 1 = .int .i64 t0 := hF 1 (haft ⟨1, .data⟩ (by simp) rfl)
        have key := hK.out (.int .i64 t0) W (HJM.out 4 W yr) (fun _ _ h => h) rfl
        go_simp
        simpa [upd, f1] using key
       ·
        have f3 : v 3 = .int .i64 t1 := hF 3 (haft ⟨3, .data⟩ (by simp) rfl)
        have key := hK.out (.int .i64 t1) W (HJM.out 5 W yr) (fun _ _ h => h) rfl
        go_simp
        simpa [upd, f3] using key
      case hendR =>
       intro v2 W2 L2 hall hJW hF
       rw [hJR] at hJW
       obtain ⟨hB2, hbx0, hbx1⟩ := hJW
       have f42 : v2 4 = .int .i64 t0 := hF 4 (by decide)
       have f52 : v2 5 = .int .i64 t1 := hF 5 (by decide)
       have HB2 := yk hB2
       have HX02 := yk hbx0
       have HX12 := yk hbx1
       clear hF hall hB2 hbx0 hbx1 hJR
       simp only [setAll, List.setIfInBounds_toArray, List.set_cons_zero, List.set_cons_succ, Nat.reduceAdd, f42, f52]
       rcases Int.lt_trichotomy t0 t1 with hlt | heq | hgt
       · have hne : (t0 != t1) = true := by simp; omega
         have HV := yk (show cmpZ y z = -s0 by
          have q := top_lt (y := y) (z := z) (e := e) HNE.out.1 HNE.out.2 (by rw [HSV.out.2.2.1, HSV.out.2.2.2]; exact hlt)
          rw [HZS.out, show cmpN y.natAbs z.natAbs = -1 by unfold cmpN; rw [if_pos q]]; omega)
         have hw : IntKind.i64.wrap (-s0) = -s0 := wrap_i64 (by omega) (by omega)
         go_wp2
         go_ret
         exact ⟨ret_int (by first | rw [HV.out] | (rw [HV.out]; first | rfl | exact hw)), HB2.out.1⟩
       · subst heq
         have hne : (t0 != t0) = false := by simp
         go_upto_region 13 with fail
         obtain ⟨JS, hJS⟩ : ∃ J : (Nat → Prop) → World → Prop, J = fun L0 W => (BL w W ∧ w.heap.size + 2 ≤ W.heap.size) ∧ W.heap[w.heap.size]? = some (.cells #[.bool b0, .slice A n c, .int .i64 x0] 25 (0, 0)) ∧ W.heap[w.heap.size + 1]? = some (.cells #[.bool b1, .slice A' n' c', .int .i64 x1] 25 (0, 0)) := ⟨_, rfl⟩
         refine wp_region_slotsL [41, 42, 43, 44, 45, 40, 46, 47, 48, 9, 10, 11] (by kernel_rfl) (by kernel_rfl)
          (F := fun j q W => match j with | 0 => q = .agg #[.bool b0, .slice A n c, .int .i64 x0] | 1 => PDy W (w.heap.size + 2) q y e | 2 => q = .agg #[.bool b1, .slice A' n' c', .int .i64 x1] | 3 => PDy W (w.heap.size + 2) q z e | 4 => Two W (w.heap.size + 2) q la lb E | 5 => Two W (w.heap.size + 2) q la lb E | 6 => PL W (w.heap.size + 2) q la | 7 => PL W (w.heap.size + 2) q lb | 8 => q = .int .i64 E | 9 => PL W (w.heap.size + 2) q la | 10 => PL W (w.heap.size + 2) q lb | 11 => q = .int .i64 E | _ => True)
          (J := JS) ?h0S ?hstepS ?hendS
         case h0S =>
          rw [hJS]
          have hd := below_drew (Below.refl W2.heap.size W2)
          exact ⟨⟨below_drew HB2.out.1, HB2.out.2⟩, yb HX02.out hd, yb HX12.out hd⟩
         case hstepS =>
          intro k o ho v W L0 hJW hF hnk haft hcl K hK
          rw [hJS] at hJW
          obtain ⟨hBW, hb0, hb1⟩ := hJW
          have hJM : ∀ (k : Nat) (w4 : World), BL W w4 → JS (fun j => L0 j ∨ j = k) w4 := by
           intro k w4 hb
           rw [hJS]
           refine ⟨⟨below_then hBW.1 hBW.1.size hb, Nat.le_trans hBW.2 hb.size⟩, yb hb0 hb, yb hb1 hb⟩
          have HJM := yk hJM
          clear hJM hcl
          rcases k with _ | _ | _ | _ | _ | _ | _ | _ | _ | _ | _ | _ | k
          all_goals first
           | (cases ho; done)
           | (obtain rfl := (Option.some.inj ho).symm
              clear ho
              rw [if_pos (by rfl)]
              simp only [setAll, List.setIfInBounds_toArray, List.set_cons_zero, List.set_cons_succ, List.getElem_toArray, List.getElem_cons_zero, List.getElem_cons_succ, Nat.reduceAdd] at haft hF hK ⊢)
          ·
           have cc0 := (box_cell (v := .bool b0) hb0 0 rfl).1
           have cc1 := (box_cell (v := .slice A n c) hb0 1 rfl).1
           have cc2 := (box_cell (v := .int .i64 x0) hb0 2 rfl).1
           have key := hK.out (.agg #[.bool b0, .slice A n c, .int .i64 x0]) W (HJM.out 0 W yr) (fun _ _ h => h) rfl
           go_simp
           simpa [upd] using key
          ·
           have f0 : v 0 = .agg #[.bool b0, .slice A n c, .int .i64 x0] := hF 0 (haft ⟨0, .data⟩ (by simp) rfl)
           go_simp
           go_at_call 66
           refine (QO0.out W hBW.1).mono ?_
           rintro en w4 ⟨v1, rfl, hr, hb⟩
           have key := hK.out (v1) w4 (HJM.out 1 w4 hb) ?monoS_1 (hr.lower hBW.2)
           · simpa [upd, f0] using key
           intro j hj hf
           rcases j with _ | _ | _ | _ | _ | _ | _ | _ | _ | _ | _ | _ | j <;> first | exact hf | exact PDy.below hf hb | exact PL.below hf hb | exact Two.below hf hb | exact RDy.below hf hb
          ·
           have cc0 := (box_cell (v := .bool b1) hb1 0 rfl).1
           have cc1 := (box_cell (v := .slice A' n' c') hb1 1 rfl).1
           have cc2 := (box_cell (v := .int .i64 x1) hb1 2 rfl).1
           have key := hK.out (.agg #[.bool b1, .slice A' n' c', .int .i64 x1]) W (HJM.out 2 W yr) (fun _ _ h => h) rfl
           go_simp
           simpa [upd] using key
          ·
           have f2 : v 2 = .agg #[.bool b1, .slice A' n' c', .int .i64 x1] := hF 2 (haft ⟨2, .data⟩ (by simp) rfl)
           go_simp
           go_at_call 66
           refine (QO1.out W hBW.1).mono ?_
           rintro en w4 ⟨v1, rfl, hr, hb⟩
           have key := hK.out (v1) w4 (HJM.out 3 w4 hb) ?monoS_3 (hr.lower hBW.2)
           · simpa [upd, f2] using key
           intro j hj hf
           rcases j with _ | _ | _ | _ | _ | _ | _ | _ | _ | _ | _ | _ | j <;> first | exact hf | exact PDy.below hf hb | exact PL.below hf hb | exact Two.below hf hb | exact RDy.below hf hb
          ·
           have f1 : PDy W (w.heap.size + 2) (v 1) y e := hF 1 (haft ⟨1, .data⟩ (by simp) rfl)
           have f3 : PDy W (w.heap.size + 2) (v 3) z e := hF 3 (haft ⟨3, .data⟩ (by simp) rfl)
           go_simp
           go_at_call 101
           refine (QAM.out (v 1) (v 3) W f1.c f3.c).mono ?_
           rintro en w4 ⟨p, r, rfl, g1, g2, hb⟩
           have key := hK.out (.tuple #[p, r, .int .i64 E]) w4 (HJM.out 4 w4 hb) ?monoS_4 (⟨p, r, rfl, g1.lower hBW.2, g2.lower hBW.2⟩)
           · simpa [upd] using key
           intro j hj hf
           rcases j with _ | _ | _ | _ | _ | _ | _ | _ | _ | _ | _ | _ | j <;> first | exact hf | exact PDy.below hf hb | exact PL.below hf hb | exact Two.below hf hb | exact RDy.below hf hb
          ·
           have f4 : Two W (w.heap.size + 2) (v 4) la lb E := hF 4 (haft ⟨4, .data⟩ (by simp) rfl)
           have key := hK.out (v 4) W (HJM.out 5 W yr) (fun _ _ h => h) f4
           go_simp
           simpa [upd] using key
          ·
           have f5 : Two W (w.heap.size + 2) (v 5) la lb E := hF 5 (haft ⟨5, .data⟩ (by simp) rfl)
           obtain ⟨p, r, f5v, g1, g2⟩ := f5
           have key := hK.out p W (HJM.out 6 W yr) (fun _ _ h => h) g1
           go_simp
           simpa [upd, f5v] using key
          ·
           have f5 : Two W (w.heap.size + 2) (v 5) la lb E := hF 5 (haft ⟨5, .data⟩ (by simp) rfl)
           obtain ⟨p, r, f5v, g1, g2⟩ := f5
           have key := hK.out r W (HJM.out 7 W yr) (fun _ _ h => h) g2
           go_simp
           simpa [upd, f5v] using key
          ·
           have f5 : Two W (w.heap.size + 2) (v 5) la lb E := hF 5 (haft ⟨5, .data⟩ (by simp) rfl)
           obtain ⟨p, r, f5v, g1, g2⟩ := f5
           have key := hK.out (.int .i64 E) W (HJM.out 8 W yr) (fun _ _ h => h) rfl
           go_simp
           simpa [upd, f5v] using key
          ·
           have f6 : PL W (w.heap.size + 2) (v 6) la := hF 6 (haft ⟨6, .data⟩ (by simp) rfl)
           have key := hK.out (v 6) W (HJM.out 9 W yr) (fun _ _ h => h) f6
           go_simp
           simpa [upd] using key
          ·
           have f7 : PL W (w.heap.size + 2) (v 7) lb := hF 7 (haft ⟨7, .data⟩ (by simp) rfl)
           have key := hK.out (v 7) W (HJM.out 10 W yr) (fun _ _ h => h) f7
           go_simp
           simpa [upd] using key
          ·
           have f8 : v 8 = .int .i64 E := hF 8 (haft ⟨8, .data⟩ (by simp) rfl)
           have key := hK.out (.int .i64 E) W (HJM.out 11 W yr) (fun _ _ h => h) rfl
           go_simp
           simpa [upd, f8] using key
         case hendS =>
          intro v3 W3 L3 hall hJW hF
          rw [hJS] at hJW
          obtain ⟨hB3, _, _⟩ := hJW
          have g9 : PL W3 (w.heap.size + 2) (v3 9) la := hF 9 (by decide)
          have g10 : PL W3 (w.heap.size + 2) (v3 10) lb := hF 10 (by decide)
          obtain ⟨Aa, ca, f9v, hca, hCa⟩ := g9.c
          obtain ⟨Ab, cb, f10v, hcb, hCb⟩ := g10.c
          have HB3 := yk hB3
          have HCa := yk (ya hca hCa)
          have HCb := yk (ya hcb hCb)
          clear hF hall hB3 hJS g9 g10 hca hCa hcb hCb
          simp only [setAll, List.setIfInBounds_toArray, List.set_cons_zero, List.set_cons_succ, Nat.reduceAdd, f9v, f10v]
          have HV := yk (show cmpZ y z = s0 * cmpN na nb by rw [HZS.out, HCA.out HNE.out.1 HNE.out.2])
          obtain ⟨cc, hcc⟩ : ∃ cc, cc = cmpN na nb := ⟨_, rfl⟩
          have hcr : cc = -1 ∨ cc = 0 ∨ cc = 1 := by rw [hcc]; unfold cmpN; split; exact .inl rfl; split; exact .inr (.inr rfl); exact .inr (.inl rfl)
          rw [← hcc] at QC HV
          clear hcc
          have hw : IntKind.i64.wrap (s0 * cc) = s0 * cc := by
           rcases hsr0 with rfl | rfl | rfl <;> rcases hcr with rfl | rfl | rfl <;> decide
          go_wp2_with (go_at_call 104; refine (QC.out Aa Ab ca cb _ HCa.out.2 HCb.out.2 HCa.out.1 HCb.out.1).mono ?_; rintro e w' ⟨rfl, n5, rfl⟩)
          go_ret
          exact ⟨ret_int (by first | (rw [HV.out]; done) | (rw [HV.out]; rfl) | (rw [HV.out]; exact hw)), pw_below_drewN HB3.out.1 _⟩
       · have hne : (t0 != t1) = true := by simp; omega
         have hnl : ¬ t0 < t1 := by omega
         have HV := yk (show cmpZ y z = s0 by
          have q := top_lt (y := z) (z := y) (e := e) HNE.out.2 HNE.out.1 (by rw [HSV.out.2.2.1, HSV.out.2.2.2]; exact hgt)
          rw [HZS.out, show cmpN y.natAbs z.natAbs = 1 by unfold cmpN; rw [if_neg (by omega), if_pos q]]; omega)
         go_wp2
         go_ret
         exact ⟨ret_int (by rw [HV.out]), HB2.out.1⟩
  · have HV := yk (show cmpZ y z = 1 from cmpZ_gt (by rw [HSV.out.1, HSV.out.2.1]; exact hgt))
    have hnl : ¬ s0 < s1 := by omega
    go_wp2
    go_ret
    exact ⟨ret_int (by rw [HV.out]), HB1.out.1⟩
theorem len_shift {n k m : Nat} (h : (limbs n).length ≤ 268435456) (hk : k ≤ 17179869184) (hm : 536870913 ≤ m) : n * 2 ^ k < 2 ^ (64 * m) := by
 have q1 := nv_lt (wf_limbs n)
 rw [nv_limbs] at q1
 refine Nat.lt_of_lt_of_le (Nat.mul_lt_mul_of_pos_right q1 (Nat.two_pow_pos k)) ?_
 rw [← Nat.pow_add]
 exact pow_le2 (64 * (limbs n).length + k) (64 * m) (by omega)
theorem PL.cc {w : World} {b c : Nat} {A : Option Addr} {l : List Nat} (h : PL w b (.slice A l.length c) l) : kU.C w A l.length l ∧ l.length ≤ c := by
 obtain ⟨A', c', he, hc, hC⟩ := h.c
 injection he with h1 h2 h3
 subst h1 h3
 exact ⟨hC, hc⟩
theorem len_sum {a b m : Nat} (ha : a < 2 ^ (64 * m)) (hb : b < 2 ^ (64 * m)) : a + b < 2 ^ (64 * (m + 1)) := by
 rw [pw m]
 generalize 2 ^ (64 * m) = p at *
 omega
theorem padd_dy (u v : Value) (y z e : Int) (w : World) (h : CDy w u y e) (h' : CDy w v z e) (hl : (limbs (cman y)).length ≤ 268435456) (hl' : (limbs (cman z)).length ≤ 268435456) (le1 : -8589934592 ≤ cexp y e) (le2 : cexp y e ≤ 8589934592) (le1' : -8589934592 ≤ cexp z e) (le2' : cexp z e ≤ 8589934592) (hT : TabAt 0 Lib.deBruijn64tab w) :
 Calls Tryz.prog 60 #[u, v] w fun en w' => ∃ v', en = .returned v' ∧ PDy w' w.heap.size v' (y + z) e ∧ BL w w' := by
 have QO0 := yk (fun (m : World) (hm : BL w m) => pone_dy u y e m (h.below hm) (by omega) (by omega) (by omega) (tab_below hT hm))
 have QO1 := yk (fun (m : World) (hm : BL w m) => pone_dy v z e m (h'.below hm) (by omega) (by omega) (by omega) (tab_below hT hm))
 have QZ0 := yk (fun (v : Value) (m : World) (h : CDy m v y e) => pzero_dy v y e m h (by omega))
 have QZ1 := yk (fun (v : Value) (m : World) (h : CDy m v z e) => pzero_dy v z e m h (by omega))
 obtain ⟨E, hE⟩ : ∃ E, E = min (cexp y e) (cexp z e) := ⟨_, rfl⟩
 obtain ⟨k0, hk0⟩ : ∃ k : Nat, cexp y e - E = k := ⟨(cexp y e - E).toNat, by omega⟩
 obtain ⟨k1, hk1⟩ : ∃ k : Nat, cexp z e - E = k := ⟨(cexp z e - E).toNat, by omega⟩
 have hE1 : -8589934592 ≤ E := by omega
 have hE2 : E ≤ 8589934592 := by omega
 have QAM := yk (fun (u v : Value) (m : World) (h : CDy m u y e) (h' : CDy m v z e) => pamounts_dy u v y z e E k0 k1 m h h' hE hk0 hk1 (by omega) (by omega) (by omega) (by omega) (by omega) (by omega))
 obtain ⟨na, hna⟩ : ∃ x, x = cman y * 2 ^ k0 := ⟨_, rfl⟩
 obtain ⟨nb, hnb⟩ : ∃ x, x = cman z * 2 ^ k1 := ⟨_, rfl⟩
 obtain ⟨M, hM⟩ : ∃ M, M = 536870913 := ⟨_, rfl⟩
 have bna : na < 2 ^ (64 * M) := by rw [hna]; exact len_shift hl (by omega) (by omega)
 have bnb : nb < 2 ^ (64 * M) := by rw [hnb]; exact len_shift hl' (by omega) (by omega)
 have la1 : (limbs na).length ≤ 536870913 := by have := limbs_len_le bna; omega
 have lb1 : (limbs nb).length ≤ 536870913 := by have := limbs_len_le bnb; omega
 have ls1 : ∀ s, s ≤ na + nb → (limbs s).length ≤ 1073741824 := fun s hs => by have := limbs_len_le (Nat.lt_of_le_of_lt hs (len_sum bna bnb)); omega
 have HFM := yk (fun (hy : y ≠ 0) (hz : z ≠ 0) => (by
  have q := plus_form (y := y) (z := z) (e := e) (E := E) (ky := k0) (kz := k1) hy hz hk0 hk1 (by omega)
  rw [← hna, ← hnb] at q
  exact q : ∃ j : Nat, E = e + j ∧ y = sgn (cneg y) na * 2 ^ j ∧ z = sgn (cneg z) nb * 2 ^ j))
 have HNZ := yk (show y ≠ 0 → na ≠ 0 from fun hy h => by rw [hna] at h; exact hy (cman_eq_zero.1 ((Nat.mul_eq_zero.1 h).resolve_right (by have := Nat.two_pow_pos k0; omega))))
 have HNZ2 := yk (show z ≠ 0 → nb ≠ 0 from fun hy h => by rw [hnb] at h; exact hy (cman_eq_zero.1 ((Nat.mul_eq_zero.1 h).resolve_right (by have := Nat.two_pow_pos k1; omega))))
 obtain ⟨la, hla⟩ : ∃ x, x = limbs na := ⟨_, rfl⟩
 obtain ⟨lb, hlb⟩ : ∃ x, x = limbs nb := ⟨_, rfl⟩
 rw [← hna, ← hnb, ← hla, ← hlb] at QAM
 have wla : Wf la := by rw [hla]; exact wf_limbs _
 have wlb : Wf lb := by rw [hlb]; exact wf_limbs _
 have vla : nv la = na := by rw [hla, nv_limbs]
 have vlb : nv lb = nb := by rw [hlb, nv_limbs]
 have lla : la.length ≤ 536870913 := by rw [hla]; exact la1
 have llb : lb.length ≤ 536870913 := by rw [hlb]; exact lb1
 have QADD := yk (fun (A B : Option Addr) (c d : Nat) (m : World) (ha : kU.C m A la.length la) (hb : kU.C m B lb.length lb) (hc : la.length ≤ c) (hd : lb.length ≤ d) => (by
  have q := padd_any la lb A B la.length lb.length c d rfl rfl m ha hb hc hd wla wlb (by omega) (by omega)
  rw [vla, vlb] at q
  exact q : Calls Tryz.prog 103 #[.slice A la.length c, .slice B lb.length d] m fun e w' => ∃ v, e = .returned v ∧ PL w' m.heap.size v (limbs (na + nb)) ∧ BL m w'))
 have QS1 := yk (fun (hle : nb ≤ na) (hn0 : na ≠ 0) (A B : Option Addr) (c d : Nat) (m : World) (ha : kU.C m A la.length la) (hb : kU.C m B lb.length lb) (hc : la.length ≤ c) (hd : lb.length ≤ d) => (by
  have q := psub_any la lb A B la.length lb.length c d rfl rfl m ha hb hc hd wla wlb (by omega) (by omega) (by rw [hla]; refine List.length_pos_iff.2 (fun h => hn0 (limbs_eq_nil.1 h))) (by rw [vla, vlb]; exact hle)
  rw [vla, vlb] at q
  exact q : Calls Tryz.prog 105 #[.slice A la.length c, .slice B lb.length d] m fun e w' => ∃ v, e = .returned v ∧ PL w' m.heap.size v (limbs (na - nb)) ∧ BL m w'))
 have QS2 := yk (fun (hle : na ≤ nb) (hn0 : nb ≠ 0) (A B : Option Addr) (c d : Nat) (m : World) (ha : kU.C m A la.length la) (hb : kU.C m B lb.length lb) (hc : la.length ≤ c) (hd : lb.length ≤ d) => (by
  have q := psub_any lb la B A lb.length la.length d c rfl rfl m hb ha hd hc wlb wla (by omega) (by omega) (by rw [hlb]; refine List.length_pos_iff.2 (fun h => hn0 (limbs_eq_nil.1 h))) (by rw [vla, vlb]; exact hle)
  rw [vla, vlb] at q
  exact q : Calls Tryz.prog 105 #[.slice B lb.length d, .slice A la.length c] m fun e w' => ∃ v, e = .returned v ∧ PL w' m.heap.size v (limbs (nb - na)) ∧ BL m w'))
 have QC := yk (fun (A B : Option Addr) (c d : Nat) (m : World) (ha : kU.C m A la.length la) (hb : kU.C m B lb.length lb) (hc : la.length ≤ c) (hd : lb.length ≤ d) => (by
  have q := pcmp_any la lb A B la.length lb.length c d rfl rfl m ha hb hc hd wla wlb (by omega) (by omega)
  rw [vla, vlb] at q
  exact q : Calls Tryz.prog 104 #[.slice A la.length c, .slice B lb.length d] m fun e w' => e = .returned (.int .i64 (cmpN na nb)) ∧ ∃ n, w' = m.drewN n))
 have QF := yk (fun (b : Bool) (s : Nat) (hs : s ≤ na + nb) (hval : ∃ j : Nat, E = e + j ∧ y + z = sgn b s * 2 ^ j) (A3 : Option Addr) (c3 : Nat) (m : World) (hm : BL w m) (hC3 : kU.C m A3 (limbs s).length (limbs s)) (hc3 : (limbs s).length ≤ c3) => (by
  have q := pform_any b (limbs s) A3 _ c3 E rfl m hC3 hc3 (wf_limbs _) (ls1 s hs) (by omega) (by omega) (tab_below hT hm)
  rw [nv_limbs] at q
  refine q.mono ?_
  rintro en w' ⟨v', rfl, hr, hb⟩
  obtain ⟨j, hj1, hj2⟩ := hval
  rw [hj1] at hr
  have := PDy.scale j hr
  rw [← hj2] at this
  exact ⟨v', rfl, this, hb⟩ : Calls Tryz.prog 102 #[.bool b, .slice A3 (limbs s).length c3, .int .i64 E] m fun en w' => ∃ v', en = .returned v' ∧ PDy w' m.heap.size v' (y + z) e ∧ BL m w'))
 obtain ⟨A, n, c, rfl, hC, hn, hc⟩ := h
 obtain ⟨A', n', c', rfl, hC', hn', hc'⟩ := h'
 obtain ⟨x0, hx0⟩ : ∃ x, x = cexp y e := ⟨_, rfl⟩
 obtain ⟨x1, hx1⟩ : ∃ x, x = cexp z e := ⟨_, rfl⟩
 obtain ⟨b0, hb0⟩ : ∃ x, x = cneg y := ⟨_, rfl⟩
 obtain ⟨b1, hb1⟩ : ∃ x, x = cneg z := ⟨_, rfl⟩
 have HXZ := yk (ya hb0.symm (ya hx0.symm (ya hb1.symm hx1.symm)))
 rw [← hx0, ← hb0] at QO0
 rw [← hx1, ← hb1] at QO1
 rw [← hx0, ← hb0, ← hx1, ← hb1]
 clear hC hC' hx0 hx1 hb0 hb1 hT hE hk0 hk1 hna hnb hla hlb la1 lb1 le1 le2 le1' le2' hl hl' wla wlb vla vlb lla llb bna bnb ls1 hM hE1 hE2
 obtain ⟨W0, hW0⟩ : ∃ W0, W0 = ((w.alloc (.cells #[.bool b0, .slice A n c, .int .i64 x0] 25)).alloc (.cells #[.bool b1, .slice A' n' c', .int .i64 x1] 25)).alloc (.cells #[.bool false, .slice none 0 0, .int .i64 0] 25) := ⟨_, rfl⟩
 have hh0 : Aside0 (W0.heap[w.heap.size]? = some (.cells #[.bool b0, .slice A n c, .int .i64 x0] 25 (0, 0))) := ⟨by rw [hW0]; exact blk_alloc (blk_alloc (blk_new _ _) _) _⟩
 have hh1 : Aside0 (W0.heap[w.heap.size + 1]? = some (.cells #[.bool b1, .slice A' n' c', .int .i64 x1] 25 (0, 0))) := ⟨by rw [hW0]; have := blk_new (w.alloc (.cells #[.bool b0, .slice A n c, .int .i64 x0] 25)) (.cells #[.bool b1, .slice A' n' c', .int .i64 x1] 25); rw [size_alloc'] at this; exact blk_alloc this _⟩
 have hh2 : Aside0 (W0.heap[w.heap.size + 2]? = some (.cells #[.bool false, .slice none 0 0, .int .i64 0] 25 (0, 0))) := ⟨by rw [hW0]; have := blk_new ((w.alloc (.cells #[.bool b0, .slice A n c, .int .i64 x0] 25)).alloc (.cells #[.bool b1, .slice A' n' c', .int .i64 x1] 25)) (.cells #[.bool false, .slice none 0 0, .int .i64 0] 25); rw [size_alloc', size_alloc'] at this; exact this⟩
 have HW : Aside0 (BL w W0 ∧ w.heap.size + 3 ≤ W0.heap.size) := ⟨by rw [hW0]; exact ⟨below_alloc (below_alloc (below_alloc yr _) _) _, by rw [size_alloc', size_alloc', size_alloc']; exact Nat.le_refl _⟩⟩
 go_enter Tryz.func60, Tryz.ntmps60
 go_upto_region 1 with fail
 rw [← hW0]
 clear hW0
 obtain ⟨JO, hJO⟩ : ∃ J : (Nat → Prop) → World → Prop, J = fun L0 W => (BL w W ∧ w.heap.size + 3 ≤ W.heap.size) ∧ W.heap[w.heap.size + 2]? = some (.cells #[.bool false, .slice none 0 0, .int .i64 0] 25 (0, 0)) ∧ (¬ L0 4 → W.heap[w.heap.size]? = some (.cells #[.bool b0, .slice A n c, .int .i64 x0] 25 (0, 0))) ∧ (L0 4 → ∃ A2 n2 c2, W.heap[w.heap.size]? = some (.cells #[.bool b0, .slice A2 n2 c2, .int .i64 x0] 25 (0, 0)) ∧ PL W (w.heap.size + 3) (.slice A2 n2 c2) (limbs (cman y))) ∧ (¬ L0 5 → W.heap[w.heap.size + 1]? = some (.cells #[.bool b1, .slice A' n' c', .int .i64 x1] 25 (0, 0))) ∧ (L0 5 → ∃ A3 n3 c3, W.heap[w.heap.size + 1]? = some (.cells #[.bool b1, .slice A3 n3 c3, .int .i64 x1] 25 (0, 0)) ∧ PL W (w.heap.size + 3) (.slice A3 n3 c3) (limbs (cman z))) := ⟨_, rfl⟩
 refine wp_region_slotsL [8, 9, 10, 11] (by kernel_rfl) (by kernel_rfl)
  (F := fun j q W => match j with | 0 => q = .agg #[.bool b0, .slice A n c, .int .i64 x0] | 1 => PDy W (w.heap.size + 3) q y e | 2 => q = .agg #[.bool b1, .slice A' n' c', .int .i64 x1] | 3 => PDy W (w.heap.size + 3) q z e | _ => True)
  (J := JO) ?h0O ?hstepO ?hendO
 case h0O =>
  rw [hJO]
  have hd := below_drew (Below.refl W0.heap.size W0)
  exact ⟨⟨below_drew HW.out.1, HW.out.2⟩, yb hh2.out hd, fun _ => yb hh0.out hd, fun h => h.elim, fun _ => yb hh1.out hd, fun h => h.elim⟩
 case hstepO =>
  intro k o ho v W L0 hJW hF hnk haft hcl K hK
  rw [hJO] at hJW
  obtain ⟨hBW, hb2, ho4, hn4, ho5, hn5⟩ := hJW
  have HJM := yk (show ∀ (k : Nat) (w4 : World), k ≠ 4 → k ≠ 5 → BL W w4 → JO (fun j => L0 j ∨ j = k) w4 from by
   intro k w4 hk4 hk5 hb
   rw [hJO]
   refine ⟨⟨below_then hBW.1 hBW.1.size hb, Nat.le_trans hBW.2 hb.size⟩, yb hb2 hb, fun h => yb (ho4 (fun h2 => h (.inl h2))) hb, fun h => ?_, fun h => yb (ho5 (fun h2 => h (.inl h2))) hb, fun h => ?_⟩
   · obtain ⟨A2, n2, c2, y1, y2⟩ := hn4 (h.resolve_right (fun e => hk4 e.symm))
     exact ⟨A2, n2, c2, yb y1 hb, y2.below hb⟩
   · obtain ⟨A2, n2, c2, y1, y2⟩ := hn5 (h.resolve_right (fun e => hk5 e.symm))
     exact ⟨A2, n2, c2, yb y1 hb, y2.below hb⟩)
  have HCL := yk hcl
  have HO4 := yk ho4
  have HO5 := yk ho5
  have HN4 := yk hn4
  have HN5 := yk hn5
  clear hcl ho4 ho5 hn4 hn5
  rcases k with _ | _ | _ | _ | _ | _ | k
  all_goals first
   | (cases ho; done)
   | (obtain rfl := (Option.some.inj ho).symm
      clear ho
      rw [if_pos (by rfl)]
      simp only [setAll, List.setIfInBounds_toArray, List.set_cons_zero, List.set_cons_succ, List.getElem_toArray, List.getElem_cons_zero, List.getElem_cons_succ, Nat.reduceAdd] at haft hF hK ⊢)
  ·
   have h4 : ¬ L0 4 := fun h => hnk (HCL.out 4 _ rfl h ⟨0, .phase⟩ (by simp) rfl)
   have hh := HO4.out h4
   have cc0 := (box_cell (v := .bool b0) hh 0 rfl).1
   have cc1 := (box_cell (v := .slice A n c) hh 1 rfl).1
   have cc2 := (box_cell (v := .int .i64 x0) hh 2 rfl).1
   have key := hK.out (.agg #[.bool b0, .slice A n c, .int .i64 x0]) W (HJM.out 0 W (by decide) (by decide) yr) (fun _ _ h => h) rfl
   go_simp
   simpa [upd] using key
  ·
   have f0 : v 0 = .agg #[.bool b0, .slice A n c, .int .i64 x0] := hF 0 (haft ⟨0, .data⟩ (by simp) rfl)
   go_simp
   go_at_call 66
   refine (QO0.out W hBW.1).mono ?_
   rintro en w4 ⟨v1, rfl, hr, hb⟩
   have key := hK.out v1 w4 (HJM.out 1 w4 (by decide) (by decide) hb) ?monoO1 (hr.lower hBW.2)
   · simpa [upd, f0] using key
   intro j hj hf
   rcases j with _ | _ | _ | _ | _ | _ | j <;> first | exact hf | exact PDy.below hf hb
  ·
   have h5 : ¬ L0 5 := fun h => hnk (HCL.out 5 _ rfl h ⟨2, .phase⟩ (by simp) rfl)
   have hh := HO5.out h5
   have cc0 := (box_cell (v := .bool b1) hh 0 rfl).1
   have cc1 := (box_cell (v := .slice A' n' c') hh 1 rfl).1
   have cc2 := (box_cell (v := .int .i64 x1) hh 2 rfl).1
   have key := hK.out (.agg #[.bool b1, .slice A' n' c', .int .i64 x1]) W (HJM.out 2 W (by decide) (by decide) yr) (fun _ _ h => h) rfl
   go_simp
   simpa [upd] using key
  ·
   have f2 : v 2 = .agg #[.bool b1, .slice A' n' c', .int .i64 x1] := hF 2 (haft ⟨2, .data⟩ (by simp) rfl)
   go_simp
   go_at_call 66
   refine (QO1.out W hBW.1).mono ?_
   rintro en w4 ⟨v1, rfl, hr, hb⟩
   have key := hK.out v1 w4 (HJM.out 3 w4 (by decide) (by decide) hb) ?monoO3 (hr.lower hBW.2)
   · simpa [upd, f2] using key
   intro j hj hf
   rcases j with _ | _ | _ | _ | _ | _ | j <;> first | exact hf | exact PDy.below hf hb
  ·
   have fz : PDy W (w.heap.size + 3) (v 1) y e := hF 1 (haft ⟨1, .data⟩ (by simp) rfl)
   obtain ⟨A9, n9, c9, fz2, _⟩ := id fz
   have hxz := HXZ.out
   rw [hxz.1, hxz.2.1] at fz2
   refine wp_store_box 25 2 (.tmp 9) rfl rfl (g := w.heap.size) (e := 25) (v 1) [.bool b0, .slice A9 n9 c9, .int .i64 x0] rfl rfl (by rw [fz2]; rfl) info_dyad ?_ (HO4.out hnk) rfl ?_
   · intro q hq; simp at hq; rcases hq with rfl | rfl | rfl <;> rfl
   · intro w1 hw1 hg1
     have hn9 := fz.grown hg1 (by omega)
     obtain ⟨A4, n4, c4, fz4, hr4⟩ := hn9
     rw [hxz.1, hxz.2.1, fz2] at fz4
     injection fz4 with fz4
     simp at fz4
     obtain ⟨rfl, rfl, rfl⟩ := fz4
     have key := hK.out undef w1 (by rw [hJO]; exact ⟨⟨hBW.1.grown hg1 hBW.1.size (fun k hk => by have := Option.some.inj hk; omega), Nat.le_trans hBW.2 hg1.size⟩, (hg1.block _ (blk_lt hb2) (fun he => by have := Option.some.inj he; omega)).trans hb2, fun h => (h (by simp)).elim, fun _ => ⟨_, _, _, hw1, hr4⟩, fun h => (hg1.block _ (blk_lt (HO5.out (fun h2 => h (.inl h2)))) (fun he => by have := Option.some.inj he; omega)).trans (HO5.out (fun h2 => h (.inl h2))), fun h => (by obtain ⟨Ax, nx, cx, y1, y2⟩ := HN5.out (yx h); exact ⟨Ax, nx, cx, (hg1.block _ (blk_lt y1) (fun he => by have := Option.some.inj he; omega)).trans y1, y2.grown hg1 (by omega)⟩)⟩) ?mstO4 trivial
     · simpa [upd] using key
     intro j hj hf
     rcases j with _ | _ | _ | _ | _ | _ | j <;> first | exact hf | exact PDy.grown hf hg1 (by omega)
  ·
   have fz : PDy W (w.heap.size + 3) (v 3) z e := hF 3 (haft ⟨3, .data⟩ (by simp) rfl)
   obtain ⟨A9, n9, c9, fz2, _⟩ := id fz
   have hxz := HXZ.out
   rw [hxz.2.2.1, hxz.2.2.2] at fz2
   refine wp_store_box 25 3 (.tmp 11) rfl rfl (g := w.heap.size + 1) (e := 25) (v 3) [.bool b1, .slice A9 n9 c9, .int .i64 x1] rfl rfl (by rw [fz2]; rfl) info_dyad ?_ (HO5.out hnk) rfl ?_
   · intro q hq; simp at hq; rcases hq with rfl | rfl | rfl <;> rfl
   · intro w1 hw1 hg1
     have hn9 := fz.grown hg1 (by omega)
     obtain ⟨A4, n4, c4, fz4, hr4⟩ := hn9
     rw [hxz.2.2.1, hxz.2.2.2, fz2] at fz4
     injection fz4 with fz4
     simp at fz4
     obtain ⟨rfl, rfl, rfl⟩ := fz4
     have key := hK.out undef w1 (by rw [hJO]; exact ⟨⟨hBW.1.grown hg1 hBW.1.size (fun k hk => by have := Option.some.inj hk; omega), Nat.le_trans hBW.2 hg1.size⟩, (hg1.block _ (blk_lt hb2) (fun he => by have := Option.some.inj he; omega)).trans hb2, fun h => (hg1.block _ (blk_lt (HO4.out (fun h2 => h (.inl h2)))) (fun he => by have := Option.some.inj he; omega)).trans (HO4.out (fun h2 => h (.inl h2))), fun h => (by obtain ⟨Ax, nx, cx, y1, y2⟩ := HN4.out (yx h); exact ⟨Ax, nx, cx, (hg1.block _ (blk_lt y1) (fun he => by have := Option.some.inj he; omega)).trans y1, y2.grown hg1 (by omega)⟩), fun h => (h (by simp)).elim, fun _ => ⟨_, _, _, hw1, hr4⟩⟩) ?mstO5 trivial
     · simpa [upd] using key
     intro j hj hf
     rcases j with _ | _ | _ | _ | _ | _ | j <;> first | exact hf | exact PDy.grown hf hg1 (by omega)
 case hendO =>
  intro v1 W1 L1 hall hJW hF
  rw [hJO] at hJW
  obtain ⟨hB1, hbx2, _, hn4, _, hn5⟩ := hJW
  obtain ⟨A2, n2, c2, hbx0, hP0⟩ := hn4 (hall 4 (by decide))
  obtain ⟨A3, n3, c3, hbx1, hP1⟩ := hn5 (hall 5 (by decide))
  have HB1 := yk hB1
  have HX0 := yk hbx0
  have HX1 := yk hbx1
  have HX2 := yk hbx2
  have HD0 := yk (show PDy W1 (w.heap.size + 3) (.agg #[.bool b0, .slice A2 n2 c2, .int .i64 x0]) y e from ⟨A2, n2, c2, by rw [HXZ.out.1, HXZ.out.2.1], hP0⟩)
  have HD1 := yk (show PDy W1 (w.heap.size + 3) (.agg #[.bool b1, .slice A3 n3 c3, .int .i64 x1]) z e from ⟨A3, n3, c3, by rw [HXZ.out.2.2.1, HXZ.out.2.2.2], hP1⟩)
  obtain ⟨q00, _⟩ := box_cell (v := .bool b0) hbx0 0 rfl
  obtain ⟨q01, _⟩ := box_cell (v := .slice A2 n2 c2) hbx0 1 rfl
  obtain ⟨q02, _⟩ := box_cell (v := .int .i64 x0) hbx0 2 rfl
  obtain ⟨q10, _⟩ := box_cell (v := .bool b1) hbx1 0 rfl
  obtain ⟨q11, _⟩ := box_cell (v := .slice A3 n3 c3) hbx1 1 rfl
  obtain ⟨q12, _⟩ := box_cell (v := .int .i64 x1) hbx1 2 rfl
  clear hF hall hB1 hJO hn4 hn5 hbx0 hbx1 hbx2 hP0 hP1
  simp only [setAll, List.setIfInBounds_toArray, List.set_cons_zero, List.set_cons_succ, Nat.reduceAdd]
  have ZERO0 := yk (QZ0.out _ W1 HD0.out.c)
  by_cases hy : y = 0
  · rw [decide_eq_true hy] at ZERO0
    go_upto_region 3 with (go_at_call 79; refine ZERO0.out.mono ?_; rintro e2 W2 ⟨rfl, hb⟩; have r10 := (box_cell (v := .bool b1) (yb HX1.out hb) 0 rfl).1; have r11 := (box_cell (v := .slice A3 n3 c3) (yb HX1.out hb) 1 rfl).1; have r12 := (box_cell (v := .int .i64 x1) (yb HX1.out hb) 2 rfl).1; have HB2 := yk hb; clear hb)
    have HR2 := yk (yb HX2.out HB2.out)
    go_wp2_with ((with_reducible refine gate_store (p := 4) rfl ?_); go_must (refine sdy 4 (.tmp 15) rfl rfl rfl rfl rfl HR2.out rfl ?_; intro wb HX HG))
    refine bodyPost_ret (results_dyad rfl _ _ (w.heap.size + 1 + 1) _ rfl HX.out rfl) rfl ?_
    have hb2 := below_then HB1.out.1 HB1.out.1.size HB2.out
    refine ⟨_, rfl, ?_, hb2.grown HG.out hb2.size (fun k hk => by cases hk; omega)⟩
    rw [hy, Int.zero_add]
    exact ((HD1.out.below HB2.out).grown HG.out (by omega)).lower (by omega)
  rw [decide_eq_false hy] at ZERO0
  go_upto_region 4 with (go_at_call 79; refine ZERO0.out.mono ?_; rintro e2 W2 ⟨rfl, hb⟩; have r10 := (box_cell (v := .bool b1) (yb HX1.out hb) 0 rfl).1; have r11 := (box_cell (v := .slice A3 n3 c3) (yb HX1.out hb) 1 rfl).1; have r12 := (box_cell (v := .int .i64 x1) (yb HX1.out hb) 2 rfl).1; have HB2 := yk hb; clear hb)
  have ZERO1 := yk (QZ1.out _ W2 (HD1.out.below HB2.out).c)
  by_cases hz : z = 0
  · rw [decide_eq_true hz] at ZERO1
    go_upto_region 5 with (go_at_call 79; refine ZERO1.out.mono ?_; rintro e3 W3 ⟨rfl, hb⟩; have HB3 := yk (below_then HB2.out HB2.out.size hb); clear hb)
    have s00 := (box_cell (v := .bool b0) (yb HX0.out HB3.out) 0 rfl).1
    have s01 := (box_cell (v := .slice A2 n2 c2) (yb HX0.out HB3.out) 1 rfl).1
    have s02 := (box_cell (v := .int .i64 x0) (yb HX0.out HB3.out) 2 rfl).1
    have HR3 := yk (yb HX2.out HB3.out)
    go_wp2_with ((with_reducible refine gate_store (p := 4) rfl ?_); go_must (refine sdy 4 (.tmp 19) rfl rfl rfl rfl rfl HR3.out rfl ?_; intro wb HX HG))
    refine bodyPost_ret (results_dyad rfl _ _ (w.heap.size + 1 + 1) _ rfl HX.out rfl) rfl ?_
    have hb2 := below_then HB1.out.1 HB1.out.1.size HB3.out
    refine ⟨_, rfl, ?_, hb2.grown HG.out hb2.size (fun k hk => by cases hk; omega)⟩
    rw [hz, Int.add_zero]
    exact ((HD0.out.below HB3.out).grown HG.out (by omega)).lower (by omega)
  rw [decide_eq_false hz] at ZERO1
  go_upto_region 6 with (go_at_call 79; refine ZERO1.out.mono ?_; rintro e3 W3 ⟨rfl, hb⟩; have HB3 := yk (below_then HB2.out HB2.out.size hb); clear hb)
  have s00 := (box_cell (v := .bool b0) (yb HX0.out HB3.out) 0 rfl).1
  have s01 := (box_cell (v := .slice A2 n2 c2) (yb HX0.out HB3.out) 1 rfl).1
  have s02 := (box_cell (v := .int .i64 x0) (yb HX0.out HB3.out) 2 rfl).1
  have s10 := (box_cell (v := .bool b1) (yb HX1.out HB3.out) 0 rfl).1
  have s11 := (box_cell (v := .slice A3 n3 c3) (yb HX1.out HB3.out) 1 rfl).1
  have s12 := (box_cell (v := .int .i64 x1) (yb HX1.out HB3.out) 2 rfl).1
  go_upto_region 7 with (go_at_call 101; refine (QAM.out _ _ _ (HD0.out.below HB3.out).c (HD1.out.below HB3.out).c).mono ?_; rintro e4 W4 ⟨p, q, rfl, g1, g2, hb⟩; obtain ⟨Pa, ca, rfl, _, _⟩ := g1.c; obtain ⟨Pb, cb, rfl, _, _⟩ := g2.c; have HB34 := yk hb; have HG1 := yk g1; have HG2 := yk g2; clear hb g1 g2)
  have hsz3 : w.heap.size + 3 ≤ W3.heap.size := Nat.le_trans HB1.out.2 HB3.out.size
  have HPA := yk (HG1.out.lower hsz3)
  have HPB := yk (HG2.out.lower hsz3)
  have HB14 := yk (below_then HB3.out HB3.out.size HB34.out)
  have HB4 := yk (show BL w W4 ∧ w.heap.size + 3 ≤ W4.heap.size from ⟨below_then HB1.out.1 HB1.out.1.size HB14.out, Nat.le_trans hsz3 HB34.out.size⟩)
  have HY0 := yk (yb HX0.out HB14.out)
  have HY1 := yk (yb HX1.out HB14.out)
  have HY2 := yk (yb HX2.out HB14.out)
  have t00 := (box_cell (v := .bool b0) HY0.out 0 rfl).1
  have t10 := (box_cell (v := .bool b1) HY1.out 0 rfl).1
  obtain ⟨j, hjE, hyv, hzv⟩ := HFM.out hy hz
  have HYV := yk hyv
  have HZV := yk hzv
  have HJE := yk hjE
  have hna0 := yk (HNZ.out hy)
  have hnb0 := yk (HNZ2.out hz)
  have HYNE := yk hy
  clear hyv hzv hjE hy hz hsz3
  by_cases hs : b0 = b1
  · have hse : (b0 == b1) = true := by simp [hs]
    have HVAL := yk (show ∃ j : Nat, E = e + j ∧ y + z = sgn b0 (na + nb) * 2 ^ j from ⟨j, HJE.out, by
     rw [sgn_add, Int.add_mul]
     have q1 := HYV.out
     have q2 := HZV.out
     rw [HXZ.out.1] at q1
     rw [HXZ.out.2.2.1, ← hs] at q2
     rw [← q1, ← q2]⟩)
    clear hs
    go_upto_region 8 with fail
    obtain ⟨JX, hJX⟩ : ∃ J : (Nat → Prop) → World → Prop, J = fun L0 W => (BL w W ∧ w.heap.size + 3 ≤ W.heap.size) ∧ W.heap[w.heap.size]? = some (.cells #[.bool b0, .slice A2 n2 c2, .int .i64 x0] 25 (0, 0)) ∧ W.heap[w.heap.size + 1]? = some (.cells #[.bool b1, .slice A3 n3 c3, .int .i64 x1] 25 (0, 0)) ∧ PL W (w.heap.size + 3) (.slice Pa la.length ca) la ∧ PL W (w.heap.size + 3) (.slice Pb lb.length cb) lb ∧ (¬ L0 7 → W.heap[w.heap.size + 2]? = some (.cells #[.bool false, .slice none 0 0, .int .i64 0] 25 (0, 0))) ∧ (L0 7 → ∃ A2 n2 c2, W.heap[w.heap.size + 2]? = some (.cells #[.bool (cneg (y + z)), .slice A2 n2 c2, .int .i64 (cexp (y + z) (e))] 25 (0, 0)) ∧ PL W (w.heap.size + 3) (.slice A2 n2 c2) (limbs (cman (y + z)))) := ⟨_, rfl⟩
    refine wp_region_slotsL [32, 33, 34, 35, 36, 37, 38] (by kernel_rfl) (by kernel_rfl)
     (F := fun j q W => match j with | 0 => q = .pointer (some ⟨w.heap.size, 0, none⟩) | 1 => q = .bool b0 | 2 => q = .slice Pa la.length ca | 3 => q = .slice Pb lb.length cb | 4 => PL W (w.heap.size + 3) q (limbs (na + nb)) | 5 => q = .int .i64 E | 6 => PDy W (w.heap.size + 3) q (y + z) e | 7 => True | _ => True)
     (J := JX) ?h0X ?hstepX ?hendX
    case h0X =>
     rw [hJX]
     have hd := below_drew (Below.refl W4.heap.size W4)
     exact ⟨⟨below_then HB4.out.1 HB4.out.1.size hd, Nat.le_trans HB4.out.2 hd.size⟩, yb HY0.out hd, yb HY1.out hd, HPA.out.below hd, HPB.out.below hd, fun _ => yb HY2.out hd, fun h => h.elim⟩
    case hstepX =>
     intro k o ho v W L0 hJW hF hnk haft hcl K hK
     rw [hJX] at hJW
     obtain ⟨hBW, hb0, hb1, hx0, hx1, hold, hnew⟩ := hJW
     have hJM : ∀ (k : Nat) (w4 : World), k ≠ 7 → BL W w4 → JX (fun j => L0 j ∨ j = k) w4 := by
      intro k w4 hkK hb
      rw [hJX]
      refine ⟨⟨below_then hBW.1 hBW.1.size hb, Nat.le_trans hBW.2 hb.size⟩, yb hb0 hb, yb hb1 hb, hx0.below hb, hx1.below hb, fun h => yb (hold (fun h2 => h (.inl h2))) hb, fun h => ?_⟩
      obtain ⟨A2, n2, c2, y1, y2⟩ := hnew (h.resolve_right (fun e => hkK e.symm))
      exact ⟨A2, n2, c2, yb y1 hb, y2.below hb⟩
     have HJM := yk hJM
     have HOLD := yk hold
     clear hold hnew
     clear hJM hcl
     rcases k with _ | _ | _ | _ | _ | _ | _ | _ | k
     all_goals first
      | (cases ho; done)
      | (obtain rfl := (Option.some.inj ho).symm
         clear ho
         rw [if_pos (by rfl)]
         simp only [setAll, List.setIfInBounds_toArray, List.set_cons_zero, List.set_cons_succ, List.getElem_toArray, List.getElem_cons_zero, List.getElem_cons_succ, Nat.reduceAdd] at haft hF hK ⊢)
     ·
      have key := hK.out (.pointer (some ⟨w.heap.size, 0, none⟩)) W (HJM.out 0 W (by decide) yr) (fun _ _ h => h) rfl
      go_simp
      simpa [upd] using key
     ·
      have f0 : v 0 = .pointer (some ⟨w.heap.size, 0, none⟩) := hF 0 (haft ⟨0, .data⟩ (by simp) rfl)
      have cc := (box_cell (v := .bool b0) hb0 0 rfl).1
      have key := hK.out (.bool b0) W (HJM.out 1 W (by decide) yr) (fun _ _ h => h) rfl
      go_simp
      simpa [upd, f0] using key
     ·
      have key := hK.out (.slice Pa la.length ca) W (HJM.out 2 W (by decide) yr) (fun _ _ h => h) rfl
      go_simp
      simpa [upd] using key
     ·
      have key := hK.out (.slice Pb lb.length cb) W (HJM.out 3 W (by decide) yr) (fun _ _ h => h) rfl
      go_simp
      simpa [upd] using key
     ·
      have f2 : v 2 = .slice Pa la.length ca := hF 2 (haft ⟨2, .data⟩ (by simp) rfl)
      have f3 : v 3 = .slice Pb lb.length cb := hF 3 (haft ⟨3, .data⟩ (by simp) rfl)
      go_simp
      go_at_call 103
      refine (QADD.out Pa Pb ca cb W hx0.cc.1 hx1.cc.1 hx0.cc.2 hx1.cc.2).mono ?_
      rintro en w4 ⟨v1, rfl, hr, hb⟩
      have key := hK.out (v1) w4 (HJM.out 4 w4 (by decide) hb) ?monoX_4 (hr.lower hBW.2)
      · simpa [upd, f2, f3] using key
      intro j hj hf
      rcases j with _ | _ | _ | _ | _ | _ | _ | _ | j <;> first | exact hf | exact PDy.below hf hb | exact PL.below hf hb | exact Two.below hf hb | exact RDy.below hf hb
     ·
      have key := hK.out (.int .i64 E) W (HJM.out 5 W (by decide) yr) (fun _ _ h => h) rfl
      go_simp
      simpa [upd] using key
     ·
      have f1 : v 1 = .bool b0 := hF 1 (haft ⟨1, .data⟩ (by simp) rfl)
      have f4 : PL W (w.heap.size + 3) (v 4) (limbs (na + nb)) := hF 4 (haft ⟨4, .data⟩ (by simp) rfl)
      have f5 : v 5 = .int .i64 E := hF 5 (haft ⟨5, .data⟩ (by simp) rfl)
      obtain ⟨A8, c8, f4v, hc8, hC8⟩ := f4.c
      have hm := QF.out b0 (na + nb) (Nat.le_refl _) HVAL.out A8 c8 W hBW.1 hC8 hc8
      go_simp
      go_at_call 102
      refine hm.mono ?_
      rintro en w4 ⟨v1, rfl, hr, hb⟩
      have key := hK.out (v1) w4 (HJM.out 6 w4 (by decide) hb) ?monoX_6 (hr.lower hBW.2)
      · simpa [upd, f1, f5, f4v] using key
      intro j hj hf
      rcases j with _ | _ | _ | _ | _ | _ | _ | _ | j <;> first | exact hf | exact PDy.below hf hb | exact PL.below hf hb | exact Two.below hf hb | exact RDy.below hf hb
     ·
      have fz : PDy W (w.heap.size + 3) (v 6) (y + z) (e) := hF 6 (haft ⟨6, .data⟩ (by simp) rfl)
      obtain ⟨A3, n3, c3, fz2, _⟩ := id fz
      refine wp_store_box 25 4 (.tmp 38) rfl rfl (g := w.heap.size + 2) (e := 25) (v 6) [.bool (cneg (y + z)), .slice A3 n3 c3, .int .i64 (cexp (y + z) (e))] rfl rfl (by rw [fz2]; rfl) info_dyad ?_ (HOLD.out hnk) rfl ?_
      · intro q hq; simp at hq; rcases hq with rfl | rfl | rfl <;> rfl
      · intro w1 hw1 hg1
        have hn2 := fz.grown hg1 (by omega)
        obtain ⟨A4, n4, c4, fz4, hr4⟩ := hn2
        rw [fz2] at fz4
        injection fz4 with fz4
        simp at fz4
        obtain ⟨rfl, rfl, rfl⟩ := fz4
        have key := hK.out undef w1 (by rw [hJX]; exact ⟨⟨hBW.1.grown hg1 hBW.1.size (fun k hk => by have := Option.some.inj hk; omega), Nat.le_trans hBW.2 hg1.size⟩, (hg1.block _ (blk_lt hb0) (fun he => by have := Option.some.inj he; omega)).trans hb0, (hg1.block _ (blk_lt hb1) (fun he => by have := Option.some.inj he; omega)).trans hb1, hx0.grown hg1 (by omega), hx1.grown hg1 (by omega), fun h => (h (by simp)).elim, fun _ => ⟨_, _, _, hw1, hr4⟩⟩) ?mstX trivial
        · simpa [upd] using key
        intro j hj hf
        rcases j with _ | _ | _ | _ | _ | _ | _ | _ | j <;> first | exact hf | exact PDy.grown hf hg1 (by omega) | exact PL.grown hf hg1 (by omega)
    case hendX =>
     intro v W L0 hall hJW hF
     rw [hJX] at hJW
     obtain ⟨hBW, _, _, _, _, _, hnew⟩ := hJW
     obtain ⟨A7, n7, c7, p1, p2⟩ := hnew (hall 7 (by decide))
     have P1 := yk p1
     have P2 := yk (p2.lower (b' := w.heap.size) (by omega))
     have BF := yk hBW.1
     clear hF hall hnew p1 p2 hBW
     simp only [setAll, List.setIfInBounds_toArray, List.set_cons_zero, List.set_cons_succ, Nat.reduceAdd]
     go_wp2
     refine bodyPost_ret (results_dyad rfl _ _ (w.heap.size + 1 + 1) _ rfl P1.out rfl) rfl ?_
     exact ⟨_, rfl, ⟨A7, n7, c7, rfl, P2.out⟩, BF.out⟩
  · have hse : (b0 == b1) = false := by simpa using hs
    go_upto_region 9 with fail
    have HCC := yk (QC.out Pa Pb ca cb W4 HPA.out.cc.1 HPB.out.cc.1 HPA.out.cc.2 HPB.out.cc.2)
    by_cases hle : nb ≤ na
    · have hge : decide ((0 : Int) ≤ cmpN na nb) = true := decide_eq_true (by unfold cmpN; rw [if_neg (by omega)]; split <;> decide)
      have HVAL := yk (show ∃ j : Nat, E = e + j ∧ y + z = sgn b0 (na - nb) * 2 ^ j from ⟨j, HJE.out, by
       rw [sgn_sub hs hle, Int.add_mul]
       have q1 := HYV.out
       have q2 := HZV.out
       rw [HXZ.out.1] at q1
       rw [HXZ.out.2.2.1] at q2
       rw [← q1, ← q2]⟩)
      obtain ⟨cc, hcc⟩ : ∃ c, c = cmpN na nb := ⟨_, rfl⟩
      rw [← hcc] at hge HCC
      have HLE := yk hle
      clear hs hle hcc
      go_upto_region 10 with (go_at_call 104; refine HCC.out.mono ?_; rintro e5 w5 ⟨rfl, n5, rfl⟩)
      obtain ⟨JY, hJY⟩ : ∃ J : (Nat → Prop) → World → Prop, J = fun L0 W => (BL w W ∧ w.heap.size + 3 ≤ W.heap.size) ∧ W.heap[w.heap.size]? = some (.cells #[.bool b0, .slice A2 n2 c2, .int .i64 x0] 25 (0, 0)) ∧ W.heap[w.heap.size + 1]? = some (.cells #[.bool b1, .slice A3 n3 c3, .int .i64 x1] 25 (0, 0)) ∧ PL W (w.heap.size + 3) (.slice Pa la.length ca) la ∧ PL W (w.heap.size + 3) (.slice Pb lb.length cb) lb ∧ (¬ L0 7 → W.heap[w.heap.size + 2]? = some (.cells #[.bool false, .slice none 0 0, .int .i64 0] 25 (0, 0))) ∧ (L0 7 → ∃ A2 n2 c2, W.heap[w.heap.size + 2]? = some (.cells #[.bool (cneg (y + z)), .slice A2 n2 c2, .int .i64 (cexp (y + z) (e))] 25 (0, 0)) ∧ PL W (w.heap.size + 3) (.slice A2 n2 c2) (limbs (cman (y + z)))) := ⟨_, rfl⟩
      refine wp_region_slotsL [43, 44, 45, 46, 47, 48, 49] (by kernel_rfl) (by kernel_rfl)
       (F := fun j q W => match j with | 0 => q = .pointer (some ⟨w.heap.size, 0, none⟩) | 1 => q = .bool b0 | 2 => q = .slice Pa la.length ca | 3 => q = .slice Pb lb.length cb | 4 => PL W (w.heap.size + 3) q (limbs (na - nb)) | 5 => q = .int .i64 E | 6 => PDy W (w.heap.size + 3) q (y + z) e | 7 => True | _ => True)
       (J := JY) ?h0Y ?hstepY ?hendY
      case h0Y =>
       rw [hJY]
       have hd := below_drew (pw_below_drewN (Below.refl W4.heap.size W4) n5)
       exact ⟨⟨below_then HB4.out.1 HB4.out.1.size hd, Nat.le_trans HB4.out.2 hd.size⟩, yb HY0.out hd, yb HY1.out hd, HPA.out.below hd, HPB.out.below hd, fun _ => yb HY2.out hd, fun h => h.elim⟩
      case hstepY =>
       intro k o ho v W L0 hJW hF hnk haft hcl K hK
       rw [hJY] at hJW
       obtain ⟨hBW, hb0, hb1, hx0, hx1, hold, hnew⟩ := hJW
       have hJM : ∀ (k : Nat) (w4 : World), k ≠ 7 → BL W w4 → JY (fun j => L0 j ∨ j = k) w4 := by
        intro k w4 hkK hb
        rw [hJY]
        refine ⟨⟨below_then hBW.1 hBW.1.size hb, Nat.le_trans hBW.2 hb.size⟩, yb hb0 hb, yb hb1 hb, hx0.below hb, hx1.below hb, fun h => yb (hold (fun h2 => h (.inl h2))) hb, fun h => ?_⟩
        obtain ⟨A2, n2, c2, y1, y2⟩ := hnew (h.resolve_right (fun e => hkK e.symm))
        exact ⟨A2, n2, c2, yb y1 hb, y2.below hb⟩
       have HJM := yk hJM
       have HOLD := yk hold
       clear hold hnew
       clear hJM hcl
       rcases k with _ | _ | _ | _ | _ | _ | _ | _ | k
       all_goals first
        | (cases ho; done)
        | (obtain rfl := (Option.some.inj ho).symm
           clear ho
           rw [if_pos (by rfl)]
           simp only [setAll, List.setIfInBounds_toArray, List.set_cons_zero, List.set_cons_succ, List.getElem_toArray, List.getElem_cons_zero, List.getElem_cons_succ, Nat.reduceAdd] at haft hF hK ⊢)
       ·
        have key := hK.out (.pointer (some ⟨w.heap.size, 0, none⟩)) W (HJM.out 0 W (by decide) yr) (fun _ _ h => h) rfl
        go_simp
        simpa [upd] using key
       ·
        have f0 : v 0 = .pointer (some ⟨w.heap.size, 0, none⟩) := hF 0 (haft ⟨0, .data⟩ (by simp) rfl)
        have cc := (box_cell (v := .bool b0) hb0 0 rfl).1
        have key := hK.out (.bool b0) W (HJM.out 1 W (by decide) yr) (fun _ _ h => h) rfl
        go_simp
        simpa [upd, f0] using key
       ·
        have key := hK.out (.slice Pa la.length ca) W (HJM.out 2 W (by decide) yr) (fun _ _ h => h) rfl
        go_simp
        simpa [upd] using key
       ·
        have key := hK.out (.slice Pb lb.length cb) W (HJM.out 3 W (by decide) yr) (fun _ _ h => h) rfl
        go_simp
        simpa [upd] using key
       ·
        have f2 : v 2 = .slice Pa la.length ca := hF 2 (haft ⟨2, .data⟩ (by simp) rfl)
        have f3 : v 3 = .slice Pb lb.length cb := hF 3 (haft ⟨3, .data⟩ (by simp) rfl)
        go_simp
        go_at_call 105
        refine (QS1.out HLE.out hna0.out Pa Pb ca cb W hx0.cc.1 hx1.cc.1 hx0.cc.2 hx1.cc.2).mono ?_
        rintro en w4 ⟨v1, rfl, hr, hb⟩
        have key := hK.out (v1) w4 (HJM.out 4 w4 (by decide) hb) ?monoY_4 (hr.lower hBW.2)
        · simpa [upd, f2, f3] using key
        intro j hj hf
        rcases j with _ | _ | _ | _ | _ | _ | _ | _ | j <;> first | exact hf | exact PDy.below hf hb | exact PL.below hf hb | exact Two.below hf hb | exact RDy.below hf hb
       ·
        have key := hK.out (.int .i64 E) W (HJM.out 5 W (by decide) yr) (fun _ _ h => h) rfl
        go_simp
        simpa [upd] using key
       ·
        have f1 : v 1 = .bool b0 := hF 1 (haft ⟨1, .data⟩ (by simp) rfl)
        have f4 : PL W (w.heap.size + 3) (v 4) (limbs (na - nb)) := hF 4 (haft ⟨4, .data⟩ (by simp) rfl)
        have f5 : v 5 = .int .i64 E := hF 5 (haft ⟨5, .data⟩ (by simp) rfl)
        obtain ⟨A8, c8, f4v, hc8, hC8⟩ := f4.c
        have hm := QF.out b0 (na - nb) (Nat.le_trans (Nat.sub_le _ _) (Nat.le_add_right _ _)) HVAL.out A8 c8 W hBW.1 hC8 hc8
        go_simp
        go_at_call 102
        refine hm.mono ?_
        rintro en w4 ⟨v1, rfl, hr, hb⟩
        have key := hK.out (v1) w4 (HJM.out 6 w4 (by decide) hb) ?monoY_6 (hr.lower hBW.2)
        · simpa [upd, f1, f5, f4v] using key
        intro j hj hf
        rcases j with _ | _ | _ | _ | _ | _ | _ | _ | j <;> first | exact hf | exact PDy.below hf hb | exact PL.below hf hb | exact Two.below hf hb | exact RDy.below hf hb
       ·
        have fz : PDy W (w.heap.size + 3) (v 6) (y + z) (e) := hF 6 (haft ⟨6, .data⟩ (by simp) rfl)
        obtain ⟨A3, n3, c3, fz2, _⟩ := id fz
        refine wp_store_box 25 4 (.tmp 49) rfl rfl (g := w.heap.size + 2) (e := 25) (v 6) [.bool (cneg (y + z)), .slice A3 n3 c3, .int .i64 (cexp (y + z) (e))] rfl rfl (by rw [fz2]; rfl) info_dyad ?_ (HOLD.out hnk) rfl ?_
        · intro q hq; simp at hq; rcases hq with rfl | rfl | rfl <;> rfl
        · intro w1 hw1 hg1
          have hn2 := fz.grown hg1 (by omega)
          obtain ⟨A4, n4, c4, fz4, hr4⟩ := hn2
          rw [fz2] at fz4
          injection fz4 with fz4
          simp at fz4
          obtain ⟨rfl, rfl, rfl⟩ := fz4
          have key := hK.out undef w1 (by rw [hJY]; exact ⟨⟨hBW.1.grown hg1 hBW.1.size (fun k hk => by have := Option.some.inj hk; omega), Nat.le_trans hBW.2 hg1.size⟩, (hg1.block _ (blk_lt hb0) (fun he => by have := Option.some.inj he; omega)).trans hb0, (hg1.block _ (blk_lt hb1) (fun he => by have := Option.some.inj he; omega)).trans hb1, hx0.grown hg1 (by omega), hx1.grown hg1 (by omega), fun h => (h (by simp)).elim, fun _ => ⟨_, _, _, hw1, hr4⟩⟩) ?mstY trivial
          · simpa [upd] using key
          intro j hj hf
          rcases j with _ | _ | _ | _ | _ | _ | _ | _ | j <;> first | exact hf | exact PDy.grown hf hg1 (by omega) | exact PL.grown hf hg1 (by omega)
      case hendY =>
       intro v W L0 hall hJW hF
       rw [hJY] at hJW
       obtain ⟨hBW, _, _, _, _, _, hnew⟩ := hJW
       obtain ⟨A7, n7, c7, p1, p2⟩ := hnew (hall 7 (by decide))
       have P1 := yk p1
       have P2 := yk (p2.lower (b' := w.heap.size) (by omega))
       have BF := yk hBW.1
       clear hF hall hnew p1 p2 hBW
       simp only [setAll, List.setIfInBounds_toArray, List.set_cons_zero, List.set_cons_succ, Nat.reduceAdd]
       go_wp2
       refine bodyPost_ret (results_dyad rfl _ _ (w.heap.size + 1 + 1) _ rfl P1.out rfl) rfl ?_
       exact ⟨_, rfl, ⟨A7, n7, c7, rfl, P2.out⟩, BF.out⟩
    · have hge : decide ((0 : Int) ≤ cmpN na nb) = false := decide_eq_false (by unfold cmpN; rw [if_pos (by omega)]; decide)
      have HVAL := yk (show ∃ j : Nat, E = e + j ∧ y + z = sgn b1 (nb - na) * 2 ^ j from ⟨j, HJE.out, by
       rw [sgn_sub (Ne.symm hs) (show na ≤ nb by omega), Int.add_mul]
       have q1 := HYV.out
       have q2 := HZV.out
       rw [HXZ.out.1] at q1
       rw [HXZ.out.2.2.1] at q2
       rw [← q1, ← q2, Int.add_comm]⟩)
      obtain ⟨cc, hcc⟩ : ∃ c, c = cmpN na nb := ⟨_, rfl⟩
      rw [← hcc] at hge HCC
      have HLE := yk (show na ≤ nb by omega)
      clear hs hle hcc
      go_upto_region 11 with (go_at_call 104; refine HCC.out.mono ?_; rintro e5 w5 ⟨rfl, n5, rfl⟩)
      obtain ⟨JZ, hJZ⟩ : ∃ J : (Nat → Prop) → World → Prop, J = fun L0 W => (BL w W ∧ w.heap.size + 3 ≤ W.heap.size) ∧ W.heap[w.heap.size]? = some (.cells #[.bool b0, .slice A2 n2 c2, .int .i64 x0] 25 (0, 0)) ∧ W.heap[w.heap.size + 1]? = some (.cells #[.bool b1, .slice A3 n3 c3, .int .i64 x1] 25 (0, 0)) ∧ PL W (w.heap.size + 3) (.slice Pa la.length ca) la ∧ PL W (w.heap.size + 3) (.slice Pb lb.length cb) lb ∧ (¬ L0 7 → W.heap[w.heap.size + 2]? = some (.cells #[.bool false, .slice none 0 0, .int .i64 0] 25 (0, 0))) ∧ (L0 7 → ∃ A2 n2 c2, W.heap[w.heap.size + 2]? = some (.cells #[.bool (cneg (y + z)), .slice A2 n2 c2, .int .i64 (cexp (y + z) (e))] 25 (0, 0)) ∧ PL W (w.heap.size + 3) (.slice A2 n2 c2) (limbs (cman (y + z)))) := ⟨_, rfl⟩
      refine wp_region_slotsL [50, 51, 52, 53, 54, 55, 56] (by kernel_rfl) (by kernel_rfl)
       (F := fun j q W => match j with | 0 => q = .pointer (some ⟨w.heap.size + 1, 0, none⟩) | 1 => q = .bool b1 | 2 => q = .slice Pb lb.length cb | 3 => q = .slice Pa la.length ca | 4 => PL W (w.heap.size + 3) q (limbs (nb - na)) | 5 => q = .int .i64 E | 6 => PDy W (w.heap.size + 3) q (y + z) e | 7 => True | _ => True)
       (J := JZ) ?h0Z ?hstepZ ?hendZ
      case h0Z =>
       rw [hJZ]
       have hd := below_drew (pw_below_drewN (Below.refl W4.heap.size W4) n5)
       exact ⟨⟨below_then HB4.out.1 HB4.out.1.size hd, Nat.le_trans HB4.out.2 hd.size⟩, yb HY0.out hd, yb HY1.out hd, HPA.out.below hd, HPB.out.below hd, fun _ => yb HY2.out hd, fun h => h.elim⟩
      case hstepZ =>
       intro k o ho v W L0 hJW hF hnk haft hcl K hK
       rw [hJZ] at hJW
       obtain ⟨hBW, hb0, hb1, hx0, hx1, hold, hnew⟩ := hJW
       have hJM : ∀ (k : Nat) (w4 : World), k ≠ 7 → BL W w4 → JZ (fun j => L0 j ∨ j = k) w4 := by
        intro k w4 hkK hb
        rw [hJZ]
        refine ⟨⟨below_then hBW.1 hBW.1.size hb, Nat.le_trans hBW.2 hb.size⟩, yb hb0 hb, yb hb1 hb, hx0.below hb, hx1.below hb, fun h => yb (hold (fun h2 => h (.inl h2))) hb, fun h => ?_⟩
        obtain ⟨A2, n2, c2, y1, y2⟩ := hnew (h.resolve_right (fun e => hkK e.symm))
        exact ⟨A2, n2, c2, yb y1 hb, y2.below hb⟩
       have HJM := yk hJM
       have HOLD := yk hold
       clear hold hnew
       clear hJM hcl
       rcases k with _ | _ | _ | _ | _ | _ | _ | _ | k
       all_goals first
        | (cases ho; done)
        | (obtain rfl := (Option.some.inj ho).symm
           clear ho
           rw [if_pos (by rfl)]
           simp only [setAll, List.setIfInBounds_toArray, List.set_cons_zero, List.set_cons_succ, List.getElem_toArray, List.getElem_cons_zero, List.getElem_cons_succ, Nat.reduceAdd] at haft hF hK ⊢)
       ·
        have key := hK.out (.pointer (some ⟨w.heap.size + 1, 0, none⟩)) W (HJM.out 0 W (by decide) yr) (fun _ _ h => h) rfl
        go_simp
        simpa [upd] using key
       ·
        have f0 : v 0 = .pointer (some ⟨w.heap.size + 1, 0, none⟩) := hF 0 (haft ⟨0, .data⟩ (by simp) rfl)
        have cc := (box_cell (v := .bool b1) hb1 0 rfl).1
        have key := hK.out (.bool b1) W (HJM.out 1 W (by decide) yr) (fun _ _ h => h) rfl
        go_simp
        simpa [upd, f0] using key
       ·
        have key := hK.out (.slice Pb lb.length cb) W (HJM.out 2 W (by decide) yr) (fun _ _ h => h) rfl
        go_simp
        simpa [upd] using key
       ·
        have key := hK.out (.slice Pa la.length ca) W (HJM.out 3 W (by decide) yr) (fun _ _ h => h) rfl
        go_simp
        simpa [upd] using key
       ·
        have f2 : v 2 = .slice Pb lb.length cb := hF 2 (haft ⟨2, .data⟩ (by simp) rfl)
        have f3 : v 3 = .slice Pa la.length ca := hF 3 (haft ⟨3, .data⟩ (by simp) rfl)
        go_simp
        go_at_call 105
        refine (QS2.out HLE.out hnb0.out Pa Pb ca cb W hx0.cc.1 hx1.cc.1 hx0.cc.2 hx1.cc.2).mono ?_
        rintro en w4 ⟨v1, rfl, hr, hb⟩
        have key := hK.out (v1) w4 (HJM.out 4 w4 (by decide) hb) ?monoZ_4 (hr.lower hBW.2)
        · simpa [upd, f2, f3] using key
        intro j hj hf
        rcases j with _ | _ | _ | _ | _ | _ | _ | _ | j <;> first | exact hf | exact PDy.below hf hb | exact PL.below hf hb | exact Two.below hf hb | exact RDy.below hf hb
       ·
        have key := hK.out (.int .i64 E) W (HJM.out 5 W (by decide) yr) (fun _ _ h => h) rfl
        go_simp
        simpa [upd] using key
       ·
        have f1 : v 1 = .bool b1 := hF 1 (haft ⟨1, .data⟩ (by simp) rfl)
        have f4 : PL W (w.heap.size + 3) (v 4) (limbs (nb - na)) := hF 4 (haft ⟨4, .data⟩ (by simp) rfl)
        have f5 : v 5 = .int .i64 E := hF 5 (haft ⟨5, .data⟩ (by simp) rfl)
        obtain ⟨A8, c8, f4v, hc8, hC8⟩ := f4.c
        have hm := QF.out b1 (nb - na) (Nat.le_trans (Nat.sub_le _ _) (Nat.le_add_left _ _)) HVAL.out A8 c8 W hBW.1 hC8 hc8
        go_simp
        go_at_call 102
        refine hm.mono ?_
        rintro en w4 ⟨v1, rfl, hr, hb⟩
        have key := hK.out (v1) w4 (HJM.out 6 w4 (by decide) hb) ?monoZ_6 (hr.lower hBW.2)
        · simpa [upd, f1, f5, f4v] using key
        intro j hj hf
        rcases j with _ | _ | _ | _ | _ | _ | _ | _ | j <;> first | exact hf | exact PDy.below hf hb | exact PL.below hf hb | exact Two.below hf hb | exact RDy.below hf hb
       ·
        have fz : PDy W (w.heap.size + 3) (v 6) (y + z) (e) := hF 6 (haft ⟨6, .data⟩ (by simp) rfl)
        obtain ⟨A3, n3, c3, fz2, _⟩ := id fz
        refine wp_store_box 25 4 (.tmp 56) rfl rfl (g := w.heap.size + 2) (e := 25) (v 6) [.bool (cneg (y + z)), .slice A3 n3 c3, .int .i64 (cexp (y + z) (e))] rfl rfl (by rw [fz2]; rfl) info_dyad ?_ (HOLD.out hnk) rfl ?_
        · intro q hq; simp at hq; rcases hq with rfl | rfl | rfl <;> rfl
        · intro w1 hw1 hg1
          have hn2 := fz.grown hg1 (by omega)
          obtain ⟨A4, n4, c4, fz4, hr4⟩ := hn2
          rw [fz2] at fz4
          injection fz4 with fz4
          simp at fz4
          obtain ⟨rfl, rfl, rfl⟩ := fz4
          have key := hK.out undef w1 (by rw [hJZ]; exact ⟨⟨hBW.1.grown hg1 hBW.1.size (fun k hk => by have := Option.some.inj hk; omega), Nat.le_trans hBW.2 hg1.size⟩, (hg1.block _ (blk_lt hb0) (fun he => by have := Option.some.inj he; omega)).trans hb0, (hg1.block _ (blk_lt hb1) (fun he => by have := Option.some.inj he; omega)).trans hb1, hx0.grown hg1 (by omega), hx1.grown hg1 (by omega), fun h => (h (by simp)).elim, fun _ => ⟨_, _, _, hw1, hr4⟩⟩) ?mstZ trivial
          · simpa [upd] using key
          intro j hj hf
          rcases j with _ | _ | _ | _ | _ | _ | _ | _ | j <;> first | exact hf | exact PDy.grown hf hg1 (by omega) | exact PL.grown hf hg1 (by omega)
      case hendZ =>
       intro v W L0 hall hJW hF
       rw [hJZ] at hJW
       obtain ⟨hBW, _, _, _, _, _, hnew⟩ := hJW
       obtain ⟨A7, n7, c7, p1, p2⟩ := hnew (hall 7 (by decide))
       have P1 := yk p1
       have P2 := yk (p2.lower (b' := w.heap.size) (by omega))
       have BF := yk hBW.1
       clear hF hall hnew p1 p2 hBW
       simp only [setAll, List.setIfInBounds_toArray, List.set_cons_zero, List.set_cons_succ, Nat.reduceAdd]
       go_wp2
       refine bodyPost_ret (results_dyad rfl _ _ (w.heap.size + 1 + 1) _ rfl P1.out rfl) rfl ?_
       exact ⟨_, rfl, ⟨A7, n7, c7, rfl, P2.out⟩, BF.out⟩
end Go.Proofs.YtkdicconchobfaaGreatDoor

namespace EftPure
def Rep (n : Int) : Prop := ∃ (m : Int) (e : Nat), n = m * 2 ^ e ∧ m.natAbs ≤ 2 ^ 53
structure IsRN (n r : Int) : Prop where
 rep : Rep r
 near : ∀ x, Rep x → (r - n).natAbs ≤ (x - n).natAbs
end EftPure

namespace EftPure
open Ieee
def IsF (x : Nat) (A : Int) : Prop := ∃ s m k, double.read x = .number s m ((k : Nat) - 1074 : Int) ∧ A = signed s m k ∧ m < 2 ^ 53
def oneMore (q r u : Nat) : Nat := if u < 2 * r ∨ u = 2 * r ∧ q % 2 = 1 then 1 else 0
def rnN (n : Nat) : Nat := (n / 2 ^ (n.log2 - 52) + oneMore (n / 2 ^ (n.log2 - 52)) (n % 2 ^ (n.log2 - 52)) (2 ^ (n.log2 - 52))) * 2 ^ (n.log2 - 52)
def rnI (n : Int) : Int := if n < 0 then -((rnN n.natAbs : Nat) : Int) else ((rnN n.natAbs : Nat) : Int)
def TT : Nat := 2098
def DD : Nat := 1074
def UU : Nat := 622
end EftPure

namespace Go.Proofs.YtkdicconchobfaaGreatDoor
open Go.RowKit Go.Proofs.YtkdicconchobfaaGreatDoorW.PrintWords Limb Ieee EftPure
set_option linter.unusedVariables false
set_option linter.unusedSimpArgs false
theorem tdiv_nat (x m : Nat) : (x : Int).tdiv (m : Int) = ((x / m : Nat) : Int) := by rw [Int.tdiv_eq_ediv_of_nonneg (by omega)]; rfl
open Go.RowKit Go.Proofs.YtkdicconchobfaaGreatDoorW.PrintWords Limb Ieee EftPure
def valI (x : Nat) : Int := sgn (decide (9223372036854775808 ≤ x)) ((if x / 4503599627370496 % 2048 = 0 then x % 4503599627370496 else 4503599627370496 + x % 4503599627370496) * 2 ^ (x / 4503599627370496 % 2048 - 1))
def Z0 : Value := .agg #[.bool false, .slice none 0 0, .int .i64 0]
def Ok (z e : Int) : Prop := bl z.natAbs ≤ 65536 ∧ -65536 ≤ e ∧ e ≤ 65536
theorem CDy.scale {w : World} {v : Value} {z e : Int} (k : Nat) (h : CDy w v z (e + k)) : CDy w v (z * 2 ^ k) e := by
 obtain ⟨A, n, c, h1, h2, h3, h4⟩ := h
 exact ⟨A, n, c, by rw [cneg_mul, cexp_mul]; exact h1, by rw [cman_mul]; exact h2, by rw [cman_mul]; exact h3, h4⟩
def BelN (w : World) (k : Nat) (W : World) : Prop := BL w W ∧ w.heap.size + k ≤ W.heap.size
theorem BelN.next {w W W' : World} {k : Nat} (h : BelN w k W) (hb : BL W W') : BelN w k W' := ⟨below_then h.1 h.1.size hb, Nat.le_trans h.2 hb.size⟩
theorem BelN.grown {w W W' : World} {k g : Nat} (h : BelN w k W) (hg : W.grownBy W' (some g)) (hk : w.heap.size ≤ g) : BelN w k W' := ⟨h.1.grown hg h.1.size (fun k hk' => by cases hk'; exact hk), Nat.le_trans h.2 hg.size⟩
theorem BelN.zero (w : World) : BelN w 0 w := ⟨Below.refl _ _, Nat.le_refl _⟩
theorem BelN.alloc {w W : World} {k : Nat} (h : BelN w k W) (o : Obj) : BelN w (k + 1) (W.alloc o) := ⟨below_alloc h.1 o, by rw [size_alloc']; have := h.2; omega⟩
theorem BelN.less {w W : World} {k j : Nat} (h : BelN w k W) (hj : j ≤ k) : BelN w j W := ⟨h.1, Nat.le_trans (Nat.add_le_add_left hj _) h.2⟩
theorem blk_grown {w w1 : World} {k g : Nat} {o : Obj} (h : w.heap[k]? = some o) (hg : w.grownBy w1 (some g)) (hk : k ≠ g) : w1.heap[k]? = some o :=
 (hg.block _ (blk_lt h) (fun he => hk (Option.some.inj he))).trans h
theorem agg_inj {a b c a' b' c' : Value} (h : Value.agg #[a, b, c] = .agg #[a', b', c']) : a = a' ∧ b = b' ∧ c = c' := by
 injection h with h
 simp at h
 exact h
theorem slice_inj {A A' : Option Addr} {n n' c c' : Nat} (h : Value.slice A n c = .slice A' n' c') : A = A' ∧ n = n' ∧ c = c' := by
 injection h with h1 h2 h3
 exact ⟨h1, h2, h3⟩
theorem al1 (w : World) (k : Nat) (c0 : Array Value) (t0 : TypeId) (hk : k ≤ 1 := by decide) : Aside0 (BelN w k (w.alloc (.cells c0 t0))) ∧ Aside0 ((w.alloc (.cells c0 t0)).heap[w.heap.size]? = some (.cells c0 t0 (0, 0))) := ⟨⟨((BelN.zero w).alloc _).less hk⟩, ⟨by have h := blk_new w (.cells c0 t0); exact h⟩⟩
theorem al2 (w : World) (k : Nat) (c0 : Array Value) (t0 : TypeId) (c1 : Array Value) (t1 : TypeId) (hk : k ≤ 2 := by decide) : Aside0 (BelN w k ((w.alloc (.cells c0 t0)).alloc (.cells c1 t1))) ∧ Aside0 (((w.alloc (.cells c0 t0)).alloc (.cells c1 t1)).heap[w.heap.size]? = some (.cells c0 t0 (0, 0))) ∧ Aside0 (((w.alloc (.cells c0 t0)).alloc (.cells c1 t1)).heap[w.heap.size + 1]? = some (.cells c1 t1 (0, 0))) := ⟨⟨(((BelN.zero w).alloc _).alloc _).less hk⟩, ⟨by have h := blk_new w (.cells c0 t0); exact blk_alloc (h) _⟩, ⟨by have h := blk_new (w.alloc (.cells c0 t0)) (.cells c1 t1); rw [size_alloc'] at h; exact h⟩⟩
theorem al3 (w : World) (k : Nat) (c0 : Array Value) (t0 : TypeId) (c1 : Array Value) (t1 : TypeId) (c2 : Array Value) (t2 : TypeId) (hk : k ≤ 3 := by decide) : Aside0 (BelN w k (((w.alloc (.cells c0 t0)).alloc (.cells c1 t1)).alloc (.cells c2 t2))) ∧ Aside0 ((((w.alloc (.cells c0 t0)).alloc (.cells c1 t1)).alloc (.cells c2 t2)).heap[w.heap.size]? = some (.cells c0 t0 (0, 0))) ∧ Aside0 ((((w.alloc (.cells c0 t0)).alloc (.cells c1 t1)).alloc (.cells c2 t2)).heap[w.heap.size + 1]? = some (.cells c1 t1 (0, 0))) ∧ Aside0 ((((w.alloc (.cells c0 t0)).alloc (.cells c1 t1)).alloc (.cells c2 t2)).heap[w.heap.size + 1 + 1]? = some (.cells c2 t2 (0, 0))) := ⟨⟨((((BelN.zero w).alloc _).alloc _).alloc _).less hk⟩, ⟨by have h := blk_new w (.cells c0 t0); exact blk_alloc (blk_alloc (h) _) _⟩, ⟨by have h := blk_new (w.alloc (.cells c0 t0)) (.cells c1 t1); rw [size_alloc'] at h; exact blk_alloc (h) _⟩, ⟨by have h := blk_new ((w.alloc (.cells c0 t0)).alloc (.cells c1 t1)) (.cells c2 t2); rw [size_alloc', size_alloc'] at h; exact h⟩⟩
theorem al4 (w : World) (k : Nat) (c0 : Array Value) (t0 : TypeId) (c1 : Array Value) (t1 : TypeId) (c2 : Array Value) (t2 : TypeId) (c3 : Array Value) (t3 : TypeId) (hk : k ≤ 4 := by decide) : Aside0 (BelN w k ((((w.alloc (.cells c0 t0)).alloc (.cells c1 t1)).alloc (.cells c2 t2)).alloc (.cells c3 t3))) ∧ Aside0 (((((w.alloc (.cells c0 t0)).alloc (.cells c1 t1)).alloc (.cells c2 t2)).alloc (.cells c3 t3)).heap[w.heap.size]? = some (.cells c0 t0 (0, 0))) ∧ Aside0 (((((w.alloc (.cells c0 t0)).alloc (.cells c1 t1)).alloc (.cells c2 t2)).alloc (.cells c3 t3)).heap[w.heap.size + 1]? = some (.cells c1 t1 (0, 0))) ∧ Aside0 (((((w.alloc (.cells c0 t0)).alloc (.cells c1 t1)).alloc (.cells c2 t2)).alloc (.cells c3 t3)).heap[w.heap.size + 1 + 1]? = some (.cells c2 t2 (0, 0))) ∧ Aside0 (((((w.alloc (.cells c0 t0)).alloc (.cells c1 t1)).alloc (.cells c2 t2)).alloc (.cells c3 t3)).heap[w.heap.size + 1 + 1 + 1]? = some (.cells c3 t3 (0, 0))) := ⟨⟨(((((BelN.zero w).alloc _).alloc _).alloc _).alloc _).less hk⟩, ⟨by have h := blk_new w (.cells c0 t0); exact blk_alloc (blk_alloc (blk_alloc (h) _) _) _⟩, ⟨by have h := blk_new (w.alloc (.cells c0 t0)) (.cells c1 t1); rw [size_alloc'] at h; exact blk_alloc (blk_alloc (h) _) _⟩, ⟨by have h := blk_new ((w.alloc (.cells c0 t0)).alloc (.cells c1 t1)) (.cells c2 t2); rw [size_alloc', size_alloc'] at h; exact blk_alloc (h) _⟩, ⟨by have h := blk_new (((w.alloc (.cells c0 t0)).alloc (.cells c1 t1)).alloc (.cells c2 t2)) (.cells c3 t3); rw [size_alloc', size_alloc', size_alloc'] at h; exact h⟩⟩
section
variable {P : Program} {ops : Array Oper} {Q : Exit → Act → World → Prop}
end
theorem PDy.ex {w : World} {b : Nat} {v : Value} {z e : Int} (h : PDy w b v z e) : ∃ bb A n c x, v = .agg #[.bool bb, .slice A n c, .int .i64 x] := by
 obtain ⟨A, n, c, rfl, hr⟩ := h
 exact ⟨_, _, _, _, _, rfl⟩
theorem CDy.ex {w : World} {v : Value} {z e : Int} (h : CDy w v z e) : ∃ bb A n c x, v = .agg #[.bool bb, .slice A n c, .int .i64 x] := by
 obtain ⟨A, n, c, rfl, hr⟩ := h
 exact ⟨_, _, _, _, _, rfl⟩
theorem CDy.parts {w : World} {z e : Int} {bb : Bool} {A : Option Addr} {n c : Nat} {x : Int} (h : CDy w (.agg #[.bool bb, .slice A n c, .int .i64 x]) z e) : bb = cneg z ∧ x = cexp z e ∧ kU.C w A n (limbs (cman z)) ∧ (limbs (cman z)).length = n ∧ n ≤ c := by
 obtain ⟨A', n', c', h1, h2, h3, h4⟩ := h
 obtain ⟨e1, e2, e3⟩ := agg_inj h1
 obtain ⟨rfl, rfl, rfl⟩ := slice_inj e2
 injection e1 with e1
 injection e3 with _ e3
 exact ⟨e1, e3, h2, h3, h4⟩
theorem results_big {P : Program} {fn : Func} {p : Tmp} {t : TypeId} {n : Nat} (hany : (P.underlying t).any (fun d => match d with | .struct _ | .array _ _ => true | _ => false) = true) (hi : (P.info? t).map (·.size) = some n) (h : fn.results = #[.cell p t]) (tmps : Array Value) (w : World) (g : Nat) (cs : Array Value) (hp : tmps.getD p undef = .pointer (some ⟨g, 0, none⟩)) (hg : w.heap[g]? = some (.cells cs t (0, 0))) (hs : cs.size = n) :
 (results fn tmps).run P w = .ok (.agg cs) w := by
 obtain ⟨d, hu, hd⟩ : ∃ d, P.underlying t = some d ∧ (match d with | .struct _ | .array _ _ => true | _ => false) = true := by
  cases hd : P.underlying t with
  | none => rw [hd] at hany; cases hany
  | some d => rw [hd] at hany; exact ⟨d, rfl, hany⟩
 refine results_single h (.cell g _ cs (0, 0) d hp hg hu ?_ (by rw [hs]; exact hi) .nil)
 revert hu hd
 cases d <;> intro hu hd <;> first | rfl | cases hd
open Go.RowKit Go.Proofs.YtkdicconchobfaaGreatDoorW.PrintWords Limb Exq
def PQ (w : World) (b : Nat) (v : Value) (q : Rat) (N : Nat) : Prop := ∃ z e, PDy w b v z e ∧ q = Dv z e ∧ Bd N z e
def CQ (w : World) (v : Value) (q : Rat) (N : Nat) : Prop := ∃ z e, CDy w v z e ∧ q = Dv z e ∧ Bd N z e
theorem PQ.c {w : World} {b N : Nat} {v : Value} {q : Rat} (h : PQ w b v q N) : CQ w v q N := by
 obtain ⟨z, e, h1, h2⟩ := h; exact ⟨z, e, h1.c, h2⟩
theorem CQ.below {w w1 : World} {N : Nat} {v : Value} {q : Rat} (h : CQ w v q N) (hb : BL w w1) : CQ w1 v q N := by
 obtain ⟨z, e, h1, h2⟩ := h; exact ⟨z, e, h1.below hb, h2⟩
theorem PQ.lower {w : World} {b b' N : Nat} {v : Value} {q : Rat} (h : PQ w b v q N) (hb : b' ≤ b) : PQ w b' v q N := by
 obtain ⟨z, e, h1, h2⟩ := h; exact ⟨z, e, h1.lower hb, h2⟩
theorem PQ.more {w : World} {b N M : Nat} {v : Value} {q : Rat} (h : PQ w b v q N) (hm : N ≤ M) : PQ w b v q M := by
 obtain ⟨z, e, h1, h2, h3⟩ := h; exact ⟨z, e, h1, h2, h3.more hm⟩
theorem PQ.ex {w : World} {b N : Nat} {v : Value} {q : Rat} (h : PQ w b v q N) : ∃ bb A n c x, v = .agg #[.bool bb, .slice A n c, .int .i64 x] := by
 obtain ⟨z, e, h1, -⟩ := h; exact h1.ex
theorem CQ.ex {w : World} {N : Nat} {v : Value} {q : Rat} (h : CQ w v q N) : ∃ bb A n c x, v = .agg #[.bool bb, .slice A n c, .int .i64 x] := by
 obtain ⟨z, e, h1, -⟩ := h; exact h1.ex
theorem bd_man {N : Nat} {z e : Int} (h : Bd N z e) : cman z < 2 ^ N := Nat.lt_of_le_of_lt (Nat.div_le_self _ _) h.1
theorem bd_len {N : Nat} {z e : Int} (h : Bd N z e) : (limbs (cman z)).length ≤ N :=
 limbs_len_le (Nat.lt_of_lt_of_le (bd_man h) (Nat.pow_le_pow_right (by decide) (by omega)))
theorem bd_lo {N : Nat} {z e : Int} (h : Bd N z e) : -(N : Int) ≤ cexp z e := by
 by_cases h0 : z = 0
 · subst h0; rw [cexp_zero]; omega
 · obtain ⟨k, h1, -, -⟩ := of_form (e := e) h0
   have := h.2.1; omega
theorem bd_hi {N : Nat} {z e : Int} (h : Bd N z e) : cexp z e ≤ 2 * (N : Int) := by
 by_cases h0 : z = 0
 · subst h0; rw [cexp_zero]; omega
 · obtain ⟨k, h1, -, h3⟩ := of_form (e := e) h0
   have h4 := tz_lt_bl (show z.natAbs ≠ 0 by omega)
   have h5 := bl_le_iff.2 h.1
   have := h.2.2; omega
theorem CQ.two {w : World} {u v : Value} {a b : Rat} {N M : Nat} (h : CQ w u a N) (h' : CQ w v b M) : ∃ y z g, CDy w u y g ∧ CDy w v z g ∧ a = Dv y g ∧ b = Dv z g ∧ Bd (2 * (N + M)) y g ∧ Bd (2 * (N + M)) z g := by
 obtain ⟨y, e, h1, rfl, h3⟩ := h
 obtain ⟨z, f, k1, rfl, k3⟩ := h'
 obtain ⟨g, i, j, rfl, rfl, hij⟩ := Dv_common e f
 have hi : i ≤ N + M := by have := h3.2; have := k3.2; omega
 have hj : j ≤ N + M := by have := h3.2; have := k3.2; omega
 have hg : -((N + M : Nat) : Int) ≤ g := by have := h3.2; have := k3.2; omega
 exact ⟨y * 2 ^ i, z * 2 ^ j, g, h1.scale i, k1.scale j, (Dv_shift y g i).symm, (Dv_shift z g j).symm,
  (h3.shift rfl hi (by omega)).more (by omega), (k3.shift rfl hj (by omega)).more (by omega)⟩
def cmpQ (a b : Rat) : Int := if a < b then -1 else if b < a then 1 else 0
def sgnQ (a : Rat) : Int := if a = 0 then 0 else if a < 0 then -1 else 1
def ab (a : Rat) : Rat := if 0 ≤ a then a else -a
theorem cmp_Dv (y z e : Int) : cmpQ (Dv y e) (Dv z e) = cmpZ y z := by
 unfold cmpQ cmpZ
 simp only [Dv_lt]
theorem sgn_Dv (z e : Int) : sgnQ (Dv z e) = sgnI z := by
 unfold sgnQ sgnI
 simp only [Dv_eq_zero, Dv_lt_zero]
theorem ab_Dv (z e : Int) : ab (Dv z e) = Dv (z.natAbs : Int) e := by
 unfold ab
 by_cases h : 0 ≤ z
 · rw [if_pos (Dv_nonneg.2 h)]; congr 1; omega
 · rw [if_neg (fun q => h (Dv_nonneg.1 q)), ← Dv_neg]; congr 1; omega
theorem one_q {v : Value} {a : Rat} {N : Nat} {w : World} (h : CQ w v a N) (hN : N ≤ 67108864) (hT : TabAt 0 Lib.deBruijn64tab w) :
 Calls Tryz.prog 66 #[v] w fun en w' => ∃ v', en = .returned v' ∧ PQ w' w.heap.size v' a N ∧ BL w w' := by
 obtain ⟨z, e, h1, rfl, h3⟩ := h
 have l := (bd_len h3); have lo := (bd_lo h3); have hi := (bd_hi h3)
 exact (pone_dy v z e w h1 (by omega) (by omega) (by omega) hT).mono fun en w' ⟨v', q1, q2, q3⟩ => ⟨v', q1, ⟨z, e, q2, rfl, h3⟩, q3⟩
theorem neg_q {v : Value} {a : Rat} {N : Nat} {w : World} (h : CQ w v a N) (hN : N ≤ 67108864) (hT : TabAt 0 Lib.deBruijn64tab w) :
 Calls Tryz.prog 106 #[v] w fun en w' => ∃ v', en = .returned v' ∧ PQ w' w.heap.size v' (-a) N ∧ BL w w' := by
 obtain ⟨z, e, h1, rfl, h3⟩ := h
 have l := (bd_len h3); have lo := (bd_lo h3); have hi := (bd_hi h3)
 exact (pneg_dy v z e w h1 (by omega) (by omega) (by omega) hT).mono fun en w' ⟨v', q1, q2, q3⟩ => ⟨v', q1, ⟨-z, e, q2, (Dv_neg z e).symm, h3.neg⟩, q3⟩
theorem abs_q {v : Value} {a : Rat} {N : Nat} {w : World} (h : CQ w v a N) (hN : N ≤ 67108864) (hT : TabAt 0 Lib.deBruijn64tab w) :
 Calls Tryz.prog 68 #[v] w fun en w' => ∃ v', en = .returned v' ∧ PQ w' w.heap.size v' (ab a) N ∧ BL w w' := by
 obtain ⟨z, e, h1, rfl, h3⟩ := h
 have l := (bd_len h3); have lo := (bd_lo h3); have hi := (bd_hi h3)
 exact (pabs_dy v z e w h1 (by omega) (by omega) (by omega) hT).mono fun en w' ⟨v', q1, q2, q3⟩ => ⟨v', q1, ⟨_, e, q2, ab_Dv z e, ⟨by rw [Int.natAbs_natCast]; exact h3.1, h3.2⟩⟩, q3⟩
theorem shift_q {v : Value} {a : Rat} {N K : Nat} {w : World} (k : Int) (h : CQ w v a N) (hN : N ≤ 67108864) (hk : k.natAbs ≤ K) (hK : K ≤ 67108864) (hT : TabAt 0 Lib.deBruijn64tab w) :
 Calls Tryz.prog 96 #[v, .int .i64 k] w fun en w' => ∃ v', en = .returned v' ∧ PQ w' w.heap.size v' (a * (2 : Rat) ^ k) (N + K) ∧ BL w w' := by
 obtain ⟨z, e, h1, rfl, h3⟩ := h
 have l := (bd_len h3); have lo := (bd_lo h3); have hi := (bd_hi h3)
 exact (pshift_dy v z e k w h1 (by omega) (by omega) (by omega) (by omega) (by omega) hT).mono fun en w' ⟨v', q1, q2, q3⟩ => ⟨v', q1, ⟨z, e + k, q2, by rw [← Dv_one, Dv_mul, Int.mul_one], ⟨Nat.lt_of_lt_of_le h3.1 (Nat.pow_le_pow_right (by decide) (by omega)), by have := h3.2; omega, by have := h3.2; omega⟩⟩, q3⟩
theorem mul_q {u v : Value} {a b : Rat} {N M : Nat} {w : World} (h : CQ w u a N) (h' : CQ w v b M) (hN : N ≤ 67108864) (hM : M ≤ 67108864) (hT : TabAt 0 Lib.deBruijn64tab w) :
 Calls Tryz.prog 118 #[u, v] w fun en w' => ∃ v', en = .returned v' ∧ PQ w' w.heap.size v' (a * b) (N + M) ∧ BL w w' := by
 obtain ⟨z, e, h1, rfl, h3⟩ := h
 obtain ⟨y, f, k1, rfl, k3⟩ := h'
 have l := (bd_len h3); have lo := (bd_lo h3); have hi := (bd_hi h3)
 have l' := (bd_len k3); have lo' := (bd_lo k3); have hi' := (bd_hi k3)
 exact (pmul_dy u v z y e f w h1 k1 (by omega) (by omega) (by omega) (by omega) (by omega) (by omega) hT).mono fun en w' ⟨v', q1, q2, q3⟩ => ⟨v', q1, ⟨_, _, q2, Dv_mul _ _ _ _, h3.mul k3⟩, q3⟩
theorem add_q {u v : Value} {a b : Rat} {N M : Nat} {w : World} (h : CQ w u a N) (h' : CQ w v b M) (hN : N + M ≤ 67108864) (hT : TabAt 0 Lib.deBruijn64tab w) :
 Calls Tryz.prog 60 #[u, v] w fun en w' => ∃ v', en = .returned v' ∧ PQ w' w.heap.size v' (a + b) (2 * (N + M) + 1) ∧ BL w w' := by
 obtain ⟨y, z, g, h1, k1, rfl, rfl, h3, k3⟩ := h.two h'
 have l := (bd_len h3); have lo := (bd_lo h3); have hi := (bd_hi h3)
 have l' := (bd_len k3); have lo' := (bd_lo k3); have hi' := (bd_hi k3)
 exact (padd_dy u v y z g w h1 k1 (by omega) (by omega) (by omega) (by omega) (by omega) (by omega) hT).mono fun en w' ⟨v', q1, q2, q3⟩ => ⟨v', q1, ⟨_, _, q2, Dv_add _ _ _, h3.add k3⟩, q3⟩
theorem cmp_q {u v : Value} {a b : Rat} {N M : Nat} {w : World} (h : CQ w u a N) (h' : CQ w v b M) (hN : N + M ≤ 67108864) (hT : TabAt 0 Lib.deBruijn64tab w) :
 Calls Tryz.prog 67 #[u, v] w fun en w' => en = .returned (.int .i64 (cmpQ a b)) ∧ BL w w' := by
 obtain ⟨y, z, g, h1, k1, rfl, rfl, h3, k3⟩ := h.two h'
 have l := (bd_len h3); have lo := (bd_lo h3); have hi := (bd_hi h3)
 have l' := (bd_len k3); have lo' := (bd_lo k3); have hi' := (bd_hi k3)
 rw [cmp_Dv]
 exact pcmp_dy u v y z g w h1 k1 (by omega) (by omega) (by omega) (by omega) (by omega) (by omega) hT
theorem zero_q {v : Value} {a : Rat} {N : Nat} {w : World} (h : CQ w v a N) (hN : N ≤ 67108864) :
 Calls Tryz.prog 79 #[v] w fun en w' => en = .returned (.bool (decide (a = 0))) ∧ BL w w' := by
 obtain ⟨z, e, h1, rfl, h3⟩ := h
 have l := (bd_len h3)
 rw [decide_eq_decide.2 Dv_eq_zero]
 exact pzero_dy v z e w h1 (by omega)
theorem int_q (n : Int) (w : World) (h1 : -9223372036854775808 ≤ n) (h2 : n < 9223372036854775808) (hT : TabAt 0 Lib.deBruijn64tab w) :
 Calls Tryz.prog 69 #[.int .i64 n] w fun en w' => ∃ v', en = .returned v' ∧ PQ w' w.heap.size v' (n : Rat) 64 ∧ BL w w' :=
 (pint_dy n w h1 h2 hT).mono fun en w' ⟨v', q1, q2, q3⟩ => ⟨v', q1, ⟨n, 0, q2, (Dv_unit n).symm, ⟨by omega, by omega, by omega⟩⟩, q3⟩
open Go Go.RowKit Go.Proofs.YtkdicconchobfaaGreatDoorW.PrintWords
inductive Sy where
 | lit (v : Value)
 | var (i : Nat)
 | ptr (b o : Nat)
 | fn (f : List Value → Value) (l : List Sy)
mutual
def Sy.ev (E : List Value) (g : Nat → Nat) : Sy → Value
 | .lit v => v
 | .var i => E.getD i undef
 | .ptr b o => .pointer (some ⟨g b, o, none⟩)
 | .fn f l => f (Sy.evs E g l)
def Sy.evs (E : List Value) (g : Nat → Nat) : List Sy → List Value
 | [] => []
 | a :: r => Sy.ev E g a :: Sy.evs E g r
end
mutual
def Sy.ok (n : Nat) (B : List Nat) : Sy → Bool
 | .lit _ => true
 | .var i => decide (i < n)
 | .ptr b _ => B.contains b
 | .fn _ l => Sy.oks n B l
def Sy.oks (n : Nat) (B : List Nat) : List Sy → Bool
 | [] => true
 | a :: r => Sy.ok n B a && Sy.oks n B r
end
mutual
theorem Sy.ev_mono {n : Nat} {B : List Nat} {E E' : List Value} {g g' : Nat → Nat} (hE : ∀ i, i < n → E'.getD i undef = E.getD i undef) (hg : ∀ b, b ∈ B → g' b = g b) : ∀ s : Sy, s.ok n B = true → s.ev E' g' = s.ev E g
 | .lit v, _ => by simp [Sy.ev]
 | .var i, h => by
   simp only [Sy.ok, decide_eq_true_eq] at h
   simp only [Sy.ev]; exact hE i h
 | .ptr b o, h => by
   simp only [Sy.ok, List.contains_iff_mem] at h
   simp only [Sy.ev]; rw [hg b h]
 | .fn f l, h => by
   simp only [Sy.ok] at h
   simp only [Sy.ev]; rw [Sy.evs_mono hE hg l h]
theorem Sy.evs_mono {n : Nat} {B : List Nat} {E E' : List Value} {g g' : Nat → Nat} (hE : ∀ i, i < n → E'.getD i undef = E.getD i undef) (hg : ∀ b, b ∈ B → g' b = g b) : ∀ l : List Sy, Sy.oks n B l = true → Sy.evs E' g' l = Sy.evs E g l
 | [], _ => by simp [Sy.evs]
 | a :: r, h => by
   simp only [Sy.oks, Bool.and_eq_true] at h
   simp only [Sy.evs]
   rw [Sy.ev_mono hE hg a h.1, Sy.evs_mono hE hg r h.2]
end
theorem Sy.evs_length (E : List Value) (g : Nat → Nat) : ∀ l : List Sy, (Sy.evs E g l).length = l.length
 | [] => by simp [Sy.evs]
 | a :: r => by simp [Sy.evs, Sy.evs_length E g r]
theorem Sy.evs_getD (E : List Value) (g : Nat → Nat) : ∀ (l : List Sy) (i : Nat), (Sy.evs E g l).getD i undef = (l.getD i (.lit undef)).ev E g
 | [], i => by simp [Sy.evs, Sy.ev]
 | a :: r, 0 => by simp [Sy.evs]
 | a :: r, i + 1 => by
   have := Sy.evs_getD E g r i
   simpa [Sy.evs] using this
theorem Sy.evs_set (E : List Value) (g : Nat → Nat) (x : Sy) : ∀ (l : List Sy) (i : Nat), Sy.evs E g (l.set i x) = (Sy.evs E g l).set i (x.ev E g)
 | [], i => by simp [Sy.evs]
 | a :: r, 0 => by simp [Sy.evs]
 | a :: r, i + 1 => by simp [Sy.evs, Sy.evs_set E g x r i]
theorem Sy.ok_more {n m : Nat} {B C : List Nat} (hn : n ≤ m) (hB : ∀ b ∈ B, b ∈ C) : (s : Sy) → s.ok n B = true → s.ok m C = true := fun s => by
 refine Sy.rec (motive_1 := fun s => s.ok n B = true → s.ok m C = true) (motive_2 := fun l => Sy.oks n B l = true → Sy.oks m C l = true) ?_ ?_ ?_ ?_ ?_ ?_ s
 · intro v _; simp [Sy.ok]
 · intro i h
   simp only [Sy.ok, decide_eq_true_eq] at h ⊢; omega
 · intro b o h
   simp only [Sy.ok, List.contains_iff_mem] at h ⊢; exact hB b h
 · intro f l ih h
   simp only [Sy.ok] at h ⊢; exact ih h
 · intro _; simp [Sy.oks]
 · intro a r ha hr h
   simp only [Sy.oks, Bool.and_eq_true] at h ⊢
   exact ⟨ha h.1, hr h.2⟩
section
variable {P : Program}
def runP {α : Type} (P : Program) : Sem α → Option α
 | .pure a => some a
 | .program k => runP P (k P)
 | .mark _ k => runP P k
 | _ => none
def runA {α : Type} (P : Program) (g : Nat) : Sem α → Option (α × Obj)
 | .new o k => (runP P (k g)).map (fun a => (a, o))
 | .program k => runA P g (k P)
 | .mark _ k => runA P g k
 | _ => none
theorem runP_ok {α : Type} (s : Sem α) : ∀ {a : α}, runP P s = some a → ∀ W, s.run P W = .ok a W := by
 induction s with
 | pure x => intro a h W; simp only [runP, Option.some.injEq] at h; subst h; rfl
 | program k ih => intro a h W; exact ih P (a := a) h W
 | mark m k ih => intro a h W; exact ih h W
 | _ => intro a h; simp [runP] at h
theorem runA_ok {α : Type} {W : World} (s : Sem α) : ∀ {a : α} {o : Obj}, runA P W.heap.size s = some (a, o) → s.run P W = .ok a (W.alloc o) := by
 induction s with
 | new o k ih =>
   intro a o' h
   simp only [runA, Option.map_eq_some_iff, Prod.mk.injEq] at h
   obtain ⟨x, h1, rfl, rfl⟩ := h
   exact runP_ok _ h1 _
 | program k ih => intro a o h; exact ih P h
 | mark m k ih => intro a o h; exact ih h
 | _ => intro a o h; simp [runA] at h
def loadB (P : Program) (t : TypeId) (cs : List Value) (o : Nat) : Option Value :=
 match P.underlying t with
 | some (.struct _) | some (.array _ _) =>
   match P.info? t with
   | some i => if o + i.size ≤ cs.length then some (.agg ((cs.drop o).take i.size).toArray) else none
   | none => none
 | some _ => cs[o]?
 | none => none
theorem run_under {W : World} {t : TypeId} {d : TypeDesc} (h : P.underlying t = some d) : (underlying t).run P W = .ok d W := by
 simp only [underlying, go_sem]
 simp [h, go_sem]
theorem load_ok {W : World} {g o t T : Nat} {cs : List Value} {v : Value} (hh : W.heap[g]? = some (.cells cs.toArray T (0, 0))) (h : loadB P t cs o = some v) :
 (Instr.loadAt t (.pointer (some ⟨g, o, none⟩))).run P W = .ok v W := by
 have hc : ∀ j v, cs[j]? = some v → W.cell? ⟨g, j, none⟩ = some v := fun j v hv => by
  rw [cell_of_row W g j _ _ _ hh]; simpa using hv
 unfold loadB at h
 have agg : ∀ d, P.underlying t = some d → (match d with | .struct _ | .array _ _ => true | _ => false) = true → (match P.info? t with
  | some i => if o + i.size ≤ cs.length then some (Value.agg ((cs.drop o).take i.size).toArray) else none
  | none => none) = some v → (Instr.loadAt t (.pointer (some ⟨g, o, none⟩))).run P W = .ok v W := by
  intro d hu hd h
  cases hi : P.info? t with
  | none => rw [hi] at h; cases h
  | some i =>
    rw [hi] at h
    dsimp only at h
    split at h
    · rename_i hle
      injection h with h; subst h
      have hl := run_loadCells_list (P := P) (w := W) ⟨g, o, none⟩ ((cs.drop o).take i.size) (fun j v hv => by
       have hj : j < i.size := by
        have := List.getElem?_eq_some_iff.1 hv
        obtain ⟨h1, -⟩ := this
        simp at h1; omega
       rw [List.getElem?_take_of_lt hj, List.getElem?_drop] at hv
       have := hc (o + j) v hv
       rcases Nat.eq_zero_or_pos j with rfl | hj0
       · simpa [Addr.add] using this
       · simpa [Addr.add, Nat.ne_of_gt hj0] using this)
      have hlen : ((cs.drop o).take i.size).length = i.size := by simp; omega
      rw [hlen] at hl
      have h1 : (isAgg t).run P W = .ok true W := by
       unfold isAgg
       rw [Sem.run_bind, run_under hu]
       cases d <;> simp_all
      have h2 : (sizeOf t).run P W = .ok i.size W := by
       simp [sizeOf, typeInfo, go_sem, hi]
      simp [Instr.loadAt, Instr.sureAddr, loadVar, Sem.run_bind, h1, h2, hl]
    · cases h
 have one : ∀ d, P.underlying t = some d → (match d with | .struct _ | .array _ _ => true | _ => false) = false → cs[o]? = some v → (Instr.loadAt t (.pointer (some ⟨g, o, none⟩))).run P W = .ok v W := by
  intro d hu hd h
  have h1 : (isAgg t).run P W = .ok false W := by
   unfold isAgg
   rw [Sem.run_bind, run_under hu]
   cases d <;> simp_all
  simp [Instr.loadAt, Instr.sureAddr, loadVar, Sem.run_bind, h1, hc o v h]
 cases hu : P.underlying t with
 | none => rw [hu] at h; cases h
 | some d =>
   rw [hu] at h
   cases d <;> first | exact agg _ hu rfl h | exact one _ hu rfl h
end
theorem opt_congr {ρ ρ' : Operand → Value} {o : Option Operand} (h : ∀ x ∈ o.toArray, ρ x = ρ' x) : o.map ρ = o.map ρ' := by
 cases o with
 | none => rfl
 | some x => simp [h x (by simp)]
theorem arr_congr {ρ ρ' : Operand → Value} {a : Array Operand} (h : ∀ x ∈ a, ρ x = ρ' x) : a.map ρ = a.map ρ' := Array.map_congr_left h
theorem parts_congr {ρ ρ' : Operand → Value} {a : Array (Nat × Operand)} (h : ∀ x ∈ (a.toList.map (·.2)).toArray, ρ x = ρ' x) : (a.map fun (i, x) => (i, ρ x)) = (a.map fun (i, x) => (i, ρ' x)) := by
 refine Array.map_congr_left ?_
 intro x hx
 have : x.2 ∈ (a.toList.map (·.2)).toArray := by
  simp only [List.mem_toArray, List.mem_map]
  exact ⟨x, by simpa using hx, rfl⟩
 simp [h x.2 this]
theorem resolve_congr {ρ ρ' : Operand → Value} {c : Call} {t : TypeId} (h : ∀ x ∈ c.operands, ρ x = ρ' x) : resolve ρ c t = resolve ρ' c t := by
 have h1 : c.args.map ρ = c.args.map ρ' := arr_congr fun x hx => h x (by simp [Call.operands, hx])
 unfold resolve
 rw [h1]
 cases hc : c.callee with
 | value f => simp [h f (by simp [Call.operands, hc])]
 | invoke r m => simp [h r (by simp [Call.operands, hc])]
 | builtin b => rfl
def noSel (o : Oper) : Bool := match o.op with | .select _ _ => false | _ => true
theorem execOp_congr {ρ ρ' : Operand → Value} {o : Oper} (hs : noSel o = true) (h : ∀ x ∈ o.op.operands, ρ x = ρ' x) : execOp ρ o = execOp ρ' o := by
 obtain ⟨dst, op, ty, pos, after, guard⟩ := o
 cases op with
 | move x => simp [execOp, h x (by simp [Op.operands])]
 | assign x => simp [execOp, h x (by simp [Op.operands])]
 | pick c a b => simp [execOp, h c (by simp [Op.operands]), h a (by simp [Op.operands]), h b (by simp [Op.operands])]
 | alloc e => rfl
 | box e v => simp [execOp, h v (by simp [Op.operands])]
 | build t ps => simp only [execOp]; rw [parts_congr h]
 | buildSlice t n ps => simp only [execOp]; rw [parts_congr h]
 | insert t m k v => simp [execOp, h m (by simp [Op.operands]), h k (by simp [Op.operands]), h v (by simp [Op.operands])]
 | load t a => simp [execOp, h a (by simp [Op.operands])]
 | store t a v => simp [execOp, h a (by simp [Op.operands]), h v (by simp [Op.operands])]
 | ready g => rfl
 | waits g => rfl
 | nilCheck x => simp [execOp, h x (by simp [Op.operands])]
 | binOp op t x y yt =>
   have e : eqGuard op t x y (ρ x) (ρ y) = eqGuard op t x y (ρ' x) (ρ' y) := by rw [h x (by simp [Op.operands]), h y (by simp [Op.operands])]
   simp only [execOp]; rw [e, h x (by simp [Op.operands]), h y (by simp [Op.operands])]
 | unOp op t x => simp [execOp, h x (by simp [Op.operands])]
 | convert s d x => simp [execOp, h x (by simp [Op.operands])]
 | sliceToArrayPointer d x => simp [execOp, h x (by simp [Op.operands])]
 | makeInterface t x => simp [execOp, h x (by simp [Op.operands])]
 | makeFunc f a b =>
   simp only [execOp]
   rw [arr_congr (a := a) fun x hx => h x (by simp [Op.operands, hx]), arr_congr (a := b) fun x hx => h x (by simp [Op.operands, hx])]
 | makeMap t r => simp only [execOp]; rw [opt_congr h]
 | makeChan t x => simp [execOp, h x (by simp [Op.operands])]
 | makeSlice t l c => simp [execOp, h l (by simp [Op.operands]), h c (by simp [Op.operands])]
 | slice t x lo hi mx =>
   simp only [execOp]
   rw [h x (by simp [Op.operands]), opt_congr (o := lo) fun x hx => h x (by simp only [Op.operands]; simp only [Array.mem_append]; exact .inl (.inl (.inr hx))), opt_congr (o := hi) fun x hx => h x (by simp only [Op.operands]; simp only [Array.mem_append]; exact .inl (.inr hx)), opt_congr (o := mx) fun x hx => h x (by simp only [Op.operands]; simp only [Array.mem_append]; exact .inr hx)]
 | fieldAddr t x f => simp [execOp, h x (by simp [Op.operands])]
 | field t x f => simp [execOp, h x (by simp [Op.operands])]
 | indexAddr t x i => simp [execOp, h x (by simp [Op.operands]), h i (by simp [Op.operands])]
 | index t x i => simp [execOp, h x (by simp [Op.operands]), h i (by simp [Op.operands])]
 | lookup t x i ok => simp [execOp, h x (by simp [Op.operands]), h i (by simp [Op.operands])]
 | mapUpdate t m k v => simp [execOp, h m (by simp [Op.operands]), h k (by simp [Op.operands]), h v (by simp [Op.operands])]
 | mapEntry t m k => simp [execOp, h m (by simp [Op.operands]), h k (by simp [Op.operands])]
 | entryStore t m k v => simp [execOp, h m (by simp [Op.operands]), h k (by simp [Op.operands]), h v (by simp [Op.operands])]
 | range t x => simp [execOp, h x (by simp [Op.operands])]
 | next i s => simp [execOp, h i (by simp [Op.operands])]
 | entry i => simp [execOp, h i (by simp [Op.operands])]
 | typeAssert x a b c => simp [execOp, h x (by simp [Op.operands])]
 | extract t i => simp [execOp, h t (by simp [Op.operands])]
 | call c => simp only [execOp]; rw [resolve_congr h]
 | go c => simp only [execOp]; rw [resolve_congr h]
 | defer c => simp only [execOp]; rw [resolve_congr h]
 | panic x => simp [execOp, h x (by simp [Op.operands])]
 | send c x => simp [execOp, h c (by simp [Op.operands]), h x (by simp [Op.operands])]
 | recv t c k => simp only [execOp]; rw [h c (by simp [Op.operands])]
 | select cs b => simp [noSel] at hs
structure Lat (u : TypeId) (h W : World) : Prop where
 os : W.os = h.os
 tape : W.tape = h.tape
 output : W.output = h.output
 size : h.heap.size ≤ W.heap.size
 blk : ∀ k, k < h.heap.size → W.heap[k]? = h.heap[k]? ∨ ∃ cs cs' t, t ≠ u ∧ h.heap[k]? = some (.cells cs t (0, 0)) ∧ W.heap[k]? = some (.cells cs' t (0, 0))
theorem Lat.refl (u : TypeId) (h : World) : Lat u h h := ⟨rfl, rfl, rfl, Nat.le_refl _, fun _ _ => .inl rfl⟩
theorem Lat.of_below {u : TypeId} {h W : World} (b : BL h W) : Lat u h W := ⟨b.os, b.tape, b.output, b.size, fun k hk => .inl (b.block k hk)⟩
theorem Lat.trans {u : TypeId} {a b c : World} (h : Lat u a b) (k : Lat u b c) : Lat u a c := by
 refine ⟨k.os.trans h.os, k.tape.trans h.tape, k.output.trans h.output, Nat.le_trans h.size k.size, fun i hi => ?_⟩
 rcases h.blk i hi with h1 | ⟨cs, cs', t, ht, h1, h2⟩
 · rcases k.blk i (Nat.lt_of_lt_of_le hi h.size) with k1 | ⟨ds, ds', t, ht, k1, k2⟩
   · exact .inl (k1.trans h1)
   · exact .inr ⟨ds, ds', t, ht, by rw [← h1]; exact k1, k2⟩
 · rcases k.blk i (Nat.lt_of_lt_of_le hi h.size) with k1 | ⟨ds, ds', t', ht', k1, k2⟩
   · exact .inr ⟨cs, cs', t, ht, h1, k1.trans h2⟩
   · rw [h2] at k1
     injection k1 with k1; injection k1 with k1 k3
     subst k3
     exact .inr ⟨cs, ds', t, ht, h1, k2⟩
structure Reach (u : TypeId) (w0 : World) (H : List World) (W : World) : Prop where
 first : BL w0 W
 at_ : ∀ (i : Nat) (h : World), H[i]? = some h → Lat u h W
theorem Reach.next {u : TypeId} {w0 : World} {H : List World} {W W' : World} (h : Reach u w0 H W) (k : BL W W') : Reach u w0 H W' :=
 ⟨below_then h.first h.first.size k, fun i x hx => (h.at_ i x hx).trans (.of_below k)⟩
theorem Reach.push {u : TypeId} {w0 : World} {H : List World} {W : World} (h : Reach u w0 H W) : Reach u w0 (H ++ [W]) W :=
 ⟨h.first, fun i x hx => by
  rw [List.getElem?_append] at hx
  split at hx
  · exact h.at_ i x hx
  · rename_i hi
    cases hj : i - H.length with
    | zero => rw [hj] at hx; simp at hx; subst hx; exact .refl _ _
    | succ j => rw [hj] at hx; simp at hx⟩
theorem Reach.zero {u : TypeId} (w : World) : Reach u w [] w := ⟨Below.refl _ _, fun i x hx => by simp at hx⟩
structure Bx where
 t : TypeId
 c : List Sy
 ro : Bool
inductive Kd where
 | val
 | fx
 | pk
 | ld (b o : Nat)
 | al (b : Nat)
 | cl (i : Nat) (f : FuncId) (args : List Sy) (nv : Nat) (bs : List Nat)
structure Pn where
 res : Sy
 need : Nat
 bs : List Nat
 kd : Kd
 full : Sy
structure Rg where
 n : Nat
 n0 : Nat
 nb : Nat
 F : List Sy
 bx : List Bx
 ps : List Pn
 ch : List Nat
instance : Inhabited Sy := ⟨.lit undef⟩
instance : Inhabited Kd := ⟨.val⟩
instance : Inhabited Pn := ⟨⟨default, 0, [], .val, default⟩⟩
def boolOf : Value → Bool | .bool b => b | _ => false
def tbF : List Value → Value | [v] => .bool (boolOf v) | _ => undef
def pkF : List Value → Value | [c, a, b] => .bool (if boolOf c then boolOf a else boolOf b) | _ => undef
def yieldsV : Value → Option Bool | .bool b => some b | _ => none
def grdv (want : Bool) (c v : Value) : Value := if yieldsV c = some want then v else undef
section
variable (P : Program) (ops : Array Oper) (R : Rg)
def Rg.p (k : Nat) : Pn := R.ps.getD k default
def dstO (k : Nat) : Option Tmp := (ops[k]?).bind (·.dst)
def grdO (k : Nat) : Option (Nat × Bool) := (ops[k]?).bind (·.guard)
def Kd.call : Kd → Bool | .cl .. => true | _ => false
def Kd.ci : Kd → Nat | .cl i .. => i | _ => 0
def Kd.nv : Kd → Nat | .cl _ _ _ n _ => n | _ => 0
def Pn.after (p : Pn) : Nat := match p.kd with | .cl i .. => i + 1 | _ => p.need
def nvAt (m : Nat) : Nat := R.n0 + ((R.ch.take m).map fun k => (R.p k).kd.nv).sum
def slotOf (s : Tmp) : Option Nat := (List.range R.n).find? fun j => dstO ops j == some s
def slotSy (gk : Option (Nat × Bool)) (s : Tmp) : Sy :=
 match slotOf ops R s with
 | some j => if grdO ops j == gk then (R.p j).res else (R.p j).full
 | none => R.F.getD s default
def rho (gk : Option (Nat × Bool)) (E : List Value) (g : Nat → Nat) : Operand → Value
 | .tmp s => (slotSy ops R gk s).ev E g
 | .const v => v
 | .global g => .pointer (some ⟨g, 0, none⟩)
 | .func f => .func (.func f) #[] #[]
structure Cp where
 f : FuncId
 args : List Sy
 nv : Nat
 res : Sy
 bs : List Nat
 grd : Option (Sy × Bool)
def cpOf (k : Nat) : Cp :=
 match (R.p k).kd with
 | .cl _ f args nv bs => ⟨f, args, nv, (R.p k).res, bs, (grdO ops k).map fun (j, w) => ((R.p j).full, w)⟩
 | _ => ⟨0, [], 0, default, [], none⟩
def Obl (u : TypeId) (w0 : World) (bx : List Bx) (Fin : List Value → List World → Prop) : List Cp → List Value → List World → Prop
 | [], E, H => Fin E H
 | c :: cs, E, H =>
   match c.grd with
   | none => ∀ W g, Reach u w0 H W → (∀ b ∈ c.bs, ∀ x, bx[b]? = some x → W.heap[g b]? = some (.cells (Sy.evs E g x.c).toArray x.t (0, 0))) →
      Calls P c.f (Sy.evs E g c.args).toArray W fun e W' => ∃ xs : List Value, xs.length = c.nv ∧ (xs.all (·.oneCell')) = true ∧ e = .returned (c.res.ev (E ++ xs) g) ∧ BL W W' ∧ Obl u w0 bx Fin cs (E ++ xs) (H ++ [W'])
   | some (s, want) => (yieldsV (s.ev E fun _ => 0) = some want → ∀ W g, Reach u w0 H W → (∀ b ∈ c.bs, ∀ x, bx[b]? = some x → W.heap[g b]? = some (.cells (Sy.evs E g x.c).toArray x.t (0, 0))) →
      Calls P c.f (Sy.evs E g c.args).toArray W fun e W' => ∃ xs : List Value, xs.length = c.nv ∧ (xs.all (·.oneCell')) = true ∧ e = .returned (c.res.ev (E ++ xs) g) ∧ BL W W' ∧ Obl u w0 bx Fin cs (E ++ xs) (H ++ [W'])) ∧
     (yieldsV (s.ev E fun _ => 0) ≠ some want → Obl u w0 bx Fin cs (E ++ List.replicate c.nv (.bool false)) H)
inductive Out where
 | n (x : Option Next)
 | l (p : Value) (x : Option Value)
 | a (x : Option (Next × Obj))
 | c (x : Value) (l : Array Value)
 | s (p : Value) (vs : List Value) (n : Option Nat) (ok : List Bool)
 | bad
def lhsK (E : List Value) (g : Nat → Nat) (k : Nat) : Out :=
 match ops[k]? with
 | none => .bad
 | some o =>
   let ρ := rho ops R o.guard E g
   match (R.p k).kd with
   | .val => .n (runP P (execOp ρ o))
   | .fx => .n (some (.value ((R.p k).res.ev E g)))
   | .pk => match o.op with
     | .pick (.tmp s) y z => (match slotOf ops R s with
       | some j => .s undef [rho ops R o.guard E g (.tmp s), rho ops R (some (j, true)) E g y, rho ops R (some (j, false)) E g z, (R.p k).res.ev E g] none []
       | none => .bad)
     | _ => .bad
   | .ld b off => match o.op with | .load t x => .l (ρ x) (loadB P t (Sy.evs E g ((R.bx.map (·.c)).getD b [])) off) | _ => .bad
   | .al b => .a (runA P (g b) (execOp ρ o))
   | .cl .. => match o.op with | .call c => (match c.callee with | .value x => (match ρ x with | .func fn fs cs => .c (.func fn #[] #[]) (fs ++ c.args.map ρ ++ cs) | _ => .bad) | _ => .bad) | _ => .bad
def rhsK (ops : Array Oper) (R : Rg) (E : List Value) (g : Nat → Nat) (k : Nat) : Out :=
 match (R.p k).kd with
 | .val | .fx => .n (some (.value ((R.p k).res.ev E g)))
 | .pk => match ops[k]? with
   | some o => (match o.op with
     | .pick (.tmp s) y z => (match slotOf ops R s with
       | some j => .s undef [tbF [rho ops R o.guard E g (.tmp s)], tbF [rho ops R (some (j, true)) E g y], tbF [rho ops R (some (j, false)) E g z], pkF [rho ops R o.guard E g (.tmp s), rho ops R (some (j, true)) E g y, rho ops R (some (j, false)) E g z]] none []
       | none => .l undef none)
     | _ => .l undef none)
   | none => .l undef none
 | .ld b off => .l (.pointer (some ⟨g b, off, none⟩)) (some ((R.p k).res.ev E g))
 | .al b => .a (some (.value ((R.p k).res.ev E g), .cells (Sy.evs E g ((R.bx.map (·.c)).getD b [])).toArray ((R.bx.map (·.t)).getD b 0) (0, 0)))
 | .cl _ f args _ _ => .c (.func (.func f) #[] #[]) (Sy.evs E g args).toArray
def grdK (E : List Value) (g : Nat → Nat) (k : Nat) : Value :=
 match grdO ops k with
 | none => (R.p k).res.ev E g
 | some (j, w) => grdv w ((R.p j).full.ev E g) ((R.p k).res.ev E g)
def tmpsOf (o : Oper) : List Tmp := o.op.operands.toList.filterMap fun | .tmp t => some t | _ => none
def edge (k j : Nat) : Bool := ((ops[k]?).map fun o => o.after.any fun e => Region.binds .any e && e.on == j).getD false
def hits : Nat → Nat → Nat → Bool
 | 0, k, j => edge ops k j
 | f + 1, k, j => edge ops k j || (List.range k).any fun i => edge ops k i && hits f i j
def allowed (p : Pn) : List Nat := List.range R.nb ++ p.bs
def staticK (k : Nat) : Bool :=
 match ops[k]? with
 | none => false
 | some o =>
   let p := R.p k
   noSel o &&
   (match o.dst with | some d => decide (d < R.F.length) && (List.range k).all (fun j => dstO ops j != some d) | none => false) &&
   (tmpsOf o).all (fun s => (List.range R.n).all fun j => dstO ops j != some s || edge ops k j) &&
   (match o.guard with | none => true | some (j, _) => decide (j < k) && edge ops k j && (match p.kd with | .al _ => false | _ => true) && (R.p j).full.ok (nvAt R p.need) []) &&
   (p.need == 0 || (List.range k).any fun j => edge ops k j && decide (p.need ≤ (R.p j).after)) &&
   p.bs.all (fun b => (match p.kd with | .al b' => b == b' | _ => false) || (List.range k).any fun j => edge ops k j && (R.p j).bs.contains b) &&
   (match p.kd with
     | .val | .fx | .pk => p.res.ok (nvAt R p.need) (allowed R p) && p.full.ok (nvAt R p.need) (allowed R p)
     | .ld b _ => decide (b < R.nb) && decide (b < R.bx.length) && p.res.ok (nvAt R p.need) (allowed R p) && p.full.ok (nvAt R p.need) (allowed R p)
     | .al b => decide (R.nb ≤ b) && decide (b < R.bx.length) && p.bs.contains b && p.res.ok (nvAt R p.need) (allowed R p) && p.full.ok (nvAt R p.need) (allowed R p) &&
        Sy.oks (nvAt R p.need) (allowed R p) ((R.bx.map (·.c)).getD b []) && (List.range k).all (fun j => match (R.p j).kd with | .al b' => b != b' | _ => true)
     | .cl i f args nv bs => p.need == i && R.ch[i]? == some k && (i == 0 || hits ops 3 k (R.ch.getD (i - 1) 0)) && p.res.ok (nvAt R (i + 1)) [] && p.full.ok (nvAt R (i + 1)) (allowed R p) &&
        Sy.oks (nvAt R i) bs args && bs.all (fun b => decide (b < R.nb) || (List.range k).any fun j => edge ops k j && (R.p j).bs.contains b) && bs.all (fun b => Sy.oks (nvAt R i) bs ((R.bx.map (·.c)).getD b [])))
end
section
variable {P : Program} {ops : Array Oper} {R : Rg} {u : TypeId} {w0 : World} {Fin : List Value → List World → Prop} {Pr : List Value → Prop}
def alive (R : Rg) (L : Nat → Bool) (b : Nat) : Prop := b < R.nb ∨ ∃ j, j < R.n ∧ L j = true ∧ (R.p j).kd = .al b
structure Inv (P : Program) (ops : Array Oper) (R : Rg) (u : TypeId) (w0 : World) (Fin : List Value → List World → Prop) (Pr : List Value → Prop) (L : Nat → Bool) (m : Nat) (E : List Value) (g : Nat → Nat) (H : List World) (a : Act) (W : World) : Prop where
 defers : a.defers = []
 size : a.tmps.size = R.F.length
 old : ∀ s, (∀ j, j < R.n → L j = true → dstO ops j ≠ some s) → a.tmps.getD s undef = (R.F.getD s default).ev E g
 new : ∀ j d, j < R.n → L j = true → dstO ops j = some d → a.tmps.getD d undef = (R.p j).full.ev E g
 len : E.length = nvAt R m
 one : (E.all (·.oneCell')) = true
 pre : Pr E
 call : ∀ k, k < R.n → (R.p k).kd.call = true → (L k = true ↔ (R.p k).kd.ci < m)
 need : ∀ j, j < R.n → L j = true → (R.p j).after ≤ m
 clos : ∀ j o, ops[j]? = some o → L j = true → ∀ e ∈ o.after, Region.binds .any e = true → L e.on = true
 box : ∀ b x, alive R L b → R.bx[b]? = some x → W.heap[g b]? = some (.cells (Sy.evs E g x.c).toArray x.t (0, 0))
 low : ∀ b x, alive R L b → R.bx[b]? = some x → (x.ro = false → w0.heap.size ≤ g b) ∧ g b < W.heap.size
 inj : ∀ b b' x x', alive R L b → alive R L b' → R.bx[b]? = some x → R.bx[b']? = some x' → (x.ro = false ∨ x'.ro = false) → g b = g b' → b = b'
 isb : ∀ b, alive R L b → ∃ x, R.bx[b]? = some x
 bsok : ∀ j, j < R.n → L j = true → ∀ b ∈ (R.p j).bs, alive R L b
 obl : Obl P u w0 R.bx Fin ((R.ch.drop m).map (cpOf ops R)) E H
 reach : Reach u w0 H W
structure Sta (P : Program) (ops : Array Oper) (R : Rg) (Pr : List Value → Prop) : Prop where
 n : R.n ≤ ops.size
 k : ∀ k, k < R.n → staticK ops R k = true
 sem : ∀ k, k < R.n → ∀ E g, Pr E → lhsK P ops R E g k = rhsK ops R E g k ∧ (R.p k).full.ev E g = grdK ops R E g k
 F : Sy.oks R.n0 (List.range R.nb) R.F = true
 bx : ∀ b x, b < R.nb → R.bx[b]? = some x → Sy.oks R.n0 (List.range R.nb) x.c = true
 ch : ∀ i k, R.ch[i]? = some k → k < R.n ∧ (R.p k).kd.call = true ∧ (R.p k).kd.ci = i
 al : ∀ b, R.nb ≤ b → b < R.bx.length → ∃ j, j < R.n ∧ (R.p j).kd = .al b
 fx : ∀ k o, k < R.n → ops[k]? = some o → (R.p k).kd = .fx → ∀ E g, Pr E → runP P (execOp (rho ops R o.guard E g) o) = some (.value ((R.p k).res.ev E g))
 ent : ∀ k, k < R.n → ∀ i f args nv bs, (R.p k).kd = .cl i f args nv bs → Enters P f
theorem nvAt_mono {m m' : Nat} (h : m ≤ m') : nvAt R m ≤ nvAt R m' := by
 unfold nvAt
 have : R.ch.take m' = R.ch.take m ++ (R.ch.drop m).take (m' - m) := by
  rw [← List.take_add]; congr 1; omega
 rw [this, List.map_append, List.sum_append]; omega
theorem nvAt_zero : R.n0 ≤ nvAt R 0 := by simp [nvAt]
theorem oks_of_getD {n : Nat} {B : List Nat} : ∀ {l : List Sy} (i : Nat), Sy.oks n B l = true → (l.getD i default).ok n B = true
 | [], i, _ => by simp [default, Sy.ok]
 | a :: r, 0, h => by simp only [Sy.oks, Bool.and_eq_true] at h; simpa using h.1
 | a :: r, i + 1, h => by
   simp only [Sy.oks, Bool.and_eq_true] at h
   simpa using oks_of_getD i h.2
theorem edge_of (k j : Nat) {o : Oper} (ho : ops[k]? = some o) (h : edge ops k j = true) : ∃ e ∈ o.after, Region.binds .any e = true ∧ e.on = j := by
 simp only [edge, ho, Option.map_some, Option.getD_some, Array.any_eq_true'] at h
 obtain ⟨e, he, h2⟩ := h
 simp only [Bool.and_eq_true, beq_iff_eq] at h2
 exact ⟨e, he, h2.1, h2.2⟩
theorem slot_some {s j : Nat} (h : slotOf ops R s = some j) : j < R.n ∧ dstO ops j = some s := by
 unfold slotOf at h
 have h1 := List.find?_some h
 have h2 := List.mem_of_find?_eq_some h
 exact ⟨List.mem_range.1 h2, by simpa using h1⟩
theorem slot_none {s : Nat} (h : slotOf ops R s = none) (j : Nat) (hj : j < R.n) : dstO ops j ≠ some s := by
 unfold slotOf at h
 have := List.find?_eq_none.1 h j (List.mem_range.2 hj)
 simpa using this
def Wn (R : Rg) (gk : Option (Nat × Bool)) (E : List Value) (g : Nat → Nat) : Prop :=
 match gk with | none => True | some (j, w) => yieldsV ((R.p j).full.ev E g) = some w
section
variable {L : Nat → Bool} {m : Nat} {E : List Value} {g : Nat → Nat} {H : List World} {a : Act} {W : World} {k : Nat} {o : Oper}
structure StK (ops : Array Oper) (R : Rg) (k : Nat) (o : Oper) : Prop where
 sel : noSel o = true
 dst : ∃ d, o.dst = some d ∧ d < R.F.length ∧ ∀ j, j < k → dstO ops j ≠ some d
 tm : ∀ s ∈ tmpsOf o, ∀ j, j < R.n → dstO ops j = some s → edge ops k j = true
 grd : ∀ j w, o.guard = some (j, w) → j < k ∧ edge ops k j = true ∧ (∀ b, (R.p k).kd ≠ .al b) ∧ (R.p j).full.ok (nvAt R (R.p k).need) [] = true
 need : (R.p k).need = 0 ∨ ∃ j, j < k ∧ edge ops k j = true ∧ (R.p k).need ≤ (R.p j).after
 bs : ∀ b ∈ (R.p k).bs, (R.p k).kd = .al b ∨ ∃ j, j < k ∧ edge ops k j = true ∧ b ∈ (R.p j).bs
 full : (R.p k).full.ok (nvAt R (R.p k).after) (allowed R (R.p k)) = true
 res : (R.p k).res.ok (nvAt R (R.p k).after) (allowed R (R.p k)) = true
theorem stK (S : Sta P ops R Pr) (hk : k < R.n) (ho : ops[k]? = some o) : StK ops R k o := by
 have h := S.k k hk
 unfold staticK at h
 rw [ho] at h
 simp only [Bool.and_eq_true] at h
 obtain ⟨⟨⟨⟨⟨⟨h1, h2⟩, h3⟩, h4⟩, h5⟩, h6⟩, h7⟩ := h
 refine ⟨h1, ?_, ?_, ?_, ?_, ?_, ?_, ?_⟩
 · cases hd : o.dst with
   | none => rw [hd] at h2; cases h2
   | some d =>
     rw [hd] at h2
     simp only [Bool.and_eq_true, decide_eq_true_eq, List.all_eq_true, List.mem_range, bne_iff_ne] at h2
     exact ⟨d, rfl, h2.1, h2.2⟩
 · intro s hs j hj hd
   rw [List.all_eq_true] at h3
   have := h3 s hs
   rw [List.all_eq_true] at this
   have := this j (List.mem_range.2 hj)
   simpa [hd] using this
 · intro j w hg
   rw [hg] at h4
   simp only [Bool.and_eq_true, decide_eq_true_eq] at h4
   refine ⟨h4.1.1.1, h4.1.1.2, ?_, h4.2⟩
   intro b hb
   have := h4.1.2
   rw [hb] at this; cases this
 · simp only [Bool.or_eq_true, beq_iff_eq, List.any_eq_true, List.mem_range, Bool.and_eq_true, decide_eq_true_eq] at h5
   rcases h5 with h | ⟨j, hj, h8, h9⟩
   · exact .inl h
   · exact .inr ⟨j, hj, h8, h9⟩
 · intro b hb
   rw [List.all_eq_true] at h6
   have := h6 b hb
   simp only [Bool.or_eq_true, List.any_eq_true, List.mem_range, Bool.and_eq_true, List.contains_iff_mem] at this
   rcases this with h | ⟨j, hj, h8, h9⟩
   · left
     cases hkd : (R.p k).kd with
     | al b' => rw [hkd] at h; simp at h; rw [h]
     | _ => rw [hkd] at h; cases h
   · exact .inr ⟨j, hj, h8, h9⟩
 · cases hkd : (R.p k).kd with
   | val => rw [hkd] at h7; simp only [Bool.and_eq_true] at h7; simpa [Pn.after, hkd] using h7.2
   | fx => rw [hkd] at h7; simp only [Bool.and_eq_true] at h7; simpa [Pn.after, hkd] using h7.2
   | pk => rw [hkd] at h7; simp only [Bool.and_eq_true] at h7; simpa [Pn.after, hkd] using h7.2
   | ld b c => rw [hkd] at h7; simp only [Bool.and_eq_true] at h7; simpa [Pn.after, hkd] using h7.2
   | al b => rw [hkd] at h7; simp only [Bool.and_eq_true] at h7; simpa [Pn.after, hkd] using h7.1.1.2
   | cl i f args nv bs => rw [hkd] at h7; simp only [Bool.and_eq_true] at h7; simpa [Pn.after, hkd] using h7.1.1.1.2
 · cases hkd : (R.p k).kd with
   | val => rw [hkd] at h7; simp only [Bool.and_eq_true] at h7; simpa [Pn.after, hkd] using h7.1
   | fx => rw [hkd] at h7; simp only [Bool.and_eq_true] at h7; simpa [Pn.after, hkd] using h7.1
   | pk => rw [hkd] at h7; simp only [Bool.and_eq_true] at h7; simpa [Pn.after, hkd] using h7.1
   | ld b c => rw [hkd] at h7; simp only [Bool.and_eq_true] at h7; simpa [Pn.after, hkd] using h7.1.2
   | al b => rw [hkd] at h7; simp only [Bool.and_eq_true] at h7; simpa [Pn.after, hkd] using h7.1.1.1.2
   | cl i f args nv bs =>
     rw [hkd] at h7; simp only [Bool.and_eq_true] at h7
     have := h7.1.1.1.1.2
     simp only [Pn.after, hkd]
     exact Sy.ok_more (Nat.le_refl _) (fun b hb => by cases hb) _ this
theorem eval_told {gk : Option (Nat × Bool)} (S : Sta P ops R Pr) (I : Inv P ops R u w0 Fin Pr L m E g H a W) (hk : k < R.n) (ho : ops[k]? = some o) (haft : ∀ e ∈ o.after, Region.binds .any e = true → L e.on = true) (hw : Wn R gk E g) :
 ∀ x ∈ o.op.operands, a.eval x = rho ops R gk E g x := by
 intro x hx
 cases x with
 | const v => rfl
 | global v => rfl
 | func f => rfl
 | tmp s =>
   have hs : s ∈ tmpsOf o := by
    unfold tmpsOf
    rw [List.mem_filterMap]
    exact ⟨.tmp s, by simpa using hx, rfl⟩
   show a.tmps.getD s undef = (slotSy ops R gk s).ev E g
   unfold slotSy
   cases hsl : slotOf ops R s with
   | none =>
     exact I.old s fun j hj _ => slot_none hsl j hj
   | some j =>
     obtain ⟨hj, hd⟩ := slot_some hsl
     obtain ⟨e, he, hb, rfl⟩ := edge_of k j ho ((stK S hk ho).tm s hs j hj hd)
     have hL := haft e he hb
     rw [I.new _ s hj hL hd]
     dsimp only
     split
     · rename_i hgg
       rw [(S.sem _ hj E g I.pre).2]
       unfold grdK
       have hgg' : grdO ops e.on = gk := by simpa using hgg
       rw [hgg']
       cases hgd : gk with
       | none => rfl
       | some p =>
         obtain ⟨i, w⟩ := p
         rw [hgd] at hw
         simp only [Wn] at hw
         simp [grdv, hw]
     · rfl
theorem wanted_iff (S : Sta P ops R Pr) (I : Inv P ops R u w0 Fin Pr L m E g H a W) (hk : k < R.n) (ho : ops[k]? = some o) (haft : ∀ e ∈ o.after, Region.binds .any e = true → L e.on = true) :
 Region.wanted o (yielded ops a.tmps) = true ↔ Wn R o.guard E g := by
 unfold Region.wanted Wn
 cases hgd : o.guard with
 | none => simp
 | some p =>
   obtain ⟨j, w⟩ := p
   obtain ⟨h1, h2, -, -⟩ := (stK S hk ho).grd j w hgd
   obtain ⟨e, he, hb, rfl⟩ := edge_of k j ho h2
   have hL := haft e he hb
   have hj : e.on < R.n := Nat.lt_trans h1 hk
   have hj2 : e.on < ops.size := Nat.lt_of_lt_of_le hj S.n
   obtain ⟨d, hd, hdl, -⟩ := (stK S hj (Array.getElem?_eq_getElem hj2)).dst
   have hdo : dstO ops e.on = some d := by simp [dstO, Array.getElem?_eq_getElem hj2, hd]
   have hv := I.new _ d hj hL hdo
   have hsz : d < a.tmps.size := by rw [I.size]; exact hdl
   have : yielded ops a.tmps e.on = yieldsV ((R.p e.on).full.ev E g) := by
    unfold yielded
    rw [show ((ops[e.on]?).bind (·.dst)) = some d from hdo]
    simp only [Option.bind_some]
    rw [← hv]
    rw [Array.getElem?_eq_getElem hsz]
    simp only [Array.getD, hsz, dif_pos]
    show (match some a.tmps[d] with | some (Value.bool b) => some b | _ => none) = yieldsV a.tmps[d]
    cases a.tmps[d] <;> rfl
   simp only [this, beq_iff_eq]
end
end
section
variable {P : Program} {ops : Array Oper} {R : Rg} {u : TypeId} {w0 : World} {Fin : List Value → List World → Prop} {Pr : List Value → Prop}
variable {L : Nat → Bool} {m m' : Nat} {E E' : List Value} {g g' : Nat → Nat} {H H' : List World} {a : Act} {W W' : World} {k : Nat} {o : Oper}
structure AlK (R : Rg) (ops : Array Oper) (k b : Nat) : Prop where
 ge : R.nb ≤ b
 lt : b < R.bx.length
 mem : b ∈ (R.p k).bs
 ok : Sy.oks (nvAt R (R.p k).need) (allowed R (R.p k)) ((R.bx.map (·.c)).getD b []) = true
 uniq : ∀ j, j < k → (R.p j).kd ≠ .al b
theorem alK (S : Sta P ops R Pr) (hk : k < R.n) {b : Nat} (h : (R.p k).kd = .al b) : AlK R ops k b := by
 have hs := S.k k hk
 unfold staticK at hs
 cases ho : ops[k]? with
 | none => rw [ho] at hs; cases hs
 | some o =>
   rw [ho] at hs
   simp only [Bool.and_eq_true] at hs
   have h7 := hs.2
   rw [h] at h7
   simp only [Bool.and_eq_true, decide_eq_true_eq, List.contains_iff_mem, List.all_eq_true, List.mem_range] at h7
   obtain ⟨⟨⟨⟨⟨⟨h1, h2⟩, h3⟩, h4⟩, h5⟩, h6⟩, h8⟩ := h7
   refine ⟨h1, h2, h3, h6, ?_⟩
   intro j hj he
   have := h8 j hj
   rw [he] at this; simp at this
theorem cGet {b : Nat} {x : Bx} (h : R.bx[b]? = some x) : (R.bx.map (·.c)).getD b [] = x.c ∧ (R.bx.map (·.t)).getD b 0 = x.t := by
 simp [List.getD_eq_getElem?_getD, h]
theorem after_le (S : Sta P ops R Pr) (I : Inv P ops R u w0 Fin Pr L m E g H a W) {j : Nat} (hj : j < R.n) (hL : L j = true) : nvAt R (R.p j).after ≤ E.length := by
 rw [I.len]; exact nvAt_mono (I.need j hj hL)
theorem alive_allowed (I : Inv P ops R u w0 Fin Pr L m E g H a W) {j : Nat} (hj : j < R.n) (hL : L j = true) : ∀ b ∈ allowed R (R.p j), alive R L b := by
 intro b hb
 unfold allowed at hb
 rcases List.mem_append.1 hb with h | h
 · exact .inl (List.mem_range.1 h)
 · exact I.bsok j hj hL b h
theorem al_kept (S : Sta P ops R Pr) (I : Inv P ops R u w0 Fin Pr L m E g H a W) (hE : ∀ i, i < E.length → E'.getD i undef = E.getD i undef) (hg : ∀ b, alive R L b → g' b = g b) {b : Nat} {x : Bx} (hb : alive R L b) (hx : R.bx[b]? = some x) : Sy.evs E' g' x.c = Sy.evs E g x.c := by
 rcases hb with h | ⟨j, hj, hL, hkd⟩
 · refine Sy.evs_mono (n := R.n0) (B := List.range R.nb) (fun i hi => hE i (Nat.lt_of_lt_of_le hi ?_)) (fun b hb => hg b (.inl (List.mem_range.1 hb))) _ (S.bx b x h hx)
   rw [I.len]; exact Nat.le_trans nvAt_zero (nvAt_mono (Nat.zero_le _))
 · have ha := alK S hj hkd
   have hok := ha.ok
   rw [(cGet hx).1] at hok
   refine Sy.evs_mono (fun i hi => hE i (Nat.lt_of_lt_of_le hi ?_)) (fun b hb => hg b (alive_allowed I hj hL b hb)) _ hok
   have := after_le S I hj hL
   rwa [show (R.p j).after = (R.p j).need by simp [Pn.after, hkd]] at this
theorem hits_closed {L : Nat → Bool} (hcl : ∀ j o, ops[j]? = some o → L j = true → ∀ e ∈ o.after, Region.binds .any e = true → L e.on = true) : ∀ (f k j : Nat), hits ops f k j = true → (∀ i, edge ops k i = true → L i = true) → L j = true
 | 0, k, j, h, hk => hk j h
 | f + 1, k, j, h, hk => by
   simp only [hits, Bool.or_eq_true, List.any_eq_true, List.mem_range, Bool.and_eq_true] at h
   rcases h with h | ⟨i, _, h1, h2⟩
   · exact hk j h
   · refine hits_closed hcl f i j h2 (fun i' hi' => ?_)
     have hLi := hk i h1
     cases ho : ops[i]? with
     | none => simp [edge, ho] at hi'
     | some o =>
       obtain ⟨e, he, hb, rfl⟩ := edge_of i i' ho hi'
       exact hcl i o ho hLi e he hb
def add (L : Nat → Bool) (k : Nat) : Nat → Bool := fun j => L j || j == k
theorem add_k (L : Nat → Bool) (k : Nat) : add L k k = true := by simp [add]
theorem add_of {j : Nat} (h : L j = true) : add L k j = true := by simp [add, h]
theorem add_ne {j : Nat} (h : add L k j = true) (hn : j ≠ k) : L j = true := by
 simpa [add, hn] using h
theorem inv_next (S : Sta P ops R Pr) (I : Inv P ops R u w0 Fin Pr L m E g H a W) (hk : k < R.n) (ho : ops[k]? = some o) (hLk : L k = false) (haft : ∀ e ∈ o.after, Region.binds .any e = true → L e.on = true)
 (hm1 : (R.p k).kd.call = true → m' = m + 1 ∧ (R.p k).kd.ci = m) (hm2 : (R.p k).kd.call = false → m' = m)
 (hE : ∀ i, i < E.length → E'.getD i undef = E.getD i undef) (hg : ∀ b, alive R L b → g' b = g b) (hlen : E'.length = nvAt R m') (hone : (E'.all (·.oneCell')) = true) (hpre : Pr E')
 (hW : ∀ b, alive R L b → W'.heap[g b]? = W.heap[g b]?) (hsz : W.heap.size ≤ W'.heap.size)
 (hnew : ∀ b x, (R.p k).kd = .al b → R.bx[b]? = some x → W'.heap[g' b]? = some (.cells (Sy.evs E' g' x.c).toArray x.t (0, 0)) ∧ W.heap.size ≤ g' b ∧ g' b < W'.heap.size)
 (hneed : (R.p k).after ≤ m') (hw0 : w0.heap.size ≤ W.heap.size)
 (hobl : Obl P u w0 R.bx Fin ((R.ch.drop m').map (cpOf ops R)) E' H') (hreach : Reach u w0 H' W') {v : Value} (hv : v = (R.p k).full.ev E' g') :
 Inv P ops R u w0 Fin Pr (add L k) m' E' g' H' (a.put o.dst v) W' := by
 have hst := stK S hk ho
 obtain ⟨d, hd, hdl, hdu⟩ := hst.dst
 have hdo : dstO ops k = some d := by simp [dstO, ho, hd]
 have hmm : m ≤ m' := by
  cases hc : (R.p k).kd.call with
  | true => have := (hm1 hc).1; omega
  | false => have := hm2 hc; omega
 have hput : a.put o.dst v = { tmps := a.tmps.setIfInBounds d v, defers := [] } := by
  rw [hd]; simp [Act.put, I.defers]
 have hget : ∀ s, (a.tmps.setIfInBounds d v).getD s undef = if s = d then v else a.tmps.getD s undef := by
  intro s
  rw [Array.getD_eq_getD_getElem?, Array.getElem?_setIfInBounds]
  by_cases h : d = s
  · subst h
    rw [if_pos rfl, if_pos rfl]
    simp [I.size, hdl]
  · rw [if_neg h, if_neg (Ne.symm h), Array.getD_eq_getD_getElem?]
 have hdne : ∀ j d', j < R.n → j ≠ k → dstO ops j = some d' → d' ≠ d := by
  intro j d' hj hjk hjd he
  subst he
  rcases Nat.lt_or_gt_of_ne hjk with h | h
  · exact hdu j h hjd
  · have hj2 : j < ops.size := Nat.lt_of_lt_of_le hj S.n
    obtain ⟨d2, hd2, -, h3⟩ := (stK S hj (Array.getElem?_eq_getElem hj2)).dst
    have : dstO ops j = some d2 := by simp [dstO, Array.getElem?_eq_getElem hj2, hd2]
    rw [this] at hjd
    injection hjd with hjd
    subst hjd
    exact h3 k h hdo
 have hfull : ∀ j, j < R.n → L j = true → (R.p j).full.ev E' g' = (R.p j).full.ev E g := by
  intro j hj hL
  have hj2 : j < ops.size := Nat.lt_of_lt_of_le hj S.n
  exact Sy.ev_mono (fun i hi => hE i (Nat.lt_of_lt_of_le hi (after_le S I hj hL))) (fun b hb => hg b (alive_allowed I hj hL b hb)) _ (stK S hj (Array.getElem?_eq_getElem hj2)).full
 have halive : ∀ b, alive R (add L k) b → alive R L b ∨ (R.p k).kd = .al b := by
  rintro b (h | ⟨j, hj, hL, hkd⟩)
  · exact .inl (.inl h)
  · by_cases hjk : j = k
    · subst hjk; exact .inr hkd
    · exact .inl (.inr ⟨j, hj, add_ne hL hjk, hkd⟩)
 have halive2 : ∀ b, alive R L b → alive R (add L k) b := by
  rintro b (h | ⟨j, hj, hL, hkd⟩)
  · exact .inl h
  · exact .inr ⟨j, hj, add_of hL, hkd⟩
 have hbx : ∀ b, (R.p k).kd = .al b → ∃ x, R.bx[b]? = some x := fun b hb => ⟨_, List.getElem?_eq_getElem (alK S hk hb).lt⟩
 rw [hput]
 have hlt : ∀ b, alive R L b → g b < W.heap.size := fun b hb => by
  obtain ⟨x, hx⟩ := I.isb b hb
  exact (I.low b x hb hx).2
 refine ⟨rfl, by simp [I.size], ?_, ?_, hlen, hone, hpre, ?_, ?_, ?_, ?_, ?_, ?_, ?_, ?_, hobl, hreach⟩
 · intro s hs
   have hsd : s ≠ d := by
    rintro rfl
    exact hs k hk (add_k L k) hdo
   rw [hget, if_neg hsd, I.old s (fun j hj hL => hs j hj (add_of hL))]
   refine (Sy.ev_mono (n := R.n0) (B := List.range R.nb) (fun i hi => hE i (Nat.lt_of_lt_of_le hi ?_)) (fun b hb => hg b (.inl (List.mem_range.1 hb))) _ (oks_of_getD s S.F)).symm
   rw [I.len]; exact Nat.le_trans nvAt_zero (nvAt_mono (Nat.zero_le _))
 · intro j d' hj hL hjd
   by_cases hjk : j = k
   · subst hjk
     rw [hdo] at hjd; injection hjd with hjd; subst hjd
     rw [hget, if_pos rfl, hv]
   · rw [hget, if_neg (hdne j d' hj hjk hjd), I.new j d' hj (add_ne hL hjk) hjd, hfull j hj (add_ne hL hjk)]
 · intro j hj hc
   by_cases hjk : j = k
   · subst hjk
     obtain ⟨h1, h2⟩ := hm1 hc
     rw [add_k]; simp; omega
   · rw [show add L k j = L j by simp [add, hjk], I.call j hj hc]
     cases hck : (R.p k).kd.call with
     | false => rw [hm2 hck]
     | true =>
       obtain ⟨h1, h2⟩ := hm1 hck
       have hne : (R.p j).kd.ci ≠ m := by
        intro he
        have key : ∀ i, i < R.n → (R.p i).kd.call = true → R.ch[(R.p i).kd.ci]? = some i := by
         intro i hi hci
         have hs := S.k i hi
         unfold staticK at hs
         cases hoi : ops[i]? with
         | none => rw [hoi] at hs; cases hs
         | some o' =>
           rw [hoi] at hs
           simp only [Bool.and_eq_true] at hs
           have h7 := hs.2
           cases hkd : (R.p i).kd with
           | cl i' f args nv bs =>
             rw [hkd] at h7
             simp only [Bool.and_eq_true] at h7
             have := h7.1.1.1.1.1.1.2
             simpa [Kd.ci] using this
           | _ => rw [hkd] at hci; cases hci
        have k1 := key j hj hc
        have k2 := key k hk hck
        rw [he, ← h2, k2] at k1
        injection k1 with k1
        exact hjk k1.symm
       omega
 · intro j hj hL
   by_cases hjk : j = k
   · subst hjk; exact hneed
   · exact Nat.le_trans (I.need j hj (add_ne hL hjk)) hmm
 · intro j o' hjo hL e he hb
   by_cases hjk : j = k
   · subst hjk
     rw [ho] at hjo; injection hjo with hjo; subst hjo
     exact add_of (haft e he hb)
   · exact add_of (I.clos j o' hjo (add_ne hL hjk) e he hb)
 · intro b x hb hx
   rcases halive b hb with h | h
   · rw [hg b h, hW b h, I.box b x h hx, al_kept S I hE hg h hx]
   · exact (hnew b x h hx).1
 · intro b x hb hx
   rcases halive b hb with h | h
   · rw [hg b h]
     exact ⟨(I.low b x h hx).1, Nat.lt_of_lt_of_le (I.low b x h hx).2 hsz⟩
   · obtain ⟨h1, h2, h3⟩ := hnew b x h hx
     exact ⟨fun _ => by omega, h3⟩
 · intro b b' x x' hb hb' hx hx' hro hgg
   rcases halive b hb with h | h
   · rcases halive b' hb' with h' | h'
     · rw [hg b h, hg b' h'] at hgg
       exact I.inj b b' x x' h h' hx hx' hro hgg
     · have := (hnew b' x' h' hx').2.1
       have := hlt b h
       rw [hg b h] at hgg
       omega
   · rcases halive b' hb' with h' | h'
     · have := (hnew b x h hx).2.1
       have := hlt b' h'
       rw [hg b' h'] at hgg
       omega
     · rw [h] at h'; injection h'
 · intro b hb
   rcases halive b hb with h | h
   · exact I.isb b h
   · exact hbx b h
 · intro j hj hL b hb
   by_cases hjk : j = k
   · subst hjk
     rcases hst.bs b hb with h | ⟨i, hi, he, hbi⟩
     · exact .inr ⟨j, hk, add_k L j, h⟩
     · obtain ⟨e, hee, hbe, rfl⟩ := edge_of j i ho he
       exact halive2 b (I.bsok e.on (Nat.lt_trans hi hk) (haft e hee hbe) b hbi)
   · exact halive2 b (I.bsok j hj (add_ne hL hjk) b hb)
end
section
variable {P : Program} {ops : Array Oper} {R : Rg} {u : TypeId} {w0 : World} {Fin : List Value → List World → Prop} {Pr : List Value → Prop}
variable {L : Nat → Bool} {m m' : Nat} {E E' : List Value} {g g' : Nat → Nat} {H H' : List World} {a : Act} {W W' : World} {k : Nat} {o : Oper} {Q : Exit → Act → World → Prop}
theorem rho_kept (S : Sta P ops R Pr) (I : Inv P ops R u w0 Fin Pr L m E g H a W) (hk : k < R.n) (ho : ops[k]? = some o) (haft : ∀ e ∈ o.after, Region.binds .any e = true → L e.on = true)
 (hE : ∀ i, i < E.length → E'.getD i undef = E.getD i undef) (hg : ∀ b, alive R L b → g' b = g b) : ∀ x ∈ o.op.operands, rho ops R o.guard E' g' x = rho ops R o.guard E g x := by
 intro x hx
 cases x with
 | const v => rfl
 | global v => rfl
 | func f => rfl
 | tmp s =>
   have hs : s ∈ tmpsOf o := by
    unfold tmpsOf
    rw [List.mem_filterMap]
    exact ⟨.tmp s, by simpa using hx, rfl⟩
   show (slotSy ops R o.guard s).ev E' g' = (slotSy ops R o.guard s).ev E g
   unfold slotSy
   cases hsl : slotOf ops R s with
   | none =>
     refine Sy.ev_mono (n := R.n0) (B := List.range R.nb) (fun i hi => hE i (Nat.lt_of_lt_of_le hi ?_)) (fun b hb => hg b (.inl (List.mem_range.1 hb))) _ (oks_of_getD s S.F)
     rw [I.len]; exact Nat.le_trans nvAt_zero (nvAt_mono (Nat.zero_le _))
   | some j =>
     obtain ⟨hj, hd⟩ := slot_some hsl
     obtain ⟨e, he, hb, rfl⟩ := edge_of k j ho ((stK S hk ho).tm s hs j hj hd)
     have hL := haft e he hb
     have hj2 : e.on < ops.size := Nat.lt_of_lt_of_le hj S.n
     have hs := stK S hj (Array.getElem?_eq_getElem hj2)
     dsimp only
     split
     · exact Sy.ev_mono (fun i hi => hE i (Nat.lt_of_lt_of_le hi (after_le S I hj hL))) (fun b hb => hg b (alive_allowed I hj hL b hb)) _ hs.res
     · exact Sy.ev_mono (fun i hi => hE i (Nat.lt_of_lt_of_le hi (after_le S I hj hL))) (fun b hb => hg b (alive_allowed I hj hL b hb)) _ hs.full
theorem need_ok (S : Sta P ops R Pr) (I : Inv P ops R u w0 Fin Pr L m E g H a W) (hk : k < R.n) (ho : ops[k]? = some o) (haft : ∀ e ∈ o.after, Region.binds .any e = true → L e.on = true) : (R.p k).need ≤ m := by
 rcases (stK S hk ho).need with h | ⟨j, hj, he, hle⟩
 · omega
 · obtain ⟨e, hee, hb, rfl⟩ := edge_of k j ho he
   exact Nat.le_trans hle (I.need e.on (Nat.lt_trans hj hk) (haft e hee hb))
structure ClK (ops : Array Oper) (R : Rg) (k i : Nat) (args : List Sy) (nv : Nat) (bs : List Nat) : Prop where
 need : (R.p k).need = i
 ch : R.ch[i]? = some k
 prev : i = 0 ∨ hits ops 3 k (R.ch.getD (i - 1) 0) = true
 res : (R.p k).res.ok (nvAt R (i + 1)) [] = true
 bs : ∀ b ∈ bs, b < R.nb ∨ ∃ j, j < k ∧ edge ops k j = true ∧ b ∈ (R.p j).bs
theorem clK (S : Sta P ops R Pr) (hk : k < R.n) {i : Nat} {f : FuncId} {args : List Sy} {nv : Nat} {bs : List Nat} (h : (R.p k).kd = .cl i f args nv bs) : ClK ops R k i args nv bs := by
 have hs := S.k k hk
 unfold staticK at hs
 cases ho : ops[k]? with
 | none => rw [ho] at hs; cases hs
 | some o =>
   rw [ho] at hs
   simp only [Bool.and_eq_true] at hs
   have h7 := hs.2
   rw [h] at h7
   simp only [Bool.and_eq_true, beq_iff_eq, Bool.or_eq_true, List.all_eq_true, decide_eq_true_eq, List.any_eq_true, List.mem_range, List.contains_iff_mem] at h7
   obtain ⟨⟨⟨⟨⟨⟨⟨h1, h2⟩, h3⟩, h4⟩, h5⟩, h6⟩, h8⟩, h9⟩ := h7
   refine ⟨h1, h2, h3, h4, ?_⟩
   intro b hb
   rcases h8 b hb with h | ⟨j, hj, he, hm⟩
   · exact .inl h
   · exact .inr ⟨j, hj, he, hm⟩
theorem ci_eq (S : Sta P ops R Pr) (I : Inv P ops R u w0 Fin Pr L m E g H a W) (hk : k < R.n) (ho : ops[k]? = some o) (hLk : L k = false) (haft : ∀ e ∈ o.after, Region.binds .any e = true → L e.on = true)
 {i : Nat} {f : FuncId} {args : List Sy} {nv : Nat} {bs : List Nat} (h : (R.p k).kd = .cl i f args nv bs) : i = m := by
 have hc := clK S hk h
 have h1 := I.call k hk (by rw [h]; rfl)
 rw [hLk, h] at h1
 simp only [Kd.ci, Bool.false_eq_true, false_iff] at h1
 rcases hc.prev with h2 | h2
 · omega
 · have hLp : L (R.ch.getD (i - 1) 0) = true := hits_closed I.clos 3 k _ h2 fun i' hi' => by
    obtain ⟨e, hee, hb, rfl⟩ := edge_of k i' ho hi'
    exact haft e hee hb
   by_cases hi : i = 0
   · omega
   have hlt : i - 1 < R.ch.length := by
    have := List.getElem?_eq_some_iff.1 hc.ch
    obtain ⟨h3, -⟩ := this
    omega
   have hcj : R.ch[i - 1]? = some (R.ch.getD (i - 1) 0) := by
    rw [List.getD_eq_getElem?_getD, List.getElem?_eq_getElem hlt]; rfl
   obtain ⟨g1, g2, g3⟩ := S.ch _ _ hcj
   have := (I.call _ g1 g2).1 hLp
   omega
theorem nvAt_succ {i : Nat} (h : R.ch[i]? = some k) : nvAt R (i + 1) = nvAt R i + (R.p k).kd.nv := by
 unfold nvAt
 rw [List.take_add_one, h]
 simp [List.sum_append]; omega
theorem getD_append {E xs : List Value} {i : Nat} (h : i < E.length) : (E ++ xs).getD i undef = E.getD i undef := by
 simp [List.getD_eq_getElem?_getD, List.getElem?_append_left h]
theorem drop_of {i : Nat} (h : R.ch[i]? = some k) : (R.ch.drop i).map (cpOf ops R) = cpOf ops R k :: (R.ch.drop (i + 1)).map (cpOf ops R) := by
 obtain ⟨h1, h2⟩ := List.getElem?_eq_some_iff.1 h
 rw [List.drop_eq_getElem_cons h1, List.map_cons, h2]
theorem step_prefix (hPr : ∀ E xs, Pr E → Pr (E ++ xs)) (S : Sta P ops R Pr) (I : Inv P ops R u w0 Fin Pr L m E g H a W) (hk : k < R.n) (ho : ops[k]? = some o) (hLk : L k = false) (haft : ∀ e ∈ o.after, Region.binds .any e = true → L e.on = true)
 {K : Act → World → Prop} (hK : ∀ m' E' g' H' a' W', Inv P ops R u w0 Fin Pr (add L k) m' E' g' H' a' W' → K a' W') :
 if Region.wanted o (yielded ops a.tmps) = true then Oper.wp P o a W K Q else K (a.put o.dst undef) W := by
 have hst := stK S hk ho
 have hneed := need_ok S I hk ho haft
 have hw0 : w0.heap.size ≤ W.heap.size := I.reach.first.size
 have hgo : grdO ops k = o.guard := by simp [grdO, ho]
 by_cases hwd : Region.wanted o (yielded ops a.tmps) = true
 · rw [if_pos hwd]
   have hwn := (wanted_iff S I hk ho haft).1 hwd
   have hev := eval_told S I hk ho haft hwn
   have hfull : ∀ E' g', Pr E' → (∀ i, i < E.length → E'.getD i undef = E.getD i undef) → (∀ b, alive R L b → g' b = g b) → (R.p k).full.ev E' g' = (R.p k).res.ev E' g' := by
    intro E' g' hp hE hg
    rw [(S.sem k hk E' g' hp).2]
    unfold grdK
    rw [hgo]
    cases hgd : o.guard with
    | none => rfl
    | some p =>
      obtain ⟨j, w⟩ := p
      rw [hgd] at hwn
      simp only [Wn] at hwn
      obtain ⟨g1, g2, -, g4⟩ := hst.grd j w hgd
      have : (R.p j).full.ev E' g' = (R.p j).full.ev E g := by
       refine Sy.ev_mono (fun i hi => hE i (Nat.lt_of_lt_of_le hi ?_)) (fun b hb => by cases hb) _ g4
       rw [I.len]; exact nvAt_mono hneed
      simp [grdv, this, hwn]
   cases hkd : (R.p k).kd with
   | val =>
     have h1 := (S.sem k hk E g I.pre).1
     unfold lhsK rhsK at h1
     rw [ho, hkd] at h1
     simp only [Out.n.injEq] at h1
     rw [← execOp_congr hst.sel hev] at h1
     have hrun := runP_ok _ h1 W
     unfold Oper.wp
     rw [hrun]
     exact hK m E g H _ _ (inv_next S I hk ho hLk haft (by rw [hkd]; intro h; cases h) (fun _ => rfl) (fun _ _ => rfl) (fun _ _ => rfl) I.len I.one I.pre (fun _ _ => rfl) (Nat.le_refl _) (by rw [hkd]; intro b x h; cases h) (by simpa [Pn.after, hkd] using hneed) hw0 I.obl I.reach (hfull E g I.pre (fun _ _ => rfl) (fun _ _ => rfl)).symm)
   | pk =>
     have h1 := (S.sem k hk E g I.pre).1
     unfold lhsK rhsK at h1
     rw [ho, hkd] at h1
     cases hop : o.op with
     | pick x y z =>
       cases x with
       | tmp s =>
         simp only [hop] at h1
         cases hsl : slotOf ops R s with
         | none => rw [hsl] at h1; simp at h1
         | some j =>
           rw [hsl] at h1
           simp only [Out.s.injEq, List.cons.injEq, and_true, true_and] at h1
           obtain ⟨e1, e2, e3, e4⟩ := h1
           obtain ⟨hj, hdj⟩ := slot_some hsl
           have hx : a.eval (.tmp s) = rho ops R o.guard E g (.tmp s) := hev (.tmp s) (by simp [hop, Op.operands])
           have hjL : L j = true := by
            obtain ⟨e, he, hb, rfl⟩ := edge_of k j ho (hst.tm s (by
             unfold tmpsOf
             rw [List.mem_filterMap]
             exact ⟨.tmp s, by simp [hop, Op.operands], rfl⟩) j hj hdj)
            exact haft e he hb
           have hfj : (R.p j).full.ev E g = a.eval (.tmp s) := (I.new j s hj hjL hdj).symm
           obtain ⟨c, hc⟩ : ∃ c, rho ops R o.guard E g (.tmp s) = .bool c := ⟨_, e1⟩
           have hwj : Wn R (some (j, c)) E g := by
            show yieldsV ((R.p j).full.ev E g) = some c
            rw [hfj, hx, hc]; rfl
           have hrun : (execOp a.eval o).run P W = .ok (.value ((R.p k).res.ev E g)) W := by
            simp only [execOp, hop]
            rw [hx, hc]
            simp only [asBool, Sem.run_bind, Sem.run_pure, Result.andThen_ok]
            rw [e4]
            rw [hc]
            cases c with
            | true =>
              rw [if_pos rfl, eval_told S I hk ho haft hwj y (by simp [hop, Op.operands]), e2]
              rfl
            | false =>
              rw [if_neg (by decide), eval_told S I hk ho haft hwj z (by simp [hop, Op.operands]), e3]
              rfl
           unfold Oper.wp
           rw [hrun]
           exact hK m E g H _ _ (inv_next S I hk ho hLk haft (by rw [hkd]; intro h; cases h) (fun _ => rfl) (fun _ _ => rfl) (fun _ _ => rfl) I.len I.one I.pre (fun _ _ => rfl) (Nat.le_refl _) (by rw [hkd]; intro b x h; cases h) (by simpa [Pn.after, hkd] using hneed) hw0 I.obl I.reach (hfull E g I.pre (fun _ _ => rfl) (fun _ _ => rfl)).symm)
       | _ => simp [hop] at h1
     | _ => simp [hop] at h1
   | fx =>
     have h1 := S.fx k o hk ho hkd E g I.pre
     rw [← execOp_congr hst.sel hev] at h1
     have hrun := runP_ok _ h1 W
     unfold Oper.wp
     rw [hrun]
     exact hK m E g H _ _ (inv_next S I hk ho hLk haft (by rw [hkd]; intro h; cases h) (fun _ => rfl) (fun _ _ => rfl) (fun _ _ => rfl) I.len I.one I.pre (fun _ _ => rfl) (Nat.le_refl _) (by rw [hkd]; intro b x h; cases h) (by simpa [Pn.after, hkd] using hneed) hw0 I.obl I.reach (hfull E g I.pre (fun _ _ => rfl) (fun _ _ => rfl)).symm)
   | ld b off =>
     have hs := S.k k hk
     unfold staticK at hs
     rw [ho] at hs
     simp only [Bool.and_eq_true] at hs
     have h7 := hs.2
     rw [hkd] at h7
     simp only [Bool.and_eq_true, decide_eq_true_eq] at h7
     obtain ⟨⟨⟨hb1, hb2⟩, -⟩, -⟩ := h7
     have h1 := (S.sem k hk E g I.pre).1
     unfold lhsK rhsK at h1
     rw [ho, hkd] at h1
     cases hop : o.op with
     | load t x =>
       simp only [hop, Out.l.injEq] at h1
       have hx := hev x (by simp [hop, Op.operands])
       obtain ⟨x0, hbx⟩ : ∃ x, R.bx[b]? = some x := ⟨_, List.getElem?_eq_getElem hb2⟩
       rw [(cGet hbx).1] at h1
       have hh := I.box b _ (.inl hb1) hbx
       have hl := load_ok hh h1.2
       have hrun : (execOp a.eval o).run P W = .ok (.value ((R.p k).res.ev E g)) W := by
        simp only [execOp, hop]
        rw [hx, h1.1, Sem.run_bind, hl]; rfl
       unfold Oper.wp
       rw [hrun]
       exact hK m E g H _ _ (inv_next S I hk ho hLk haft (by rw [hkd]; intro h; cases h) (fun _ => rfl) (fun _ _ => rfl) (fun _ _ => rfl) I.len I.one I.pre (fun _ _ => rfl) (Nat.le_refl _) (by rw [hkd]; intro b x h; cases h) (by simpa [Pn.after, hkd] using hneed) hw0 I.obl I.reach (hfull E g I.pre (fun _ _ => rfl) (fun _ _ => rfl)).symm)
     | _ => simp [hop] at h1
   | al b =>
     have ha := alK S hk hkd
     have hnal : ¬ alive R L b := by
      rintro (h | ⟨j, hj, hL, hj2⟩)
      · have := ha.ge; omega
      · rcases Nat.lt_trichotomy j k with h | h | h
        · exact ha.uniq j h hj2
        · subst h; rw [hLk] at hL; cases hL
        · exact (alK S hj hj2).uniq k h hkd
     obtain ⟨g', hg'⟩ : ∃ g' : Nat → Nat, g' = fun b' => if b' = b then W.heap.size else g b' := ⟨_, rfl⟩
     have hgb : g' b = W.heap.size := by rw [hg']; simp
     have hgo' : ∀ b', alive R L b' → g' b' = g b' := by
      intro b' hb'
      have : b' ≠ b := by rintro rfl; exact hnal hb'
      rw [hg']; simp [this]
     have h1 := (S.sem k hk E g' I.pre).1
     unfold lhsK rhsK at h1
     rw [ho, hkd] at h1
     simp only [Out.a.injEq] at h1
     have hev' : ∀ x ∈ o.op.operands, a.eval x = rho ops R o.guard E g' x := fun x hx => (hev x hx).trans (rho_kept S I hk ho haft (fun _ _ => rfl) hgo' x hx).symm
     rw [← execOp_congr hst.sel hev', hgb] at h1
     have hrun := runA_ok _ h1
     obtain ⟨x0, hbx⟩ : ∃ x, R.bx[b]? = some x := ⟨_, List.getElem?_eq_getElem ha.lt⟩
     rw [(cGet hbx).1, (cGet hbx).2] at hrun
     unfold Oper.wp
     rw [hrun]
     refine hK m E g' H _ _ (inv_next S I hk ho hLk haft (by rw [hkd]; intro h; cases h) (fun _ => rfl) (fun _ _ => rfl) hgo' I.len I.one I.pre (fun b' hb' => ?_) (by rw [size_alloc']; omega) ?_ (by simpa [Pn.after, hkd] using hneed) hw0 I.obl ?_ (hfull E g' I.pre (fun _ _ => rfl) hgo').symm)
     · obtain ⟨x, hx⟩ := I.isb b' hb'
       exact Below.heap_alloc _ _ _ (I.low b' x hb' hx).2
     · intro b' x hb' hx
       rw [hkd] at hb'; injection hb' with hb'; subst hb'
       rw [hbx] at hx; injection hx with hx; subst hx
       rw [hgb, size_alloc']
       exact ⟨blk_new W _, Nat.le_refl _, Nat.lt_succ_self _⟩
     · exact I.reach.next (below_alloc yr _)
   | cl i f args nv bs =>
     have hc := clK S hk hkd
     have him := ci_eq S I hk ho hLk haft hkd
     subst him
     have h1 := (S.sem k hk E g I.pre).1
     unfold lhsK rhsK at h1
     rw [ho, hkd] at h1
     cases hop : o.op with
     | call c =>
       simp only [hop] at h1
       cases hce : c.callee with
       | value x =>
         simp only [hce] at h1
         have hcx := hev x (by simp [hop, Op.operands, Call.operands, hce])
         have hca : c.args.map a.eval = c.args.map (rho ops R o.guard E g) := arr_congr fun y hy => hev y (by simp [hop, Op.operands, Call.operands, hy])
         have hrun : (execOp a.eval o).run P W = .ok (.enter f (Sy.evs E g args).toArray) W := by
          cases hfv : rho ops R o.guard E g x with
          | func fn ff cs =>
            rw [hfv] at h1
            simp only [Out.c.injEq, Value.func.injEq] at h1
            obtain ⟨⟨rfl, -, -⟩, h2⟩ := h1
            simp only [execOp, hop, resolve, hce, hca]
            rw [hcx, hfv]
            have hent := S.ent k hk _ _ _ _ _ hkd (ff ++ c.args.map (rho ops R o.guard E g) ++ cs) W
            rw [h2] at hent
            simp [Deferred.ofValue, invoke, h2, hent]
          | _ => rw [hfv] at h1; simp at h1
         unfold Oper.wp
         rw [hrun]
         have hobl := I.obl
         rw [drop_of hc.ch] at hobl
         have hcp : cpOf ops R k = ⟨f, args, nv, (R.p k).res, bs, o.guard.map fun (j, w) => ((R.p j).full, w)⟩ := by
          unfold cpOf; rw [hkd, hgo]
         rw [hcp] at hobl
         have hbxs : ∀ b ∈ bs, ∀ x, R.bx[b]? = some x → W.heap[g b]? = some (.cells (Sy.evs E g x.c).toArray x.t (0, 0)) := by
          intro b hb x hx
          refine I.box b x ?_ hx
          rcases hc.bs b hb with h | ⟨j, hj, he, hm⟩
          · exact .inl h
          · obtain ⟨e, hee, hbe, rfl⟩ := edge_of k j ho he
            exact I.bsok e.on (Nat.lt_trans hj hk) (haft e hee hbe) b hm
         have hcalls : Calls P f (Sy.evs E g args).toArray W fun e W' => ∃ xs : List Value, xs.length = nv ∧ (xs.all (·.oneCell')) = true ∧ e = .returned ((R.p k).res.ev (E ++ xs) g) ∧ BL W W' ∧ Obl P u w0 R.bx Fin ((R.ch.drop (i + 1)).map (cpOf ops R)) (E ++ xs) (H ++ [W']) := by
          cases hgd : o.guard with
          | none =>
            rw [hgd] at hobl
            exact hobl W g I.reach hbxs
          | some p =>
            obtain ⟨j, w⟩ := p
            rw [hgd] at hobl hwn
            simp only [Wn] at hwn
            obtain ⟨g1, g2, -, g4⟩ := hst.grd j w hgd
            have : (R.p j).full.ev E (fun _ => 0) = (R.p j).full.ev E g := Sy.ev_mono (fun _ _ => rfl) (fun b hb => by cases hb) _ g4
            exact hobl.1 (by show yieldsV ((R.p j).full.ev E fun _ => 0) = some w; rw [this]; exact hwn) W g I.reach hbxs
         refine hcalls.mono ?_
         rintro e W' ⟨xs, hxl, hx1, rfl, hbw, hob⟩
         show K (a.put o.dst _) W'
         refine hK (i + 1) (E ++ xs) g (H ++ [W']) _ _ (inv_next S I hk ho hLk haft (by rw [hkd]; intro _; exact ⟨rfl, rfl⟩) (by rw [hkd]; intro h; cases h) (fun _ h => getD_append h) (fun _ _ => rfl) ?_ ?_ (hPr _ _ I.pre) ?_ hbw.size (by rw [hkd]; intro b x h; cases h) (by simp [Pn.after, hkd]) hw0 hob (I.reach.next hbw).push (hfull (E ++ xs) g (hPr _ _ I.pre) (fun _ h => getD_append h) (fun _ _ => rfl)).symm)
         · rw [List.length_append, hxl, I.len, nvAt_succ hc.ch, hkd]; rfl
         · rw [List.all_append, I.one, hx1]; rfl
         · intro b hb
           obtain ⟨x, hx⟩ := I.isb b hb
           exact hbw.block _ (I.low b x hb hx).2
       | _ => simp [hce] at h1
     | _ => simp [hop] at h1
 · rw [if_neg hwd]
   have hwn : ¬ Wn R o.guard E g := fun h => hwd ((wanted_iff S I hk ho haft).2 h)
   cases hgd : o.guard with
   | none => rw [hgd] at hwn; exact absurd trivial hwn
   | some p =>
     obtain ⟨j, w⟩ := p
     rw [hgd] at hwn
     simp only [Wn] at hwn
     obtain ⟨g1, g2, g3, g4⟩ := hst.grd j w hgd
     have hfull : ∀ E', Pr E' → (∀ i, i < E.length → E'.getD i undef = E.getD i undef) → (R.p k).full.ev E' g = undef := by
      intro E' hp hE
      rw [(S.sem k hk E' g hp).2]
      unfold grdK
      rw [hgo, hgd]
      have : (R.p j).full.ev E' g = (R.p j).full.ev E g := by
       refine Sy.ev_mono (fun i hi => hE i (Nat.lt_of_lt_of_le hi ?_)) (fun b hb => by cases hb) _ g4
       rw [I.len]; exact nvAt_mono hneed
      simp [grdv, this, hwn]
     cases hkd : (R.p k).kd with
     | al b => exact absurd hkd (g3 b)
     | pk =>
       exact hK m E g H _ _ (inv_next S I hk ho hLk haft (by rw [hkd]; intro h; cases h) (fun _ => rfl) (fun _ _ => rfl) (fun _ _ => rfl) I.len I.one I.pre (fun _ _ => rfl) (Nat.le_refl _) (by rw [hkd]; intro b x h; cases h) (by simpa [Pn.after, hkd] using hneed) hw0 I.obl I.reach (hfull E I.pre (fun _ _ => rfl)).symm)
     | fx =>
       exact hK m E g H _ _ (inv_next S I hk ho hLk haft (by rw [hkd]; intro h; cases h) (fun _ => rfl) (fun _ _ => rfl) (fun _ _ => rfl) I.len I.one I.pre (fun _ _ => rfl) (Nat.le_refl _) (by rw [hkd]; intro b x h; cases h) (by simpa [Pn.after, hkd] using hneed) hw0 I.obl I.reach (hfull E I.pre (fun _ _ => rfl)).symm)
     | val =>
       exact hK m E g H _ _ (inv_next S I hk ho hLk haft (by rw [hkd]; intro h; cases h) (fun _ => rfl) (fun _ _ => rfl) (fun _ _ => rfl) I.len I.one I.pre (fun _ _ => rfl) (Nat.le_refl _) (by rw [hkd]; intro b x h; cases h) (by simpa [Pn.after, hkd] using hneed) hw0 I.obl I.reach (hfull E I.pre (fun _ _ => rfl)).symm)
     | ld b off =>
       exact hK m E g H _ _ (inv_next S I hk ho hLk haft (by rw [hkd]; intro h; cases h) (fun _ => rfl) (fun _ _ => rfl) (fun _ _ => rfl) I.len I.one I.pre (fun _ _ => rfl) (Nat.le_refl _) (by rw [hkd]; intro b x h; cases h) (by simpa [Pn.after, hkd] using hneed) hw0 I.obl I.reach (hfull E I.pre (fun _ _ => rfl)).symm)
     | cl i f args nv bs =>
       have hc := clK S hk hkd
       have him := ci_eq S I hk ho hLk haft hkd
       subst him
       have hobl := I.obl
       rw [drop_of hc.ch] at hobl
       have hcp : cpOf ops R k = ⟨f, args, nv, (R.p k).res, bs, some ((R.p j).full, w)⟩ := by
        unfold cpOf; rw [hkd, hgo, hgd]; rfl
       rw [hcp] at hobl
       have : (R.p j).full.ev E (fun _ => 0) = (R.p j).full.ev E g := Sy.ev_mono (fun _ _ => rfl) (fun b hb => by cases hb) _ g4
       have hob := hobl.2 (by show yieldsV ((R.p j).full.ev E fun _ => 0) ≠ some w; rw [this]; exact hwn)
       refine hK (i + 1) (E ++ List.replicate nv (.bool false)) g H _ _ (inv_next S I hk ho hLk haft (by rw [hkd]; intro _; exact ⟨rfl, rfl⟩) (by rw [hkd]; intro h; cases h) (fun _ h => getD_append h) (fun _ _ => rfl) ?_ ?_ (hPr _ _ I.pre) (fun _ _ => rfl) (Nat.le_refl _) (by rw [hkd]; intro b x h; cases h) (by simp [Pn.after, hkd]) hw0 hob I.reach (hfull _ (hPr _ _ I.pre) (fun _ h => getD_append h)).symm)
       · rw [List.length_append, List.length_replicate, I.len, nvAt_succ hc.ch, hkd]; rfl
       · rw [List.all_append, I.one]
         simp [List.all_replicate, Value.oneCell']
end
section
variable {P : Program} {ops : Array Oper} {Q : Exit → Act → World → Prop}
theorem wpOps_inv (hac : Acyclic ops = true) (I : Array Bool → Act → World → Prop)
 (hstep : ∀ i o, ops[i]? = some o → ∀ (listed : Array Bool) a w, listed.size = ops.size → listed.getD i true = false → (o.after.all fun e => !Region.binds .any e || listed.getD e.on false) = true → (∀ j, j < i → listed.getD j false = true) → I listed a w → ∀ K : Act → World → Prop, Shut (∀ a' w', I (listed.setIfInBounds i true) a' w' → K a' w') → if Region.wanted o (yielded ops a.tmps) = true then Oper.wp P o a w K Q else K (a.put o.dst undef) w)
 (hend : ∀ listed a w, (∀ i, i < ops.size → listed.getD i false = true) → I listed a w → Q .normal a w) :
 ∀ (n i : Nat) (listed : Array Bool) a w, i + n = ops.size → listed.size = ops.size → (∀ j, j < ops.size → (listed.getD j false = true ↔ j < i)) → I listed a w → wpOps P ops Q ((List.range' i n)) a w
 | 0, i, listed, a, w, hn, hs, hl, hI => by
   simp only [List.range', wpOps]
   exact hend listed a w (fun j hj => (hl j hj).2 (by omega)) hI
 | n + 1, i, listed, a, w, hn, hs, hl, hI => by
   have hi : i < ops.size := by omega
   have ho : ops[i]? = some ops[i] := Array.getElem?_eq_getElem hi
   simp only [List.range', wpOps, ho]
   have hnl : listed.getD i true = false := by
    have : ¬ listed.getD i false = true := fun h => by have := (hl i hi).1 h; omega
    simpa [Array.getD, hs, hi] using this
   have haft : (ops[i].after.all fun e => !Region.binds .any e || listed.getD e.on false) = true := by
    rw [Array.all_eq_true']
    intro e he
    have hac' := List.all_eq_true.1 hac i (List.mem_range.2 hi)
    rw [ho] at hac'
    simp only [Option.map_some, Option.getD_some] at hac'
    rw [Array.all_eq_true'] at hac'
    have := hac' e he
    cases hb : Region.binds .any e
    · simp
    · have h3 : e.on < i := by simpa [hb] using this
      rw [(hl e.on (by omega)).2 h3]; rfl
   have := hstep i _ ho listed a w hs hnl haft (fun j hj => (hl j (by omega)).2 hj) hI (wpOps P ops Q (List.range' (i + 1) n)) (fun a' w' hI' => ?_)
   · split
     · rename_i hw
       rw [if_pos hw] at this
       exact .inl this
     · rename_i hw
       rw [if_neg hw] at this
       exact this
   · refine wpOps_inv hac I hstep hend n (i + 1) _ a' w' (by omega) (by simp [hs]) ?_ hI'
     intro j hj
     by_cases hji : j = i
     · subst hji
       rw [get_eq (by omega)]; simp
     · rw [get_ne (Ne.symm hji), hl j hj]; omega
theorem wp_region_both {id : Nat} {draw : Bool} {a : Act} {w : World} (hm : P.follows .mixedOrders = true) (hac : Acyclic ops = true) (I : Array Bool → Act → World → Prop) (h0 : I (Array.replicate ops.size false) a w) (h1 : I (Array.replicate ops.size false) a w.drew)
 (hstep : ∀ i o, ops[i]? = some o → ∀ (listed : Array Bool) a w, listed.size = ops.size → listed.getD i true = false → (o.after.all fun e => !Region.binds .any e || listed.getD e.on false) = true → (draw = false → ∀ j, j < i → listed.getD j false = true) → I listed a w → ∀ K : Act → World → Prop, Shut (∀ a' w', I (listed.setIfInBounds i true) a' w' → K a' w') → if Region.wanted o (yielded ops a.tmps) = true then Oper.wp P o a w K Q else K (a.put o.dst undef) w)
 (hend : ∀ listed a w, (∀ i, i < ops.size → listed.getD i false = true) → I listed a w → Q .normal a w) : (Code.region id ops draw).wp P Q a w := by
 cases draw
 · refine wp_region ?_
   rw [List.range_eq_range']
   refine wpOps_inv hac I (fun i o h1 L a w h2 h3 h4 h5 h6 => hstep i o h1 L a w h2 h3 h4 (fun _ => h5) h6) hend _ 0 _ a w (by omega) (by simp) ?_ h0
   intro j hj
   simp [Array.getD, hj]
 · exact wp_region_inv hm hac I h1 (fun i o h1 L a w h2 h3 h4 h6 => hstep i o h1 L a w h2 h3 h4 (fun h => by cases h) h6) hend
end
inductive Tl where
 | st (b o : Nat) (vs : List Sy)
 | mv (s : Sy)
section
variable (P : Program) (ops : Array Oper) (R : Rg) (tl : List Tl)
def rhoF (F : List Sy) (E : List Value) (g : Nat → Nat) : Operand → Value
 | .tmp s => (F.getD s default).ev E g
 | .const v => v
 | .global g => .pointer (some ⟨g, 0, none⟩)
 | .func f => .func (.func f) #[] #[]
def frame1 : List Sy := (List.range R.F.length).map fun s => match slotOf ops R s with | some j => (R.p j).full | none => R.F.getD s default
def tlS : Nat → List Sy × List Bx
 | 0 => (frame1 ops R, R.bx)
 | i + 1 =>
   match tl[i]?, (ops[R.n + i]?).bind (·.dst) with
   | some (.mv s), some d => ((tlS i).1.set d s, (tlS i).2)
   | some (.st b o vs), _ => ((tlS i).1, (tlS i).2.modify b fun x => { x with c := x.c.take o ++ vs ++ x.c.drop (o + vs.length) })
   | _, _ => tlS i
def oneS (E : List Value) (g : Nat → Nat) : Sy → Bool
 | .var _ => true
 | s => (s.ev E g).oneCell'
def lhsT (E : List Value) (g : Nat → Nat) (i : Nat) : Out :=
 match ops[R.n + i]?, tl[i]? with
 | some o, some (.st b off vs) => match o.op with | .store t x y => .s (rhoF (tlS ops R tl i).1 E g x) (rhoF (tlS ops R tl i).1 E g y).cells.toList ((P.info? t).map (·.size)) (vs.map (oneS E g)) | _ => .bad
 | some o, some (.mv s) => .n (runP P (execOp (rhoF (tlS ops R tl i).1 E g) o))
 | _, _ => .bad
def rhsT (E : List Value) (g : Nat → Nat) (i : Nat) : Out :=
 match tl[i]? with
 | some (.st b off vs) => .s (.pointer (some ⟨g b, off, none⟩)) (Sy.evs E g vs) (some vs.length) (vs.map fun _ => true)
 | some (.mv s) => .n (some (.value (s.ev E g)))
 | none => .bad
def staticT (dr : Bool) (u : TypeId) (nv : Nat) (i : Nat) : Bool :=
 match ops[R.n + i]?, tl[i]? with
 | some o, some t =>
   noSel o && o.guard.isNone && (!dr || (List.range (R.n + i)).all (hits ops 3 (R.n + i))) &&
   (match t with
     | .mv _ => (match o.dst with | some d => decide (d < R.F.length) | none => false)
     | .st b off vs => o.dst.isNone && (match (tlS ops R tl i).2[b]? with | some x => decide (off + vs.length ≤ x.c.length) && x.t != u && !x.ro | none => false) &&
        vs.all (fun | .var i => decide (i < nv) | _ => true))
 | _, _ => false
end
structure St (w0 : World) (F : List Sy) (bx : List Bx) (E : List Value) (g : Nat → Nat) (a : Act) (W : World) : Prop where
 act : a = ⟨(Sy.evs E g F).toArray, []⟩
 box : ∀ b x, bx[b]? = some x → W.heap[g b]? = some (.cells (Sy.evs E g x.c).toArray x.t (0, 0))
 low : ∀ b x, bx[b]? = some x → (x.ro = false → w0.heap.size ≤ g b) ∧ g b < W.heap.size
 inj : ∀ b b' x x', bx[b]? = some x → bx[b']? = some x' → (x.ro = false ∨ x'.ro = false) → g b = g b' → b = b'
 one : (E.all (·.oneCell')) = true
theorem St.next {w0 : World} {F : List Sy} {bx : List Bx} {E : List Value} {g : Nat → Nat} {a : Act} {W W' : World} (h : St w0 F bx E g a W) (hb : BL W W') : St w0 F bx E g a W' :=
 ⟨h.act, fun b x hx => by
  rw [hb.block _ (h.low b x hx).2]; exact h.box b x hx, fun b x hx => ⟨(h.low b x hx).1, Nat.lt_of_lt_of_le (h.low b x hx).2 hb.size⟩, h.inj, h.one⟩
theorem St.eval {w0 : World} {F : List Sy} {bx : List Bx} {E : List Value} {g : Nat → Nat} {a : Act} {W : World} (h : St w0 F bx E g a W) (x : Operand) : a.eval x = rhoF F E g x := by
 rw [h.act]
 cases x with
 | tmp s =>
   show (Sy.evs E g F).toArray.getD s undef = (F.getD s default).ev E g
   have := Sy.evs_getD E g F s
   rw [show (default : Sy) = .lit undef from rfl]
   simpa [Array.getD_eq_getD_getElem?, List.getD_eq_getElem?_getD] using this
 | _ => rfl
section
variable {P : Program} {ops : Array Oper} {R : Rg} {tl : List Tl} {u : TypeId} {w0 : World}
theorem modify_ro {bx : List Bx} {b b' : Nat} {f : List Sy → List Sy} {x : Bx} (h : (bx.modify b fun x => { x with c := f x.c })[b']? = some x) : ∃ y, bx[b']? = some y ∧ x.ro = y.ro := by
 rw [List.getElem?_modify] at h
 cases hy : bx[b']? with
 | none => rw [hy] at h; simp at h
 | some y =>
   rw [hy] at h
   simp only [Option.map_eq_map, Option.map_some, Option.some.injEq] at h
   refine ⟨y, rfl, ?_⟩
   subst h
   split <;> rfl
structure StaT (P : Program) (ops : Array Oper) (R : Rg) (tl : List Tl) (dr : Bool) (u : TypeId) (Pr : List Value → Prop) : Prop where
 size : ops.size = R.n + tl.length
 k : ∀ i, i < tl.length → staticT ops R tl dr u (nvAt R R.ch.length) i = true
 sem : ∀ i, i < tl.length → ∀ E g, Pr E → lhsT P ops R tl E g i = rhsT tl E g i
theorem step_tail {dr : Bool} {Pr : List Value → Prop} (T : StaT P ops R tl dr u Pr) {i : Nat} (hi : i < tl.length) {o : Oper} (ho : ops[R.n + i]? = some o) {E : List Value} {g : Nat → Nat} {a : Act} {W : World} {H : List World}
 (h : St w0 (tlS ops R tl i).1 (tlS ops R tl i).2 E g a W) (hr : Reach u w0 H W) (hE : nvAt R R.ch.length = E.length) (hpre : Pr E) {K : Act → World → Prop} {Q : Exit → Act → World → Prop}
 (hK : ∀ a' W', St w0 (tlS ops R tl (i + 1)).1 (tlS ops R tl (i + 1)).2 E g a' W' → Reach u w0 H W' → K a' W') :
 if Region.wanted o (yielded ops a.tmps) = true then Oper.wp P o a W K Q else K (a.put o.dst undef) W := by
 have hs := T.k i hi
 have hsem := T.sem i hi E g hpre
 unfold staticT at hs
 unfold lhsT rhsT at hsem
 have ht : tl[i]? = some tl[i] := List.getElem?_eq_getElem hi
 obtain ⟨t, htt⟩ : ∃ t, t = tl[i] := ⟨_, rfl⟩
 rw [← htt] at ht
 rw [ho, ht] at hs hsem
 simp only [Bool.and_eq_true, Option.isNone_iff_eq_none] at hs
 obtain ⟨⟨⟨hsel, hgd⟩, -⟩, h7⟩ := hs
 have hwd : Region.wanted o (yielded ops a.tmps) = true := by simp [Region.wanted, hgd]
 rw [if_pos hwd]
 have hex : execOp a.eval o = execOp (rhoF (tlS ops R tl i).1 E g) o := execOp_congr hsel (fun x _ => h.eval x)
 cases t with
 | mv s =>
   cases hd : o.dst with
   | none => rw [hd] at h7; cases h7
   | some d =>
     rw [hd] at h7
     simp only [decide_eq_true_eq] at h7
     simp only [Out.n.injEq] at hsem
     rw [← hex] at hsem
     have hrun := runP_ok _ hsem W
     unfold Oper.wp
     rw [hrun]
     refine hK _ W ⟨?_, ?_, ?_, ?_, h.one⟩ hr
     · show a.put o.dst _ = _
       rw [hd, h.act]
       have : tlS ops R tl (i + 1) = ((tlS ops R tl i).1.set d s, (tlS ops R tl i).2) := by
        rw [tlS]; simp [ht, ho, hd]
       rw [this]
       simp [Act.put, Sy.evs_set]
     all_goals
      have : (tlS ops R tl (i + 1)).2 = (tlS ops R tl i).2 := by
       rw [tlS]; simp [ht, ho, hd]
      rw [this]
     · exact h.box
     · exact h.low
     · exact h.inj
 | st b off vs =>
   simp only [Bool.and_eq_true, Option.isNone_iff_eq_none] at h7
   obtain ⟨⟨hd, h8⟩, h9⟩ := h7
   cases hx : (tlS ops R tl i).2[b]? with
   | none => rw [hx] at h8; cases h8
   | some x =>
     rw [hx] at h8
     simp only [Bool.and_eq_true, decide_eq_true_eq, bne_iff_ne, Bool.not_eq_true'] at h8
     obtain ⟨h8, hro⟩ := h8
     cases hop : o.op with
     | store t p y =>
       simp only [hop, Out.s.injEq] at hsem
       obtain ⟨e1, e2, e3, e4⟩ := hsem
       have hb : b < (tlS ops R tl i).2.length := (List.getElem?_eq_some_iff.1 hx).1
       have hh := h.box b x hx
       have hlen : (Sy.evs E g vs).length = vs.length := Sy.evs_length E g vs
       have hone : ∀ q ∈ Sy.evs E g vs, q.oneCell' = true := by
        have key : ∀ l : List Sy, (l.map (oneS E g) = l.map fun _ => true) → (l.all (fun | .var i => decide (i < nvAt R R.ch.length) | _ => true)) = true → ∀ q ∈ Sy.evs E g l, q.oneCell' = true := by
         intro l
         induction l with
         | nil => intro _ _ q hq; simp [Sy.evs] at hq
         | cons s r ih =>
           intro h1 h2 q hq
           simp only [List.map_cons, List.cons.injEq] at h1
           simp only [List.all_cons, Bool.and_eq_true] at h2
           simp only [Sy.evs, List.mem_cons] at hq
           rcases hq with rfl | hq
           · cases s with
             | var j =>
               have hj : j < E.length := by
                have := h2.1
                simp only [decide_eq_true_eq] at this
                omega
               simp only [Sy.ev]
               rw [List.getD_eq_getElem?_getD, List.getElem?_eq_getElem hj]
               exact List.all_eq_true.1 h.one _ (List.getElem_mem hj)
             | lit v => exact h1.1
             | ptr b o => exact h1.1
             | fn f l => exact h1.1
           · exact ih h1.2 h2.2 q hq
        exact key vs e4 h9
       have hfit : off + (Sy.evs E g vs).length ≤ (Sy.evs E g x.c).toArray.size := by
        simp [Sy.evs_length]; omega
       have hst := run_store_run (P := P) t (rhoF (tlS ops R tl i).1 E g y) (Sy.evs E g vs) hh e2 (by rw [e3, hlen]) hfit hone
       have hrun : (execOp a.eval o).run P W = .ok .skip (W.setCells (g b) off (Sy.evs E g vs)) := by
        rw [hex]; simp [execOp, hop, e1, hst]
       unfold Oper.wp
       rw [hrun]
       show K (a.put o.dst undef) _
       obtain ⟨cur', q3, q4, q5⟩ := setCells_row (Sy.evs E g vs) off W _ hh hfit
       obtain ⟨s1, s2, s3, s4⟩ := setCells_same (g b) (Sy.evs E g vs) off W
       have hS : tlS ops R tl (i + 1) = ((tlS ops R tl i).1, (tlS ops R tl i).2.modify b fun x => { x with c := x.c.take off ++ vs ++ x.c.drop (off + vs.length) }) := by
        rw [tlS]; simp [ht]
       have evapp : ∀ l l' : List Sy, Sy.evs E g (l ++ l') = Sy.evs E g l ++ Sy.evs E g l' := by
        intro l l'
        induction l with
        | nil => simp [Sy.evs]
        | cons s r ih => simp [Sy.evs, ih]
       have evtake : ∀ (l : List Sy) (n : Nat), Sy.evs E g (l.take n) = (Sy.evs E g l).take n := by
        intro l
        induction l with
        | nil => intro n; simp [Sy.evs]
        | cons s r ih => intro n; cases n <;> simp [Sy.evs, ih]
       have evdrop : ∀ (l : List Sy) (n : Nat), Sy.evs E g (l.drop n) = (Sy.evs E g l).drop n := by
        intro l
        induction l with
        | nil => intro n; simp [Sy.evs]
        | cons s r ih => intro n; cases n <;> simp [Sy.evs, ih]
       have hcur : cur' = (Sy.evs E g (x.c.take off ++ vs ++ x.c.drop (off + vs.length))).toArray := by
        apply Array.toList_inj.1
        rw [q5]
        simp only [evapp, evtake, evdrop, hlen]
       refine hK _ _ ⟨?_, ?_, ?_, ?_, h.one⟩ ⟨?_, ?_⟩
       · rw [hd, hS]; exact h.act
       · rw [hS]
         intro b' x' hx'
         rw [List.getElem?_modify] at hx'
         by_cases hbb : b = b'
         · subst hbb
           simp only [hx, if_pos, Option.map_eq_map, Option.map_some, Option.some.injEq] at hx'
           subst hx'
           rw [q3, hcur]
         · simp only [if_neg hbb, Option.map_eq_map, Option.map_id_fun', id_eq] at hx'
           have hb' : b' < (tlS ops R tl i).2.length := (List.getElem?_eq_some_iff.1 (by simpa using hx')).1
           have hx2 : (tlS ops R tl i).2[b']? = some x' := by simpa using hx'
           rw [setCells_far _ _ _ (fun he => hbb (h.inj b b' x x' hx hx2 (.inl hro) he.symm))]
           exact h.box b' x' hx2
       · rw [hS]
         intro b' x' hx'
         obtain ⟨y', hy', hyr⟩ := modify_ro (f := fun c => c.take off ++ vs ++ c.drop (off + vs.length)) hx'
         rw [s4, hyr]; exact h.low b' y' hy'
       · rw [hS]
         intro b1 b2 x1 x2 h1 h2
         obtain ⟨y1, hy1, hr1⟩ := modify_ro (f := fun c => c.take off ++ vs ++ c.drop (off + vs.length)) h1
         obtain ⟨y2, hy2, hr2⟩ := modify_ro (f := fun c => c.take off ++ vs ++ c.drop (off + vs.length)) h2
         rw [hr1, hr2]
         exact h.inj b1 b2 y1 y2 hy1 hy2
       · refine ⟨hr.first.os ▸ s1, hr.first.tape ▸ s2, hr.first.output ▸ s3, by rw [s4]; exact hr.first.size, fun k hk => ?_⟩
         rw [setCells_far _ _ _ (fun he => by have := (h.low b x hx).1 hro; omega)]
         exact hr.first.block k hk
       · intro j hw hj
         refine (hr.at_ j hw hj).trans ⟨s1, s2, s3, by rw [s4]; exact Nat.le_refl _, fun k hk => ?_⟩
         by_cases hkb : k = g b
         · subst hkb
           exact .inr ⟨_, _, x.t, h8.2, hh, q3⟩
         · exact .inl (setCells_far _ _ _ hkb)
     | _ => simp [hop] at hsem
end
section
variable {P : Program} {ops : Array Oper} {R : Rg} {tl : List Tl} {u : TypeId} {w0 : World}
theorem arr_ext {a b : Array Value} (hs : a.size = b.size) (h : ∀ i, a.getD i undef = b.getD i undef) : a = b := by
 apply Array.ext hs
 intro i h1 h2
 have := h i
 simpa [Array.getD, h1, h2] using this
theorem to_tail {Pr : List Value → Prop} (S : Sta P ops R Pr) {Fin : List Value → List World → Prop} {L : Nat → Bool} {m : Nat} {E : List Value} {g : Nat → Nat} {H : List World} {a : Act} {W : World} (I : Inv P ops R u w0 Fin Pr L m E g H a W) (hL : ∀ j, j < R.n → L j = true) :
 St w0 (frame1 ops R) R.bx E g a W ∧ Fin E H ∧ nvAt R R.ch.length = E.length := by
 have hm : R.ch.length ≤ m := by
  refine Nat.le_of_not_lt fun hlt => ?_
  have hk : R.ch[m]? = some R.ch[m] := List.getElem?_eq_getElem hlt
  obtain ⟨h1, h2, h3⟩ := S.ch _ _ hk
  have := (I.call _ h1 h2).1 (hL _ h1)
  omega
 have hal : ∀ b, b < R.bx.length → alive R L b := by
  intro b hb
  rcases Nat.lt_or_ge b R.nb with h | h
  · exact .inl h
  · obtain ⟨j, hj, hk⟩ := S.al b h hb
    exact .inr ⟨j, hj, hL j hj, hk⟩
 refine ⟨⟨?_, ?_, ?_, ?_, I.one⟩, ?_, ?_⟩
 · have : a.tmps = (Sy.evs E g (frame1 ops R)).toArray := by
    refine arr_ext (by simp [I.size, Sy.evs_length, frame1]) (fun s => ?_)
    have hr : (Sy.evs E g (frame1 ops R)).toArray.getD s undef = ((frame1 ops R).getD s default).ev E g := by
     have := Sy.evs_getD E g (frame1 ops R) s
     rw [show (default : Sy) = .lit undef from rfl]
     simpa [Array.getD_eq_getD_getElem?, List.getD_eq_getElem?_getD] using this
    rw [hr]
    by_cases hs : s < R.F.length
    · have h1 : (frame1 ops R).getD s default = match slotOf ops R s with | some j => (R.p j).full | none => R.F.getD s default := by
       unfold frame1
       rw [List.getD_eq_getElem?_getD, List.getElem?_map, List.getElem?_range hs]; rfl
      rw [h1]
      cases hsl : slotOf ops R s with
      | none => exact I.old s fun j hj _ => slot_none hsl j hj
      | some j =>
        obtain ⟨hj, hd⟩ := slot_some hsl
        exact I.new j s hj (hL j hj) hd
    · have h1 : (frame1 ops R).getD s default = .lit undef := by
       rw [List.getD_eq_getElem?_getD, List.getElem?_eq_none (by simp [frame1]; omega)]; rfl
      rw [h1, Array.getD_eq_getD_getElem?, Array.getElem?_eq_none (by rw [I.size]; omega)]
      simp [Sy.ev]
   have hd := I.defers
   cases a
   simp only at hd this
   rw [hd, this]
 · intro b x hx
   exact I.box b x (hal b (List.getElem?_eq_some_iff.1 hx).1) hx
 · intro b x hx; exact I.low b x (hal b (List.getElem?_eq_some_iff.1 hx).1) hx
 · intro b b' x x' hx hx'; exact I.inj b b' x x' (hal b (List.getElem?_eq_some_iff.1 hx).1) (hal b' (List.getElem?_eq_some_iff.1 hx').1) hx hx'
 · have := I.obl
   rw [List.drop_eq_nil_of_le hm] at this
   exact this
 · rw [I.len]; unfold nvAt
   rw [List.take_of_length_le hm, List.take_of_length_le (Nat.le_refl _)]
theorem region_core {id : Nat} {draw : Bool} {Q : Exit → Act → World → Prop} (hm : P.follows .mixedOrders = true) (hac : Acyclic ops = true) {Pr : List Value → Prop} (hPr : ∀ E xs, Pr E → Pr (E ++ xs)) (S : Sta P ops R Pr) (T : StaT P ops R tl draw u Pr) (hnb : R.nb ≤ R.bx.length)
 {E : List Value} {g : Nat → Nat} {H : List World} {a : Act} {W : World} (h0 : St w0 R.F (R.bx.take R.nb) E g a W) (hn : E.length = R.n0) (hp0 : Pr E) (hr : Reach u w0 H W)
 (hobl : Obl P u w0 R.bx (fun E H => ∀ a g W, Reach u w0 H W → St w0 (tlS ops R tl tl.length).1 (tlS ops R tl tl.length).2 E g a W → Q .normal a W) (R.ch.map (cpOf ops R)) E H) :
 (Code.region id ops draw).wp P Q a W := by
 obtain ⟨Fin, hFin⟩ : ∃ Fin : List Value → List World → Prop, Fin = fun E H => ∀ a g W, Reach u w0 H W → St w0 (tlS ops R tl tl.length).1 (tlS ops R tl tl.length).2 E g a W → Q .normal a W := ⟨_, rfl⟩
 rw [← hFin] at hobl
 have init : ∀ W', St w0 R.F (R.bx.take R.nb) E g a W' → Reach u w0 H W' → Inv P ops R u w0 Fin Pr (fun j => (Array.replicate ops.size false).getD j false) 0 E g H a W' := by
  intro W' h0 hr
  have hf : ∀ j, (Array.replicate ops.size false).getD j false = false := by
   intro j
   by_cases h : j < ops.size
   · simp [Array.getD, h]
   · simp [Array.getD, h]
  have hal : ∀ b, alive R (fun j => (Array.replicate ops.size false).getD j false) b → b < R.nb := by
   rintro b (h | ⟨j, hj, hL, _⟩)
   · exact h
   · exact absurd ((hf j).symm.trans hL) (by simp)
  have hlen : (R.bx.take R.nb).length = R.nb := by simp; omega
  refine ⟨by rw [h0.act], by rw [h0.act]; simp [Sy.evs_length], ?_, ?_, ?_, h0.one, hp0, ?_, ?_, ?_, ?_, ?_, ?_, ?_, ?_, ?_, hr⟩
  · intro s _
    exact h0.eval (.tmp s)
  · intro j d hj hL; exact absurd ((hf j).symm.trans hL) (by simp)
  · rw [hn]; simp [nvAt]
  · intro k hk hc; exact ⟨fun h => absurd ((hf k).symm.trans h) (by simp), fun h => absurd h (Nat.not_lt_zero _)⟩
  · intro j hj hL; exact absurd ((hf j).symm.trans hL) (by simp)
  · intro j o hj hL; exact absurd ((hf j).symm.trans hL) (by simp)
  · intro b x hb hx
    refine h0.box b x ?_
    rw [List.getElem?_take_of_lt (hal b hb)]; exact hx
  · intro b x hb hx; exact h0.low b x (by rw [List.getElem?_take_of_lt (hal b hb)]; exact hx)
  · intro b b' x x' hb hb' hx hx'; exact h0.inj b b' x x' (by rw [List.getElem?_take_of_lt (hal b hb)]; exact hx) (by rw [List.getElem?_take_of_lt (hal b' hb')]; exact hx')
  · intro b hb; exact ⟨_, List.getElem?_eq_getElem (Nat.lt_of_lt_of_le (hal b hb) hnb)⟩
  · intro j hj hL; exact absurd ((hf j).symm.trans hL) (by simp)
  · exact hobl
 have hf : ∀ j, R.n ≤ j → (Array.replicate ops.size false).getD j false = false := by
  intro j _
  by_cases h : j < ops.size
  · simp [Array.getD, h]
  · simp [Array.getD, h]
 refine wp_region_both hm hac (I := fun L a W => (∃ m E g H, Inv P ops R u w0 Fin Pr (fun j => L.getD j false) m E g H a W ∧ ∀ j, R.n ≤ j → L.getD j false = false) ∨
  (∃ i E g H, i ≤ tl.length ∧ (∀ j, L.getD j false = true ↔ j < R.n + i) ∧ St w0 (tlS ops R tl i).1 (tlS ops R tl i).2 E g a W ∧ Reach u w0 H W ∧ Fin E H ∧ nvAt R R.ch.length = E.length ∧ Pr E))
  (.inl ⟨0, E, g, H, init W h0 hr, hf⟩) (.inl ⟨0, E, g, H, init W.drew (h0.next (below_drew yr)) (hr.next (below_drew yr)), hf⟩) ?_ ?_
 · intro k o ho L a W hsz hnl haft hord hI K hK
   have hk : k < ops.size := by
    refine Classical.byContradiction fun hc => ?_
    rw [Array.getElem?_eq_none (by omega)] at ho
    cases ho
   have haft' : ∀ e ∈ o.after, Region.binds .any e = true → L.getD e.on false = true := by
    intro e he hb
    rw [Array.all_eq_true'] at haft
    have := haft e he
    rw [hb] at this
    simpa using this
   have hnl' := not_listed hnl
   have hedge : ∀ i, edge ops k i = true → L.getD i false = true := by
    intro i hi
    obtain ⟨e, he, hb, rfl⟩ := edge_of k i ho hi
    exact haft' e he hb
   have tail : ∀ i E g H, i < tl.length → k = R.n + i → (∀ j, L.getD j false = true ↔ j < R.n + i) → St w0 (tlS ops R tl i).1 (tlS ops R tl i).2 E g a W → Reach u w0 H W → Fin E H → nvAt R R.ch.length = E.length → Pr E →
    if Region.wanted o (yielded ops a.tmps) = true then Oper.wp P o a W K Q else K (a.put o.dst undef) W := by
    intro i E g H hi hki hL hst hr hfin hnv hpre
    subst hki
    refine step_tail T hi ho hst hr hnv hpre ?_
    intro a' W' h1 h2
    refine hK a' W' (.inr ⟨i + 1, E, g, H, hi, ?_, h1, h2, hfin, hnv, hpre⟩)
    intro j
    by_cases hj : j = R.n + i
    · subst hj
      rw [get_eq (by omega)]; simp
    · rw [get_ne (Ne.symm hj), hL j]; omega
   rcases hI with ⟨m, E, g, H, hI, hn⟩ | ⟨i, E, g, H, hi, hL, hst, hr, hfin, hnv, hpre⟩
   · rcases Nat.lt_or_ge k R.n with hkn | hkn
     · refine step_prefix hPr S hI hkn ho hnl' haft' ?_
       intro m' E' g' H' a' W' hI'
       refine hK a' W' (.inl ⟨m', E', g', H', ?_, ?_⟩)
       · have : (fun j => (L.setIfInBounds k true).getD j false) = add (fun j => L.getD j false) k := by
          funext j
          by_cases hj : j = k
          · subst hj
            rw [get_eq (by omega), add_k]
          · rw [get_ne (Ne.symm hj)]; simp [add, hj]
         rw [this]; exact hI'
       · intro j hj
         rw [get_ne (by omega)]; exact hn j hj
     · obtain ⟨i, rfl⟩ : ∃ i, k = R.n + i := ⟨k - R.n, by omega⟩
       have hi : i < tl.length := by have := T.size; omega
       have hs := T.k i hi
       have hcov : ∀ j, j < R.n + i → L.getD j false = true := by
        unfold staticT at hs
        rw [ho, List.getElem?_eq_getElem hi] at hs
        simp only [Bool.and_eq_true, Bool.or_eq_true, Bool.not_eq_true', List.all_eq_true, List.mem_range] at hs
        intro j hj
        rcases hs.1.2 with h | h
        · exact hord h j hj
        · exact hits_closed (L := fun j => L.getD j false) hI.clos 3 _ j (h j hj) hedge
       have hi0 : i = 0 := by
        refine Classical.byContradiction fun h0 => ?_
        have h1 := hcov R.n (by omega)
        rw [hn R.n (Nat.le_refl _)] at h1
        cases h1
       subst hi0
       obtain ⟨h1, h2, h3⟩ := to_tail S hI (fun j hj => hcov j (by omega))
       refine tail 0 E g H hi rfl ?_ h1 hI.reach h2 h3 hI.pre
       intro j
       constructor
       · intro h
         refine Classical.byContradiction fun hc => ?_
         rw [hn j (by omega)] at h; cases h
       · exact fun h => hcov j h
   · have hki : R.n + i ≤ k := by
      refine Nat.le_of_not_lt fun hlt => ?_
      rw [(hL k).2 hlt] at hnl'; cases hnl'
     obtain ⟨i', rfl⟩ : ∃ i', k = R.n + i' := ⟨k - R.n, by omega⟩
     have hi' : i' < tl.length := by have := T.size; omega
     have hs := T.k i' hi'
     unfold staticT at hs
     rw [ho, List.getElem?_eq_getElem hi'] at hs
     simp only [Bool.and_eq_true, Bool.or_eq_true, Bool.not_eq_true', List.all_eq_true, List.mem_range] at hs
     have hcov : ∀ j, j < R.n + i' → L.getD j false = true := by
      intro j hj
      rcases hs.1.2 with h | h
      · exact hord h j hj
      refine hits_closed (L := fun j => L.getD j false) ?_ 3 _ j (h j hj) hedge
      intro j o' hjo hLj e he hb
      have hj2 : j < R.n + i := (hL j).1 hLj
      refine (hL e.on).2 ?_
      have hac' := List.all_eq_true.1 hac j (List.mem_range.2 (by have := T.size; omega))
      rw [hjo] at hac'
      simp only [Option.map_some, Option.getD_some] at hac'
      rw [Array.all_eq_true'] at hac'
      have := hac' e he
      have h3 : e.on < j := by simpa [hb] using this
      omega
     have hii : i' = i := by
      refine Nat.le_antisymm (Nat.le_of_not_lt fun hlt => ?_) (by omega)
      have := (hL _).1 (hcov (R.n + i) (by omega))
      omega
     subst hii
     exact tail i' E g H hi' rfl hL hst hr hfin hnv hpre
 · intro L a W hall hI
   rcases hI with ⟨m, E, g, H, hI, hn⟩ | ⟨i, E, g, H, hi, hL, hst, hr, hfin, hnv, hpre⟩
   · have h0 : tl.length = 0 := by
      refine Classical.byContradiction fun hc => ?_
      have h1 := hall R.n (by have := T.size; omega)
      rw [hn R.n (Nat.le_refl _)] at h1; cases h1
     obtain ⟨h1, h2, h3⟩ := to_tail S hI (fun j hj => hall j (by have := S.n; omega))
     rw [hFin] at h2
     refine h2 a g W hI.reach ?_
     rw [h0]; exact h1
   · have hii : i = tl.length := by
      refine Nat.le_antisymm hi (Nat.le_of_not_lt fun hlt => ?_)
      have := (hL (R.n + i)).1 (hall _ (by have := T.size; omega))
      omega
     subst hii
     rw [hFin] at hfin
     exact hfin a g W hr hst
end
end Go.Proofs.YtkdicconchobfaaGreatDoor
