/- Part 2 of the library of this claim: what the program and the document compute, as contracts of their functions. -/
import Derived.Test.YtgpjplelgffocaaGreatDoorC1
import Derived.Deep.RegionWith
import Ieee.Arith
import Derived.Laws.FloatArith
import Derived.Laws.BitsAllLaws
set_option maxRecDepth 100000
set_option maxHeartbeats 8000000
namespace Go.Proofs.YtgpjplelgffocaaGreatDoor
open Go.RowKit Go.Proofs.YtgpjplelgffocaaGreatDoorW.PrintWords Limb
set_option linter.unusedVariables false
set_option linter.unusedSimpArgs false

theorem pmul_any (a b : List Nat) (A B : Option Addr) (na nb c d : Nat) (hna : a.length = na) (hnb : b.length = nb) (w : World) (ha : kU.C w A na a) (hb : kU.C w B nb b) (hc : na ≤ c) (hd : nb ≤ d) (wa : Wf a) (wb : Wf b) (la : na ≤ 1073741824) (lb : nb ≤ 1073741824) :
 Calls Tryz.prog 113 #[.slice A na c, .slice B nb d] w fun e w' => ∃ v, e = .returned v ∧ PL w' w.heap.size v (limbs (nv a * nv b)) ∧ Below w.heap.size w w' := by
 subst hna hnb
 have QA := yk (trim_any a A c w ha hc wa (by omega))
 have QB := yk (fun (m : Nat) => trim_any b B d (w.drewN m) (Kd.C_drewN hb _) hd wb (by omega))
 have CA := yk (C_trim ha wa)
 have CB := yk (C_trim hb wb)
 obtain ⟨L, hL⟩ : ∃ L, L = limbs (nv a) := ⟨_, rfl⟩
 obtain ⟨M, hM⟩ : ∃ M, M = limbs (nv b) := ⟨_, rfl⟩
 obtain ⟨n1, hn1⟩ : ∃ n, n = L.length := ⟨_, rfl⟩
 obtain ⟨n2, hn2⟩ : ∃ n, n = M.length := ⟨_, rfl⟩
 have ln1 : n1 ≤ 1073741824 := by have := limbs_nv_len wa; rw [hn1, hL]; omega
 have ln2 : n2 ≤ 1073741824 := by have := limbs_nv_len wb; rw [hn2, hM]; omega
 have WL := yk (show Wf L by rw [hL]; exact wf_limbs _)
 have WM := yk (show Wf M by rw [hM]; exact wf_limbs _)
 have VL := yk (show nv L = nv a by rw [hL, nv_limbs])
 have VM := yk (show nv M = nv b by rw [hM, nv_limbs])
 have NL := yk hn1.symm
 have NM := yk hn2.symm
 rw [← hL, ← hn1] at QA CA
 rw [← hM, ← hn2] at QB CB
 clear ha hb hc hd wa wb la lb hL hM hn1 hn2
 obtain ⟨N, hN⟩ : ∃ N, N = n1 + n2 := ⟨_, rfl⟩
 have hN1 : (n1 : Int) + n2 = (N : Int) := by omega
 have hN2 : N ≤ 2147483648 := by omega
 have hN3 : n1 ≤ N ∧ n2 ≤ N := by omega
 have HN := yk hN
 clear hN
 by_cases h0 : N = 0
 · subst h0
   obtain rfl : n1 = 0 := by omega
   obtain rfl : n2 = 0 := by omega
   clear hN1 hN2 hN3 HN
   have HZ := yk (show nv a * nv b = 0 by rw [← VL.out, List.length_eq_zero_iff.1 NL.out]; simp [nv])
   go_enter Tryz.func113, Tryz.ntmps113
   go_wp2_with (first
    | (go_at_call 58; first
    | (with_reducible refine QA.out.mono ?_; rintro e w_1 ⟨rfl, nq1, rfl⟩)
    | (with_reducible refine (QB.out _).mono ?_; rintro e w_2 ⟨rfl, nq2, hw2⟩; have W2 := yk (show Below w.heap.size w w_2 by rw [hw2]; exact pw_below_drewN (pw_below_drewN yr _) _); have C1 := yk (Kd.C_below CA.out W2.out); have C2 := yk (Kd.C_below CB.out W2.out); clear hw2))
    | ((with_reducible refine gate_dst (N := 23) rfl ?_); go_must (refine Kd.R_make kU (w0 := w_2) w_2.heap.size 23 rfl rfl 24 (.tmp 22) (.tmp 22) rfl (0 : Int) ?mx ?my Tryz.underlying24 (.int .u64 0) 8 info_word rfl (by decide) (by decide) 0 (ok := fun _ => True) (okp := fun _ => False) ?mz (fun _ h => h.elim) trivial (by omega) ?ml yr (Nat.le_refl _) ?_; (case mx => rfl); (case my => rfl); (case mz => rfl); (case ml => omega); intro v_3 w_3 ho hb hg hown; obtain ⟨A3, c3, rfl⟩ := Kd.R_slice ho; have HO := yk ho; have B3 := yk hb; clear ho hb hg hown)))
   go_loopw [26] (fun v26 wr => v26 = .int .i64 0 ∧ Aside0 (wr = w_3)) (fun _ _ => 0)
   case atStart => exact ⟨rfl, ⟨rfl⟩⟩
   case round =>
    obtain ⟨rfl, HE⟩ := hrel
    obtain rfl := HE.out
    have QT := yk (trim_own HO.out (by simpa using Wf.replicate 0) (by decide))
    have HV := yk (show nv (List.replicate ((0 : Int)).toNat 0) = nv a * nv b by rw [HZ.out]; simp [nv])
    go_wp2_with (go_at_call 58; refine QT.out.mono ?_; rintro e w5 ⟨v, rfl, ho, n5, rfl⟩; rw [HV.out] at ho; have HOO := yk ho; clear ho)
    go_ret
    exact ⟨_, rfl, HOO.out.lower W2.out.size, pw_below_drewN (below_then W2.out W2.out.size B3.out) _⟩
 have hNp : 0 < N := by omega
 clear h0
 go_enter Tryz.func113, Tryz.ntmps113
 go_wp2_with (first
  | (go_at_call 58; first
    | (with_reducible refine QA.out.mono ?_; rintro e w_1 ⟨rfl, nq1, rfl⟩)
    | (with_reducible refine (QB.out _).mono ?_; rintro e w_2 ⟨rfl, nq2, hw2⟩; have W2 := yk (show Below w.heap.size w w_2 by rw [hw2]; exact pw_below_drewN (pw_below_drewN yr _) _); have C1 := yk (Kd.C_below CA.out W2.out); have C2 := yk (Kd.C_below CB.out W2.out); clear hw2))
  | ((with_reducible refine gate_dst (N := 23) rfl ?_); go_must (refine Kd.R_make kU (w0 := w_2) w_2.heap.size 23 rfl rfl 24 (.tmp 22) (.tmp 22) rfl (N : Int) ?mx ?my Tryz.underlying24 (.int .u64 0) 8 info_word rfl (by decide) (by decide) 0 (ok := fun _ => True) (okp := fun _ => False) ?mz (fun _ h => h.elim) trivial (by omega) ?ml yr (Nat.le_refl _) ?_; (case mx => rfl); (case my => rfl); (case mz => rfl); (case ml => omega); intro v_3 w_3 ho hb hg hown; obtain ⟨g, cap, rfl, hg1, hg2, _⟩ := Kd.R_form ho (by simp; omega); rw [show (List.replicate ((N : Int)).toNat (0 : Nat)).length = N by simp] at ho ⊢; have HO := yk ho; have B3 := yk hb; have HG := yk hg1; clear ho hb hg hown hg1 hg2)))
 go_loopw [26] (fun v26 wr => ∃ (k : Nat) (o : List Nat), v26 = .int .i64 k ∧ k ≤ n1 ∧ Aside0 (Below w_2.heap.size w_2 wr) ∧ Aside0 (kU.R 23 wr w_2.heap.size (fun _ => True) (.slice (some ⟨g, 0, none⟩) N cap) o) ∧ Aside0 (o.length = N ∧ Wf o ∧ nv o = nv (L.take k) * nv M)) (fun v26 _ => n1 - (intOf v26).toNat)
 case atStart => exact ⟨0, _, rfl, Nat.zero_le _, B3, HO, ⟨by simp, Wf.replicate _, by rw [nv_replicate]; simp [nv]⟩⟩
 case round =>
  obtain ⟨k, o, rfl, hk, HB, HO1, HG1⟩ := hrel
  by_cases hlt : k < n1
  · obtain ⟨ad, x, hA', hx0, hcell⟩ := at_word (Kd.C_below C1.out HB.out) NL.out k hlt
    subst hA'
    have HX := yk (wd_of hx0)
    have hx64 : x < 18446744073709551616 := WL.out.get hx0
    clear hx0
    have hp0 : k + n2 < N := by have := HN.out; omega
    go_wp2
    go_loopw [8, 33] (fun v8 v33 wr => ∃ (j cy : Nat) (o : List Nat), v8 = .int .u64 cy ∧ v33 = .int .i64 j ∧ j ≤ n2 ∧ cy ≤ 18446744073709551615 ∧ Aside0 (Below w_2.heap.size w_2 wr) ∧ Aside0 (kU.R 23 wr w_2.heap.size (fun _ => True) (.slice (some ⟨g, 0, none⟩) N cap) o) ∧ Aside0 (o.length = N ∧ Wf o ∧ nv o + 2 ^ (64 * (k + j)) * cy = nv (L.take k) * nv M + 2 ^ (64 * k) * (x * nv (M.take j)) ∧ wd o (k + n2) = 0)) (fun _ v33 _ => n2 - (intOf v33).toNat)
    case atStart =>
     refine ⟨0, 0, o, rfl, rfl, Nat.zero_le _, by omega, HB, HO1, ⟨HG1.out.1, HG1.out.2.1, by rw [HG1.out.2.2]; simp [nv], ?_⟩⟩
     refine wd_small HG1.out.2.1 (k := k + n2) ?_ (Nat.le_refl _)
     rw [HG1.out.2.2, Nat.mul_add, Nat.pow_add]
     have h1 := nv_take_lt WL.out k
     have h2 := nv_lt WM.out
     rw [NM.out] at h2
     exact Nat.mul_lt_mul'' h1 h2
    case round =>
     clear HO1 HG1
     obtain ⟨j, cy, o, rfl, rfl, hj, hcy, HB', HO2, HG2⟩ := hrel
     by_cases hlt2 : j < n2
     · obtain ⟨bd, y, hB', hy0, hcell2⟩ := at_word (Kd.C_below C2.out HB'.out) NM.out j hlt2
       subst hB'
       have HY := yk (wd_of hy0)
       have hy64 : y < 18446744073709551616 := WM.out.get hy0
       clear hy0
       obtain ⟨p, hp⟩ : ∃ p, p = k + j := ⟨_, rfl⟩
       have hpN : p < N := by omega
       have hp1 : (k : Int) + j = (p : Int) := by omega
       have HP := yk hp
       obtain ⟨hw1, hw2, hput⟩ := put_word HO2.out hpN
       obtain ⟨w0, hw0⟩ : ∃ w0, w0 = wd o p := ⟨_, rfl⟩
       have hw64 : w0 < 18446744073709551616 := by rw [hw0]; exact wd_lt HG2.out.2.1 p
       rw [← hw0] at hw1
       obtain ⟨lo, hi, hlo, hlh, QM⟩ : ∃ lo hi : Nat, lo < 18446744073709551616 ∧ lo + 18446744073709551616 * hi = x * y ∧ ∀ m : World, Calls Tryz.prog 119 #[.int .u64 (x : Int), .int .u64 (y : Int)] m fun e w' => e = .returned (.tuple #[.int .u64 (hi : Int), .int .u64 (lo : Int)]) ∧ w' = m := ⟨x * y % 18446744073709551616, x * y / 18446744073709551616, Nat.mod_lt _ (by decide), Nat.mod_add_div _ _, fun m => Tryz.bits_Mul64 x y hx64 hy64 m⟩
       have QT := yk QM
       obtain ⟨s, c1', hs1, hs2, hs3, hs4⟩ : ∃ s c' : Nat, s < 18446744073709551616 ∧ c' ≤ 1 ∧ s + 18446744073709551616 * c' = lo + cy + 0 ∧ ∀ W : World, (callFunc 114 #[.int .u64 (lo : Int), .int .u64 (cy : Int), .int .u64 0]).run Tryz.prog W = .ok (.value (.tuple #[.int .u64 (s : Int), .int .u64 (c' : Int)])) W := ⟨(lo + cy + 0) % 18446744073709551616, (lo + cy + 0) / 18446744073709551616, by omega, by omega, by omega, fun W => Tryz.bits_Add64 lo cy 0 (by decide) W⟩
       obtain ⟨t, c2', ht1, ht2, ht3, ht4⟩ : ∃ s' c' : Nat, s' < 18446744073709551616 ∧ c' ≤ 1 ∧ s' + 18446744073709551616 * c' = w0 + s + 0 ∧ ∀ W : World, (callFunc 114 #[.int .u64 (w0 : Int), .int .u64 (s : Int), .int .u64 0]).run Tryz.prog W = .ok (.value (.tuple #[.int .u64 (s' : Int), .int .u64 (c' : Int)])) W := ⟨(w0 + s + 0) % 18446744073709551616, (w0 + s + 0) / 18446744073709551616, by omega, by omega, by omega, fun W => Tryz.bits_Add64 w0 s 0 (by decide) W⟩
       have hxy : x * y ≤ 18446744073709551615 * 18446744073709551615 := Nat.mul_le_mul (by omega) (by omega)
       obtain ⟨h1', hh1⟩ : ∃ h, h = hi + c1' := ⟨_, rfl⟩
       obtain ⟨h2', hh2⟩ : ∃ h, h = h1' + c2' := ⟨_, rfl⟩
       have hhi : h2' ≤ 18446744073709551615 := by omega
       have HT := yk (show t + 2 ^ 64 * h2' = w0 + x * y + cy by omega)
       have e1 : IntKind.u64.wrap ((hi : Int) + c1') = (h1' : Int) := by unfold IntKind.wrap; simp [IntKind.bits, IntKind.signed]; omega
       have e2 : IntKind.u64.wrap ((h1' : Int) + c2') = (h2' : Int) := by unfold IntKind.wrap; simp [IntKind.bits, IntKind.signed]; omega
       have HW0 := yk hw0
       have HPUT := yk hput
       have hst := run_store_word (P := Tryz.prog) (u := (t : Int)) hw1 hw2
       clear hw0 hp hput hxy hs3 ht3 hlh QM hh1 hh2
       go_wp2_with (go_at_call 119; refine (QT.out _).mono ?_; rintro e w' ⟨rfl, rfl⟩)
       go_roundw
       case rel =>
        refine ⟨j + 1, _, o.set p t, rfl, by go_num, by omega, by omega, ?hB, ?hO, ?hG⟩
        case hB => exact ⟨HB'.out.setCell HG.out _⟩
        case hO => exact ⟨HPUT.out t⟩
        case hG =>
         have hl : p < o.length := by have := HG2.out.1; omega
         refine ⟨by simp [HG2.out.1], HG2.out.2.1.set ht1, ?_, ?_⟩
         · rw [nv_take_succ M, HY.out]
           refine mul_step HG2.out.2.2.1 ?_ HT.out
           rw [← HP.out, HW0.out]
           exact nv_set hl t
         · rw [wd_set_ne (by have := HP.out; omega)]
           exact HG2.out.2.2.2
       case measure => simp [intOf]; omega
     · obtain rfl : j = n2 := by omega
       obtain ⟨p, hp⟩ : ∃ p, p = k + j := ⟨_, rfl⟩
       have hpN : p < N := by omega
       have hp1 : (k : Int) + j = (p : Int) := by omega
       have HP := yk hp
       obtain ⟨hw1, hw2, hput⟩ := put_word HO2.out hpN
       have HPUT := yk hput
       have hst := run_store_word (P := Tryz.prog) (u := (cy : Int)) hw1 hw2
       clear hp hput
       go_wp2
       go_roundw
       case rel =>
        refine ⟨k + 1, o.set p cy, by go_num, by omega, ?hB, ?hO, ?hG⟩
        case hB => exact ⟨HB'.out.setCell HG.out _⟩
        case hO => exact ⟨HPUT.out cy⟩
        case hG =>
         have hl : p < o.length := by have := HG2.out.1; omega
         refine ⟨by simp [HG2.out.1], HG2.out.2.1.set (by omega), ?_⟩
         rw [nv_take_succ L, HX.out]
         have e1 := nv_set hl cy
         have e2 := HG2.out.2.2.2
         rw [← HP.out] at e2
         rw [e2, HP.out] at e1
         have e3 := HG2.out.2.2.1
         rw [nv_take_all (l := M) (by rw [NM.out]; omega)] at e3
         rw [HP.out]
         exact mul_row e3 rfl (by omega)
       case measure => simp [intOf]; omega
  · obtain rfl : k = n1 := by omega
    have HF := yk (show nv o = nv a * nv b by rw [HG1.out.2.2, nv_take_all (by rw [NL.out]; omega), VL.out, VM.out])
    have QT := yk (trim_own HO1.out HG1.out.2.1 (by omega))
    go_wp2_with (go_at_call 58; refine QT.out.mono ?_; rintro e w5 ⟨v, rfl, ho, n5, rfl⟩; rw [HF.out] at ho; have HOO := yk ho; clear ho)
    go_ret
    have HB4 := below_then W2.out W2.out.size HB.out
    exact ⟨_, rfl, HOO.out.lower W2.out.size, pw_below_drewN HB4 _⟩
/-- A dyadic number of the program's own making: z * 2^e in its one form. -/
def PDy (w : World) (base : Nat) (v : Value) (z e : Int) : Prop :=
 ∃ A n c, v = .agg #[.bool (cneg z), .slice A n c, .int .i64 (cexp z e)] ∧ PL w base (.slice A n c) (limbs (cman z))
theorem PDy.c {w : World} {base : Nat} {v : Value} {z e : Int} (h : PDy w base v z e) : CDy w v z e := by
 obtain ⟨A, n, c, rfl, hr⟩ := h
 obtain ⟨A', c', he, hc, hC⟩ := hr.c
 injection he with h1 h2 h3
 subst h1 h2 h3
 exact ⟨A, _, c, rfl, hC, rfl, hc⟩
theorem PDy.lower {w : World} {b b' : Nat} {v : Value} {z e : Int} (h : PDy w b v z e) (hb : b' ≤ b) : PDy w b' v z e := by
 obtain ⟨A, n, c, rfl, hr⟩ := h
 exact ⟨A, n, c, rfl, hr.lower hb⟩
theorem PDy.below {w w1 : World} {b : Nat} {v : Value} {z e : Int} (h : PDy w b v z e) (hb : Below w.heap.size w w1) : PDy w1 b v z e := by
 obtain ⟨A, n, c, rfl, hr⟩ := h
 exact ⟨A, n, c, rfl, hr.below hb⟩
theorem PDy.grown {w w1 : World} {b g : Nat} {v : Value} {z e : Int} (h : PDy w b v z e) (hg : w.grownBy w1 (some g)) (hgb : g < b) : PDy w1 b v z e := by
 obtain ⟨A, n, c, rfl, hr⟩ := h
 exact ⟨A, n, c, rfl, hr.grown hg hgb⟩
theorem PDy.scale {w : World} {b : Nat} {v : Value} {z e : Int} (k : Nat) (h : PDy w b v z (e + k)) : PDy w b v (z * 2 ^ k) e := by
 obtain ⟨A, n, c, rfl, hr⟩ := h
 exact ⟨A, n, c, by rw [cneg_mul, cexp_mul], by rw [cman_mul]; exact hr⟩

theorem pform_any (neg : Bool) (l : List Nat) (A : Option Addr) (n c : Nat) (ex : Int) (hn : l.length = n) (w : World) (hl : kU.C w A n l) (hc : n ≤ c) (wl : Wf l) (ln : n ≤ 1073741824) (le1 : -1099511627776 ≤ ex) (le2 : ex ≤ 1099511627776) (hT : TabAt 0 Lib.deBruijn64tab w) :
 Calls Tryz.prog 30 #[.bool neg, .slice A n c, .int .i64 ex] w fun e w' => ∃ v, e = .returned v ∧ PDy w' w.heap.size v (sgn neg (nv l)) ex ∧ Below w.heap.size w w' := by
 subst hn
 have QN := yk (fun (m : World) (hm : Below w.heap.size w m) => trim_any l A c m (Kd.C_below hl hm) hc wl (by omega))
 have CL := yk (fun (m : World) (hm : Below w.heap.size w m) => C_trim (Kd.C_below hl hm) wl)
 have HT := yk (fun (m : World) (hm : Below w.heap.size w m) => tab_below hT hm)
 by_cases h0 : nv l = 0
 · have HZ := yk (show (limbs (nv l)).length = 0 by rw [h0, limbs_zero]; rfl)
   have HV := yk (show sgn neg (nv l) = 0 by rw [h0]; exact sgn_zero neg)
   rw [HZ.out] at QN
   clear hl h0 CL
   go_enter Tryz.func30, Tryz.ntmps30
   go_wp2_with (first
    | (go_at_call 58; go_must (refine (QN.out _ (below_alloc yr _)).mono ?_; rintro e w1 ⟨rfl, hw⟩; have hb := quiet_below hw; have HB := yk hb; have HH := yk (yb (blk_new w _) hb); clear hb hw))
    | ((with_reducible refine gate_store (p := 6) rfl ?_); go_must (refine sdy 6 (.tmp 15) rfl rfl rfl rfl rfl HH.out rfl ?_; intro wb HX HG)))
   refine bodyPost_ret (results_dyad rfl _ _ w.heap.size _ rfl HX.out rfl) rfl ?_
   refine ⟨_, rfl, ⟨none, 0, 0, by rw [HV.out]; rfl, by rw [HV.out, cman_zero, limbs_zero]; exact PL.nil _ _⟩, ?_⟩
   exact (below_then (below_alloc yr _) (below_alloc (Below.refl w.heap.size w) _).size HB.out).grown HG.out (below_then (below_alloc yr _) (below_alloc (Below.refl w.heap.size w) _).size HB.out).size (fun k hk => by cases hk; exact Nat.le_refl _)
 · obtain ⟨L, hL⟩ : ∃ L, L = limbs (nv l) := ⟨_, rfl⟩
   obtain ⟨n1, hn1⟩ : ∃ n, n = L.length := ⟨_, rfl⟩
   obtain ⟨k, hk⟩ : ∃ k, k = tz (nv l) := ⟨_, rfl⟩
   have hn0 : n1 ≠ 0 := by
    rw [hn1, hL]; intro h; exact h0 (limbs_eq_nil.1 (List.length_eq_zero_iff.1 h))
   have hnn : n1 ≤ 1073741824 := by have := limbs_nv_len wl; rw [hn1, hL]; omega
   have hkb : k ≤ 68719476736 := by
    have h1 := tz_lt_bl h0
    have h2 : bl (nv l) ≤ 64 * l.length := bl_le_iff.2 (nv_lt wl)
    omega
   have WL := yk (show Wf L by rw [hL]; exact wf_limbs _)
   have VL := yk (show nv L = nv l by rw [hL, nv_limbs])
   have NL := yk hn1.symm
   have HK := yk hk
   have HN0 := yk h0
   rw [← hL, ← hn1] at QN CL
   have QLow := yk (fun (m : World) (hm : Below w.heap.size w m) => (by
    have q := plow_any L A n1 m (by rw [NL.out]; exact CL.out m hm) (by rw [NL.out]; exact Nat.le_refl _) WL.out (by rw [NL.out]; exact hnn) (HT.out m hm)
    rw [NL.out, VL.out, ← HK.out] at q
    exact q : Calls Tryz.prog 60 #[.slice A n1 n1] m fun e w' => e = .returned (.int .i64 (k : Int)) ∧ ∃ n, w' = m.drewN n))
   have QShr := yk (fun (m : World) (hm : Below w.heap.size w m) => (by
    have q := pshr_any L A n1 n1 k NL.out m (CL.out m hm) (Nat.le_refl _) WL.out hnn hkb (HT.out m hm)
    rw [VL.out] at q
    exact q : Calls Tryz.prog 61 #[.slice A n1 n1, .int .i64 (k : Int)] m fun e w' => ∃ v, e = .returned (.tuple #[v, .bool (nv l % 2 ^ k != 0)]) ∧ PL w' m.heap.size v (limbs (nv l / 2 ^ k)) ∧ Below m.heap.size m w'))
   clear hl h0 hL hn1 hk
   have hz : ((n1 : Int) == 0) = false := by simp; omega
   have hex : IntKind.i64.wrap (ex + (k : Int)) = ex + k := wrap_i64 (by omega) (by omega)
   go_enter Tryz.func30, Tryz.ntmps30
   go_wp2_with (first
    | (go_at_call 58; go_must (refine (QN.out _ (below_alloc yr _)).mono ?_; rintro e w1 ⟨rfl, hw⟩; have hb := quiet_below hw; have HB := yk (below_then (below_alloc yr _) (below_alloc (Below.refl w.heap.size w) _).size hb); have HH := yk (yb (blk_new w _) hb); clear hb hw))
    | (go_at_call 60; go_must (refine (QLow.out _ HB.out).mono ?_; rintro e w2 ⟨rfl, hw⟩; have hb := quiet_below hw; have HB2 := yk (below_then HB.out HB.out.size hb); have HH2 := yk (yb HH.out hb); clear hb hw))
    | (go_at_call 61; go_must (refine (QShr.out _ HB2.out).mono ?_; rintro e w3 ⟨v, rfl, ho, hb⟩; obtain ⟨A2, c2, rfl, hc2, hC2⟩ := ho.c; have HO := yk ho; have HB3 := yk hb; have HH3 := yk (yb HH2.out hb); clear hb ho hC2))
    | ((with_reducible refine gate_store (p := 6) rfl ?_); go_must (refine sdy 6 (.tmp 29) rfl rfl rfl rfl rfl HH3.out rfl ?_; intro wb HX HG)))
   refine bodyPost_ret (results_dyad rfl _ _ w.heap.size _ rfl HX.out rfl) rfl ?_
   have b2 := below_then HB2.out HB2.out.size HB3.out
   refine ⟨_, rfl, ?_, b2.grown HG.out b2.size (fun k hk => by cases hk; exact Nat.le_refl _)⟩
   refine PDy.lower (b := w2.heap.size) ?_ HB2.out.size
   refine PDy.grown (w := w3) ?_ HG.out ?_
   · refine ⟨A2, (limbs (nv l / 2 ^ k)).length, c2, ?_, ?_⟩
     · rw [cneg_sgn HN0.out, cexp_sgn HN0.out, ← HK.out]
     · rw [cman_sgn, ← HK.out]; exact HO.out
   · exact blk_lt HH2.out

/-- The form of z * 2^e, moved: of a number in its form. -/
theorem form_at_self (z e : Int) (b : Bool) (h : b = cneg z ∨ z = 0) (k : Int) {w : World} {base : Nat} {v : Value} (hr : PDy w base v (sgn b (cman z)) (cexp z e + k)) : PDy w base v z (e + k) := by
 by_cases h0 : z = 0
 · subst h0
   rw [cman_zero, sgn_zero] at hr
   obtain ⟨A, n, c, rfl, hr⟩ := hr
   exact ⟨A, n, c, rfl, hr⟩
 · obtain rfl := h.resolve_right h0
   obtain ⟨j, e1, e2, _⟩ := of_form (e := e) h0
   rw [e1, show e + (j : Int) + k = e + k + j by omega] at hr
   have := PDy.scale j hr
   rw [← sgn_pow, ← e2] at this
   exact this
theorem cman_neg (z : Int) : cman (-z) = cman z := by unfold cman; rw [Int.natAbs_neg]
theorem cexp_neg (z e : Int) : cexp (-z) e = cexp z e := by unfold cexp; rw [Int.natAbs_neg]; by_cases h : z = 0 <;> simp [h]
theorem cman_abs (z : Int) : cman (z.natAbs : Int) = cman z := by unfold cman; rw [Int.natAbs_natCast]
theorem cexp_abs (z e : Int) : cexp (z.natAbs : Int) e = cexp z e := by unfold cexp; rw [Int.natAbs_natCast]; by_cases h : z = 0 <;> simp [h]
theorem cneg_abs (z : Int) : cneg (z.natAbs : Int) = false := by unfold cneg; exact decide_eq_false (by omega)
theorem cneg_neg {z : Int} (h : z ≠ 0) : cneg (-z) = !cneg z := by
 unfold cneg
 by_cases h1 : z < 0
 · rw [decide_eq_true h1, decide_eq_false (by omega)]; rfl
 · rw [decide_eq_false h1, decide_eq_true (by omega)]; rfl

theorem pone_dy (v : Value) (z e : Int) (w : World) (h : CDy w v z e) (hl : (limbs (cman z)).length ≤ 1073741824) (le1 : -549755813888 ≤ cexp z e) (le2 : cexp z e ≤ 549755813888) (hT : TabAt 0 Lib.deBruijn64tab w) :
 Calls Tryz.prog 87 #[v] w fun en w' => ∃ v', en = .returned v' ∧ PDy w' w.heap.size v' (z) (e) ∧ Below w.heap.size w w' := by
 obtain ⟨A, n, c, rfl, hC, hn, hc⟩ := h
 have QF := yk (fun (m : World) (hm : Below w.heap.size w m) => (by
  have q := pform_any (cneg z) (limbs (cman z)) A n c (cexp z e) hn m (Kd.C_below hC hm) hc (wf_limbs _) (by omega) (by omega) (by omega) (tab_below hT hm)
  refine q.mono ?_
  rintro en w' ⟨v', rfl, hr, hb⟩
  rw [nv_limbs] at hr
  exact ⟨v', rfl, by have := form_at_self z e (cneg z) (.inl rfl) 0 (by rw [Int.add_zero]; exact hr); rw [Int.add_zero] at this; exact this, hb⟩ : Calls Tryz.prog 30 #[.bool (cneg z), .slice A n c, .int .i64 (cexp z e)] m fun en w' => ∃ v', en = .returned v' ∧ PDy w' m.heap.size v' (z) (e) ∧ Below m.heap.size m w'))
 obtain ⟨x0, hx0⟩ : ∃ x, x = cexp z e := ⟨_, rfl⟩
 obtain ⟨b0, hb0⟩ : ∃ x, x = cneg z := ⟨_, rfl⟩
 rw [← hx0] at le1 le2
 simp only [← hx0, ← hb0] at QF
 rw [← hx0, ← hb0]
 clear hC hx0 hb0 hT
 go_enter Tryz.func87, Tryz.ntmps87
 go_wp2_with (first
  | (go_at_call 30; go_must (refine (QF.out _ (below_alloc (below_alloc yr _) _)).mono ?_; rintro e w1 ⟨v, rfl, ⟨A2, n2, c2, rfl, hr⟩, hb⟩; have HR := yk hr; have HB := yk (below_then (below_alloc (below_alloc (Below.refl w.heap.size w) _) _) (below_alloc (below_alloc (Below.refl w.heap.size w) _) _).size hb); have hh := yb (blk_new _ _) hb; rw [size_alloc'] at hh; have HH := yk hh; clear hr hb hh))
  | ((with_reducible refine gate_store (p := 2) rfl ?_); go_must (refine sdy 2 (.tmp 9) rfl rfl rfl rfl rfl HH.out rfl ?_; intro wb HX HG)))
 refine bodyPost_ret (results_dyad rfl _ _ (w.heap.size + 1) _ rfl HX.out rfl) rfl ?_
 refine ⟨_, rfl, PDy.lower (b := w.heap.size + 2) (PDy.grown (w := w1) ?_ HG.out (by omega)) (by omega), HB.out.grown HG.out HB.out.size (fun k hk => by cases hk; omega)⟩
 have h := HR.out
 rw [size_alloc', size_alloc'] at h
 exact ⟨A2, n2, c2, rfl, h⟩

theorem pneg_dy (v : Value) (z e : Int) (w : World) (h : CDy w v z e) (hl : (limbs (cman z)).length ≤ 1073741824) (le1 : -549755813888 ≤ cexp z e) (le2 : cexp z e ≤ 549755813888) (hT : TabAt 0 Lib.deBruijn64tab w) :
 Calls Tryz.prog 96 #[v] w fun en w' => ∃ v', en = .returned v' ∧ PDy w' w.heap.size v' (-z) (e) ∧ Below w.heap.size w w' := by
 obtain ⟨A, n, c, rfl, hC, hn, hc⟩ := h
 have QF := yk (fun (m : World) (hm : Below w.heap.size w m) => (by
  have q := pform_any (!cneg z) (limbs (cman z)) A n c (cexp z e) hn m (Kd.C_below hC hm) hc (wf_limbs _) (by omega) (by omega) (by omega) (tab_below hT hm)
  refine q.mono ?_
  rintro en w' ⟨v', rfl, hr, hb⟩
  rw [nv_limbs] at hr
  exact ⟨v', rfl, by have := form_at_self (-z) e (!cneg z) (by by_cases h0 : z = 0; exact .inr (by omega); exact .inl (cneg_neg h0).symm) 0 (by rw [Int.add_zero, cman_neg, cexp_neg]; exact hr); rw [Int.add_zero] at this; exact this, hb⟩ : Calls Tryz.prog 30 #[.bool (!cneg z), .slice A n c, .int .i64 (cexp z e)] m fun en w' => ∃ v', en = .returned v' ∧ PDy w' m.heap.size v' (-z) (e) ∧ Below m.heap.size m w'))
 obtain ⟨x0, hx0⟩ : ∃ x, x = cexp z e := ⟨_, rfl⟩
 obtain ⟨b0, hb0⟩ : ∃ x, x = cneg z := ⟨_, rfl⟩
 rw [← hx0] at le1 le2
 simp only [← hx0, ← hb0] at QF
 rw [← hx0, ← hb0]
 clear hC hx0 hb0 hT
 go_enter Tryz.func96, Tryz.ntmps96
 go_wp2_with (first
  | (go_at_call 30; go_must (refine (QF.out _ (below_alloc (below_alloc yr _) _)).mono ?_; rintro e w1 ⟨v, rfl, ⟨A2, n2, c2, rfl, hr⟩, hb⟩; have HR := yk hr; have HB := yk (below_then (below_alloc (below_alloc (Below.refl w.heap.size w) _) _) (below_alloc (below_alloc (Below.refl w.heap.size w) _) _).size hb); have hh := yb (blk_new _ _) hb; rw [size_alloc'] at hh; have HH := yk hh; clear hr hb hh))
  | ((with_reducible refine gate_store (p := 2) rfl ?_); go_must (refine sdy 2 (.tmp 10) rfl rfl rfl rfl rfl HH.out rfl ?_; intro wb HX HG)))
 refine bodyPost_ret (results_dyad rfl _ _ (w.heap.size + 1) _ rfl HX.out rfl) rfl ?_
 refine ⟨_, rfl, PDy.lower (b := w.heap.size + 2) (PDy.grown (w := w1) ?_ HG.out (by omega)) (by omega), HB.out.grown HG.out HB.out.size (fun k hk => by cases hk; omega)⟩
 have h := HR.out
 rw [size_alloc', size_alloc'] at h
 exact ⟨A2, n2, c2, rfl, h⟩

theorem pabs_dy (v : Value) (z e : Int) (w : World) (h : CDy w v z e) (hl : (limbs (cman z)).length ≤ 1073741824) (le1 : -549755813888 ≤ cexp z e) (le2 : cexp z e ≤ 549755813888) (hT : TabAt 0 Lib.deBruijn64tab w) :
 Calls Tryz.prog 54 #[v] w fun en w' => ∃ v', en = .returned v' ∧ PDy w' w.heap.size v' ((z.natAbs : Int)) (e) ∧ Below w.heap.size w w' := by
 obtain ⟨A, n, c, rfl, hC, hn, hc⟩ := h
 have QF := yk (fun (m : World) (hm : Below w.heap.size w m) => (by
  have q := pform_any (false) (limbs (cman z)) A n c (cexp z e) hn m (Kd.C_below hC hm) hc (wf_limbs _) (by omega) (by omega) (by omega) (tab_below hT hm)
  refine q.mono ?_
  rintro en w' ⟨v', rfl, hr, hb⟩
  rw [nv_limbs] at hr
  exact ⟨v', rfl, by have := form_at_self (z.natAbs : Int) e false (.inl (cneg_abs z).symm) 0 (by rw [Int.add_zero, cman_abs, cexp_abs]; exact hr); rw [Int.add_zero] at this; exact this, hb⟩ : Calls Tryz.prog 30 #[.bool (false), .slice A n c, .int .i64 (cexp z e)] m fun en w' => ∃ v', en = .returned v' ∧ PDy w' m.heap.size v' ((z.natAbs : Int)) (e) ∧ Below m.heap.size m w'))
 obtain ⟨x0, hx0⟩ : ∃ x, x = cexp z e := ⟨_, rfl⟩
 obtain ⟨b0, hb0⟩ : ∃ x, x = cneg z := ⟨_, rfl⟩
 rw [← hx0] at le1 le2
 simp only [← hx0, ← hb0] at QF
 rw [← hx0, ← hb0]
 clear hC hx0 hb0 hT
 go_enter Tryz.func54, Tryz.ntmps54
 go_wp2_with (first
  | (go_at_call 30; go_must (refine (QF.out _ (below_alloc (below_alloc yr _) _)).mono ?_; rintro e w1 ⟨v, rfl, ⟨A2, n2, c2, rfl, hr⟩, hb⟩; have HR := yk hr; have HB := yk (below_then (below_alloc (below_alloc (Below.refl w.heap.size w) _) _) (below_alloc (below_alloc (Below.refl w.heap.size w) _) _).size hb); have hh := yb (blk_new _ _) hb; rw [size_alloc'] at hh; have HH := yk hh; clear hr hb hh))
  | ((with_reducible refine gate_store (p := 2) rfl ?_); go_must (refine sdy 2 (.tmp 7) rfl rfl rfl rfl rfl HH.out rfl ?_; intro wb HX HG)))
 refine bodyPost_ret (results_dyad rfl _ _ (w.heap.size + 1) _ rfl HX.out rfl) rfl ?_
 refine ⟨_, rfl, PDy.lower (b := w.heap.size + 2) (PDy.grown (w := w1) ?_ HG.out (by omega)) (by omega), HB.out.grown HG.out HB.out.size (fun k hk => by cases hk; omega)⟩
 have h := HR.out
 rw [size_alloc', size_alloc'] at h
 exact ⟨A2, n2, c2, rfl, h⟩

theorem pshift_dy (v : Value) (z e : Int) (k : Int) (w : World) (h : CDy w v z e) (hl : (limbs (cman z)).length ≤ 1073741824) (le1 : -549755813888 ≤ cexp z e) (le2 : cexp z e ≤ 549755813888) (lk1 : -549755813888 ≤ k) (lk2 : k ≤ 549755813888) (hT : TabAt 0 Lib.deBruijn64tab w) :
 Calls Tryz.prog 75 #[v, .int .i64 k] w fun en w' => ∃ v', en = .returned v' ∧ PDy w' w.heap.size v' (z) (e + k) ∧ Below w.heap.size w w' := by
 obtain ⟨A, n, c, rfl, hC, hn, hc⟩ := h
 have QF := yk (fun (m : World) (hm : Below w.heap.size w m) => (by
  have q := pform_any (cneg z) (limbs (cman z)) A n c (cexp z e + k) hn m (Kd.C_below hC hm) hc (wf_limbs _) (by omega) (by omega) (by omega) (tab_below hT hm)
  refine q.mono ?_
  rintro en w' ⟨v', rfl, hr, hb⟩
  rw [nv_limbs] at hr
  exact ⟨v', rfl, form_at_self z e (cneg z) (.inl rfl) k hr, hb⟩ : Calls Tryz.prog 30 #[.bool (cneg z), .slice A n c, .int .i64 (cexp z e + k)] m fun en w' => ∃ v', en = .returned v' ∧ PDy w' m.heap.size v' (z) (e + k) ∧ Below m.heap.size m w'))
 obtain ⟨x0, hx0⟩ : ∃ x, x = cexp z e := ⟨_, rfl⟩
 obtain ⟨b0, hb0⟩ : ∃ x, x = cneg z := ⟨_, rfl⟩
 rw [← hx0] at le1 le2
 simp only [← hx0, ← hb0] at QF
 rw [← hx0, ← hb0]
 clear hC hx0 hb0 hT
 have hk : IntKind.i64.wrap (x0 + k) = x0 + k := wrap_i64 (by omega) (by omega)
 go_enter Tryz.func75, Tryz.ntmps75
 go_wp2_with (first
  | (go_at_call 30; go_must (refine (QF.out _ (below_alloc (below_alloc yr _) _)).mono ?_; rintro e w1 ⟨v, rfl, ⟨A2, n2, c2, rfl, hr⟩, hb⟩; have HR := yk hr; have HB := yk (below_then (below_alloc (below_alloc (Below.refl w.heap.size w) _) _) (below_alloc (below_alloc (Below.refl w.heap.size w) _) _).size hb); have hh := yb (blk_new _ _) hb; rw [size_alloc'] at hh; have HH := yk hh; clear hr hb hh))
  | ((with_reducible refine gate_store (p := 4) rfl ?_); go_must (refine sdy 4 (.tmp 13) rfl rfl rfl rfl rfl HH.out rfl ?_; intro wb HX HG)))
 refine bodyPost_ret (results_dyad rfl _ _ (w.heap.size + 1) _ rfl HX.out rfl) rfl ?_
 refine ⟨_, rfl, PDy.lower (b := w.heap.size + 2) (PDy.grown (w := w1) ?_ HG.out (by omega)) (by omega), HB.out.grown HG.out HB.out.size (fun k hk => by cases hk; omega)⟩
 have h := HR.out
 rw [size_alloc', size_alloc'] at h
 exact ⟨A2, n2, c2, rfl, h⟩

theorem ppower_dy (n : Int) (w : World) :
 Calls Tryz.prog 67 #[.int .i64 n] w fun en w' => ∃ v', en = .returned v' ∧ PDy w' w.heap.size v' 1 n ∧ Below w.heap.size w w' := by
 have HV := yk (show (Value.agg #[.bool false, .slice (some ⟨w.heap.size + 1, 0, none⟩) 1 1, .int .i64 n]) = .agg #[.bool (cneg 1), .slice (some ⟨w.heap.size + 1, 0, none⟩) 1 1, .int .i64 (cexp 1 n)] by
  rw [show cneg 1 = false from rfl, show cexp 1 n = n by unfold cexp; simp [tz_odd]])
 have HL := yk (show limbs (cman 1) = [1] by rw [show cman 1 = 1 by unfold cman; simp [tz_odd]]; exact limbs_one (by decide) (by decide))
 go_enter Tryz.func67, Tryz.ntmps67
 go_wp2
 refine bodyPost_ret (results_dyad rfl _ _ w.heap.size _ rfl (blk_alloc (blk_new _ _) _) rfl) rfl ?_
 refine ⟨_, rfl, ⟨some ⟨w.heap.size + 1, 0, none⟩, 1, 1, HV.out, ?_⟩, below_alloc (below_alloc yr _) _⟩
 rw [HL.out]
 have h := row_one (w.alloc (.cells #[.bool false, .slice (some ⟨w.heap.size + 1, 0, none⟩) 1 1, .int .i64 n] 27)) 1
 rw [size_alloc'] at h
 exact PL.lower (PL.of_R h) (by omega)

theorem pzero_dy (v : Value) (z e : Int) (w : World) (h : CDy w v z e) (hl : (limbs (cman z)).length ≤ 1073741824) :
 Calls Tryz.prog 27 #[v] w fun en w' => en = .returned (.bool (decide (z = 0))) ∧ Below w.heap.size w w' := by
 obtain ⟨A, n, c, rfl, hC, hn, hc⟩ := h
 have QN := yk (fun (m : World) (hm : Below w.heap.size w m) => trim_any (limbs (cman z)) A c m (by rw [hn]; exact Kd.C_below hC hm) (by omega) (wf_limbs _) (by omega))
 rw [hn, nv_limbs] at QN
 obtain ⟨n1, hn1⟩ : ∃ k, k = (limbs (cman z)).length := ⟨_, rfl⟩
 obtain ⟨x, hx⟩ : ∃ x, x = cexp z e := ⟨_, rfl⟩
 obtain ⟨b, hb⟩ : ∃ x, x = cneg z := ⟨_, rfl⟩
 have hz : ((n1 : Int) == 0) = decide (z = 0) := by
  rw [Bool.eq_iff_iff]
  simp only [beq_iff_eq, decide_eq_true_eq]
  rw [hn1]
  constructor
  · intro h
    exact cman_eq_zero.1 (limbs_eq_nil.1 (List.length_eq_zero_iff.1 (by omega)))
  · rintro rfl
    rw [cman_zero, limbs_zero]; rfl
 rw [← hn1] at QN
 rw [← hx, ← hb]
 clear hC hn1 hn hx hb
 go_enter Tryz.func27, Tryz.ntmps27
 go_wp2_with (go_at_call 58; go_must (refine (QN.out _ (below_alloc yr _)).mono ?_; rintro e w1 ⟨rfl, hw⟩; have hb := quiet_below hw; have HB : Aside0 (Below w.heap.size w w1) := ⟨(by exact below_of_alloc hb)⟩; clear hb hw))
 go_ret
 exact ⟨ret_bool (by first | rfl | exact hz), HB.out⟩

theorem psign_dy (v : Value) (z e : Int) (w : World) (h : CDy w v z e) (hl : (limbs (cman z)).length ≤ 1073741824) :
 Calls Tryz.prog 50 #[v] w fun en w' => en = .returned (.int .i64 (sgnI z)) ∧ Below w.heap.size w w' := by
 have QZ := yk (fun (m : World) (hm : Below w.heap.size w m) => pzero_dy v z e m (h.below hm) hl)
 obtain ⟨A, n, c, rfl, hC, hn, hc⟩ := h
 obtain ⟨x, hx⟩ : ∃ x, x = cexp z e := ⟨_, rfl⟩
 obtain ⟨b, hb⟩ : ∃ x, x = cneg z := ⟨_, rfl⟩
 rw [← hx, ← hb] at QZ
 rw [← hx, ← hb]
 obtain ⟨d, hd⟩ : ∃ d, d = decide (z = 0) := ⟨_, rfl⟩
 rw [← hd] at QZ
 have HS := yk (show sgnI z = if d then 0 else if b then -1 else 1 by
  rw [hd, hb]; unfold sgnI cneg
  by_cases h0 : z = 0
  · simp [h0]
  · simp [h0])
 clear hC hx hb hd
 cases d
 all_goals cases b
 all_goals
  go_enter Tryz.func50, Tryz.ntmps50
  go_wp2_with (go_at_call 27; go_must (refine (QZ.out _ (below_alloc yr _)).mono ?_; rintro e w1 ⟨rfl, hb⟩; have HB : Aside0 (Below w.heap.size w w1) := ⟨(by exact below_of_alloc hb)⟩; have hh : w1.heap[w.heap.size]? = some (.cells #[.bool _, .slice A n c, .int .i64 x] 27 (0, 0)) := (by exact yb (blk_new _ _) hb); have c0 := (cell_of_row w1 _ 0 _ _ _ hh).trans rfl; clear hb hh))
  go_ret
  exact ⟨ret_int (by rw [HS.out]; rfl), HB.out⟩

theorem ptop_dy (v : Value) (z e : Int) (w : World) (h : CDy w v z e) (hl : (limbs (cman z)).length ≤ 1073741824) (le1 : -1099511627776 ≤ cexp z e) (le2 : cexp z e ≤ 1099511627776) :
 Calls Tryz.prog 85 #[v] w fun en w' => en = .returned (.int .i64 (cexp z e + bl (cman z) - 1)) ∧ Below w.heap.size w w' := by
 obtain ⟨A, n, c, rfl, hC, hn, hc⟩ := h
 have QL := yk (fun (m : World) (hm : Below w.heap.size w m) => plen_any (limbs (cman z)) A c m (by rw [hn]; exact Kd.C_below hC hm) (by omega) (wf_limbs _) (by omega))
 rw [hn] at QL
 obtain ⟨T, hT⟩ : ∃ T, T = bl (cman z) := ⟨_, rfl⟩
 have hTb : T ≤ 68719476736 := by
  have := nv_lt (wf_limbs (cman z))
  rw [nv_limbs] at this
  have := bl_le_iff.2 this
  omega
 rw [nv_limbs, ← hT] at QL
 rw [← hT]
 obtain ⟨x, hx⟩ : ∃ x, x = cexp z e := ⟨_, rfl⟩
 rw [← hx] at le1 le2 ⊢
 have hw3 : IntKind.i64.wrap (IntKind.i64.wrap (x + T) - 1) = x + T - 1 := by rw [show IntKind.i64.wrap (x + T) = x + T from wrap_i64 (by omega) (by omega)]; exact wrap_i64 (by omega) (by omega)
 clear hC hT hx
 go_enter Tryz.func85, Tryz.ntmps85
 go_wp2
 go_region_with (go_at_call 107; refine (QL.out _ ?hB).mono ?_; (case hB => first | exact below_alloc yr _ | exact below_drew (below_alloc yr _) | exact pw_below_drewN (below_alloc yr _) _); rintro e w1 ⟨rfl, hw⟩; have hb := quiet_below hw; have HB : Aside0 (Below w.heap.size w w1) := ⟨(by first | exact below_of_alloc hb | exact below_of_drew hb)⟩; have hh : w1.heap[w.heap.size]? = some (.cells #[.bool (cneg z), .slice A n c, .int .i64 x] 27 (0, 0)) := (by first | exact yb (blk_new _ _) hb | exact yb (blk_drew (blk_new _ _)) hb | exact yb (blk_drewN (blk_new _ _) _) hb); have c2 : w1.cell? ⟨w.heap.size, 2, none⟩ = some (.int .i64 x) := (cell_of_row w1 _ 2 _ _ _ hh).trans rfl; clear hb hh hw)
 all_goals
  go_wp2
  go_ret
  exact ⟨ret_int (by first | rfl | exact hw3), HB.out⟩
theorem times_pform {w : World} {b : Nat} {v : Value} {y z e e' : Int} (h : PDy w b v (sgn (!(cneg y == cneg z)) (cman y * cman z)) (cexp y e + cexp z e')) : PDy w b v (y * z) (e + e') := by
 by_cases hy : y = 0
 · subst hy
   rw [cman_zero, Nat.zero_mul, sgn_zero] at h
   rw [Int.zero_mul]
   obtain ⟨A, n, c, rfl, hr⟩ := h
   exact ⟨A, n, c, rfl, hr⟩
 by_cases hz : z = 0
 · subst hz
   rw [cman_zero, Nat.mul_zero, sgn_zero] at h
   rw [Int.mul_zero]
   obtain ⟨A, n, c, rfl, hr⟩ := h
   exact ⟨A, n, c, rfl, hr⟩
 obtain ⟨j, e1, e2, _⟩ := of_form (e := e) hy
 obtain ⟨k, e3, e4, _⟩ := of_form (e := e') hz
 rw [e1, e3, show e + (j : Int) + (e' + (k : Int)) = e + e' + ((j + k : Nat) : Int) by omega] at h
 have h2 := PDy.scale (j + k) h
 rw [← sgn_pow] at h2
 have e5 : cman y * cman z * 2 ^ (j + k) = (cman y * 2 ^ j) * (cman z * 2 ^ k) := by rw [Nat.pow_add]; simp only [Nat.mul_assoc, Nat.mul_comm, Nat.mul_left_comm]
 have e6 : (!(cneg y == cneg z)) = (cneg y != cneg z) := rfl
 rw [e5, e6, sgn_mul, ← e2, ← e4] at h2
 exact h2

theorem pmul_dy (u v : Value) (y z e e' : Int) (w : World) (h : CDy w u y e) (h' : CDy w v z e') (hl : (limbs (cman y)).length ≤ 268435456) (hl' : (limbs (cman z)).length ≤ 268435456) (le1 : -137438953472 ≤ cexp y e) (le2 : cexp y e ≤ 137438953472) (le1' : -137438953472 ≤ cexp z e') (le2' : cexp z e' ≤ 137438953472) (hT : TabAt 0 Lib.deBruijn64tab w) :
 Calls Tryz.prog 95 #[u, v] w fun en w' => ∃ v', en = .returned v' ∧ PDy w' w.heap.size v' (y * z) (e + e') ∧ Below w.heap.size w w' := by
 obtain ⟨A, n, c, rfl, hC, hn, hc⟩ := h
 obtain ⟨A', n', c', rfl, hC', hn', hc'⟩ := h'
 obtain ⟨x0, hx0⟩ : ∃ x, x = cexp y e := ⟨_, rfl⟩
 obtain ⟨x1, hx1⟩ : ∃ x, x = cexp z e' := ⟨_, rfl⟩
 obtain ⟨b0, hb0⟩ : ∃ x, x = cneg y := ⟨_, rfl⟩
 obtain ⟨b1, hb1⟩ : ∃ x, x = cneg z := ⟨_, rfl⟩
 have QM := yk (fun (m : World) (hm : Below w.heap.size w m) => (by have q := pmul_any (limbs (cman y)) (limbs (cman z)) A A' n n' c c' hn hn' m (Kd.C_below hC hm) (Kd.C_below hC' hm) hc hc' (wf_limbs _) (wf_limbs _) (by omega) (by omega); rw [nv_limbs, nv_limbs] at q; exact q : Calls Tryz.prog 113 #[.slice A n c, .slice A' n' c'] m fun e w' => ∃ v, e = .returned v ∧ PL w' m.heap.size v (limbs (cman y * cman z)) ∧ Below m.heap.size m w'))
 have HX := yk (show IntKind.i64.wrap (x0 + x1) = x0 + x1 from wrap_i64 (by omega) (by omega))
 have QF := yk (fun (A3 : Option Addr) (c3 : Nat) (m : World) (hm : Below w.heap.size w m) (hC3 : kU.C m A3 (limbs (cman y * cman z)).length (limbs (cman y * cman z))) (hc3 : (limbs (cman y * cman z)).length ≤ c3) => (by
  have hlen : (limbs (cman y * cman z)).length ≤ 1073741824 := by
   refine Nat.le_trans (limbs_len_le (k := (limbs (cman y)).length + (limbs (cman z)).length) ?_) (by omega)
   have q1 := nv_lt (wf_limbs (cman y))
   have q2 := nv_lt (wf_limbs (cman z))
   rw [nv_limbs] at q1 q2
   rw [Nat.mul_add, Nat.pow_add]
   exact Nat.mul_lt_mul'' q1 q2
  have hm2 := pform_any (!(b0 == b1)) (limbs (cman y * cman z)) A3 _ c3 (x0 + x1) rfl m hC3 hc3 (wf_limbs _) hlen (by omega) (by omega) (tab_below hT hm)
  rw [nv_limbs] at hm2
  refine hm2.mono ?_
  rintro en w' ⟨v', rfl, hr, hb⟩
  refine ⟨v', rfl, times_pform ?_, hb⟩
  rw [hx0, hx1, hb0, hb1] at hr
  exact hr : Calls Tryz.prog 30 #[.bool (!(b0 == b1)), .slice A3 (limbs (cman y * cman z)).length c3, .int .i64 (x0 + x1)] m fun en w' => ∃ v', en = .returned v' ∧ PDy w' m.heap.size v' (y * z) (e + e') ∧ Below m.heap.size m w'))
 rw [← hx0, ← hb0, ← hx1, ← hb1]
 clear hC hC' hx0 hx1 hb0 hb1 hT
 obtain ⟨W0, hW0⟩ : ∃ W0, W0 = ((w.alloc (.cells #[.bool b0, .slice A n c, .int .i64 x0] 27)).alloc (.cells #[.bool b1, .slice A' n' c', .int .i64 x1] 27)).alloc (.cells #[.bool false, .slice none 0 0, .int .i64 0] 27) := ⟨_, rfl⟩
 have hh0 : Aside0 (W0.heap[w.heap.size]? = some (.cells #[.bool b0, .slice A n c, .int .i64 x0] 27 (0, 0))) := ⟨by rw [hW0]; exact blk_alloc (blk_alloc (blk_new _ _) _) _⟩
 have hh1 : Aside0 (W0.heap[w.heap.size + 1]? = some (.cells #[.bool b1, .slice A' n' c', .int .i64 x1] 27 (0, 0))) := ⟨by rw [hW0]; have := blk_new (w.alloc (.cells #[.bool b0, .slice A n c, .int .i64 x0] 27)) (.cells #[.bool b1, .slice A' n' c', .int .i64 x1] 27); rw [size_alloc'] at this; exact blk_alloc this _⟩
 have hh2 : Aside0 (W0.heap[w.heap.size + 2]? = some (.cells #[.bool false, .slice none 0 0, .int .i64 0] 27 (0, 0))) := ⟨by rw [hW0]; have := blk_new ((w.alloc (.cells #[.bool b0, .slice A n c, .int .i64 x0] 27)).alloc (.cells #[.bool b1, .slice A' n' c', .int .i64 x1] 27)) (.cells #[.bool false, .slice none 0 0, .int .i64 0] 27); rw [size_alloc', size_alloc'] at this; exact this⟩
 have HW : Aside0 (Below w.heap.size w W0 ∧ w.heap.size + 3 ≤ W0.heap.size) := ⟨by rw [hW0]; exact ⟨below_alloc (below_alloc (below_alloc yr _) _) _, by rw [size_alloc', size_alloc', size_alloc']; exact Nat.le_refl _⟩⟩
 go_enter Tryz.func95, Tryz.ntmps95
 go_upto_region 1 with fail
 rw [← hW0]
 clear hW0
 obtain ⟨JM, hJM⟩ : ∃ J : (Nat → Prop) → World → Prop, J = fun L0 W => (Below w.heap.size w W ∧ w.heap.size + 3 ≤ W.heap.size) ∧ W.heap[w.heap.size]? = some (.cells #[.bool b0, .slice A n c, .int .i64 x0] 27 (0, 0)) ∧ W.heap[w.heap.size + 1]? = some (.cells #[.bool b1, .slice A' n' c', .int .i64 x1] 27 (0, 0)) ∧ (¬ L0 16 → W.heap[w.heap.size + 2]? = some (.cells #[.bool false, .slice none 0 0, .int .i64 0] 27 (0, 0))) ∧ (L0 16 → ∃ A2 n2 c2, W.heap[w.heap.size + 2]? = some (.cells #[.bool (cneg (y * z)), .slice A2 n2 c2, .int .i64 (cexp (y * z) (e + e'))] 27 (0, 0)) ∧ PL W (w.heap.size + 3) (.slice A2 n2 c2) (limbs (cman (y * z)))) := ⟨_, rfl⟩
 refine wp_region_slotsL [5, 6, 7, 8, 9, 10, 11, 12, 13, 14, 15, 16, 17, 18, 19, 20] (by kernel_rfl) (by kernel_rfl)
  (F := fun j q W => match j with | 0 => q = .pointer (some ⟨w.heap.size, 0, none⟩) | 1 => q = .bool b0 | 2 => q = .pointer (some ⟨w.heap.size + 1, 0, none⟩) | 3 => q = .bool b1 | 4 => q = .bool (!(b0 == b1)) | 5 => q = .pointer (some ⟨w.heap.size, 1, none⟩) | 6 => q = .slice A n c | 7 => q = .pointer (some ⟨w.heap.size + 1, 1, none⟩) | 8 => q = .slice A' n' c' | 9 => PL W (w.heap.size + 3) q (limbs (cman y * cman z)) | 10 => q = .pointer (some ⟨w.heap.size, 2, none⟩) | 11 => q = .int .i64 x0 | 12 => q = .pointer (some ⟨w.heap.size + 1, 2, none⟩) | 13 => q = .int .i64 x1 | 14 => q = .int .i64 (x0 + x1) | 15 => PDy W (w.heap.size + 3) q (y * z) (e + e') | 16 => True | _ => True)
  (J := JM) ?h0M ?hstepM ?hendM
 case h0M =>
  rw [hJM]
  have hd := below_drew (Below.refl W0.heap.size W0)
  exact ⟨⟨below_drew HW.out.1, HW.out.2⟩, yb hh0.out hd, yb hh1.out hd, fun _ => yb hh2.out hd, fun h => h.elim⟩
 case hstepM =>
  intro k o ho v W L0 hJW hF hnk haft hcl K hK
  rw [hJM] at hJW
  obtain ⟨hBW, hb0, hb1, hold, hnew⟩ := hJW
  have hJM : ∀ (k : Nat) (w4 : World), k ≠ 16 → Below W.heap.size W w4 → JM (fun j => L0 j ∨ j = k) w4 := by
   intro k w4 hkK hb
   rw [hJM]
   refine ⟨⟨below_then hBW.1 hBW.1.size hb, Nat.le_trans hBW.2 hb.size⟩, yb hb0 hb, yb hb1 hb, fun h => yb (hold (fun h2 => h (.inl h2))) hb, fun h => ?_⟩
   obtain ⟨A2, n2, c2, y1, y2⟩ := hnew (h.resolve_right (fun e => hkK e.symm))
   exact ⟨A2, n2, c2, yb y1 hb, y2.below hb⟩
  have HJM := yk hJM
  have HOLD := yk hold
  clear hold hnew
  clear hJM hcl
  rcases k with _ | _ | _ | _ | _ | _ | _ | _ | _ | _ | _ | _ | _ | _ | _ | _ | _ | k
  all_goals first
   | (cases ho; done)
   | (obtain rfl := (Option.some.inj ho).symm
      clear ho
      rw [if_pos (by rfl)]
      simp only [setAll, List.setIfInBounds_toArray, List.set_cons_zero, List.set_cons_succ, List.getElem_toArray, List.getElem_cons_zero, List.getElem_cons_succ, Nat.reduceAdd] at haft hF hK ⊢)
  ·
   have key := hK.out (.pointer (some ⟨w.heap.size, 0, none⟩)) W (HJM.out 0 W (by decide) yr) (fun _ _ h => h) rfl
   go_simp
   simpa [upd] using key
  ·
   have f0 : v 0 = .pointer (some ⟨w.heap.size, 0, none⟩) := hF 0 (haft ⟨0, .data⟩ (by simp) rfl)
   have cc := (box_cell (v := .bool b0) hb0 0 rfl).1
   have key := hK.out (.bool b0) W (HJM.out 1 W (by decide) yr) (fun _ _ h => h) rfl
   go_simp
   simpa [upd, f0] using key
  ·
   have key := hK.out (.pointer (some ⟨w.heap.size + 1, 0, none⟩)) W (HJM.out 2 W (by decide) yr) (fun _ _ h => h) rfl
   go_simp
   simpa [upd] using key
  ·
   have f2 : v 2 = .pointer (some ⟨w.heap.size + 1, 0, none⟩) := hF 2 (haft ⟨2, .data⟩ (by simp) rfl)
   have cc := (box_cell (v := .bool b1) hb1 0 rfl).1
   have key := hK.out (.bool b1) W (HJM.out 3 W (by decide) yr) (fun _ _ h => h) rfl
   go_simp
   simpa [upd, f2] using key
  ·
   have f1 : v 1 = .bool b0 := hF 1 (haft ⟨1, .data⟩ (by simp) rfl)
   have f3 : v 3 = .bool b1 := hF 3 (haft ⟨3, .data⟩ (by simp) rfl)
   have key := hK.out (.bool (!(b0 == b1))) W (HJM.out 4 W (by decide) yr) (fun _ _ h => h) rfl
   go_simp
   simpa [upd, f1, f3] using key
  ·
   have key := hK.out (.pointer (some ⟨w.heap.size, 1, none⟩)) W (HJM.out 5 W (by decide) yr) (fun _ _ h => h) rfl
   go_simp
   simpa [upd] using key
  ·
   have f5 : v 5 = .pointer (some ⟨w.heap.size, 1, none⟩) := hF 5 (haft ⟨5, .data⟩ (by simp) rfl)
   have cc := (box_cell (v := .slice A n c) hb0 1 rfl).1
   have key := hK.out (.slice A n c) W (HJM.out 6 W (by decide) yr) (fun _ _ h => h) rfl
   go_simp
   simpa [upd, f5] using key
  ·
   have key := hK.out (.pointer (some ⟨w.heap.size + 1, 1, none⟩)) W (HJM.out 7 W (by decide) yr) (fun _ _ h => h) rfl
   go_simp
   simpa [upd] using key
  ·
   have f7 : v 7 = .pointer (some ⟨w.heap.size + 1, 1, none⟩) := hF 7 (haft ⟨7, .data⟩ (by simp) rfl)
   have cc := (box_cell (v := .slice A' n' c') hb1 1 rfl).1
   have key := hK.out (.slice A' n' c') W (HJM.out 8 W (by decide) yr) (fun _ _ h => h) rfl
   go_simp
   simpa [upd, f7] using key
  ·
   have f6 : v 6 = .slice A n c := hF 6 (haft ⟨6, .data⟩ (by simp) rfl)
   have f8 : v 8 = .slice A' n' c' := hF 8 (haft ⟨8, .data⟩ (by simp) rfl)
   go_simp
   go_at_call 113
   refine (QM.out W hBW.1).mono ?_
   rintro en w4 ⟨v1, rfl, hr, hb⟩
   have key := hK.out (v1) w4 (HJM.out 9 w4 (by decide) hb) ?monoM_9 (hr.lower hBW.2)
   · simpa [upd, f6, f8] using key
   intro j hj hf
   rcases j with _ | _ | _ | _ | _ | _ | _ | _ | _ | _ | _ | _ | _ | _ | _ | _ | _ | j <;> first | exact hf | exact PDy.below hf hb | exact PL.below hf hb | exact RDy.below hf hb
  ·
   have key := hK.out (.pointer (some ⟨w.heap.size, 2, none⟩)) W (HJM.out 10 W (by decide) yr) (fun _ _ h => h) rfl
   go_simp
   simpa [upd] using key
  ·
   have f10 : v 10 = .pointer (some ⟨w.heap.size, 2, none⟩) := hF 10 (haft ⟨10, .data⟩ (by simp) rfl)
   have cc := (box_cell (v := .int .i64 x0) hb0 2 rfl).1
   have key := hK.out (.int .i64 x0) W (HJM.out 11 W (by decide) yr) (fun _ _ h => h) rfl
   go_simp
   simpa [upd, f10] using key
  ·
   have key := hK.out (.pointer (some ⟨w.heap.size + 1, 2, none⟩)) W (HJM.out 12 W (by decide) yr) (fun _ _ h => h) rfl
   go_simp
   simpa [upd] using key
  ·
   have f12 : v 12 = .pointer (some ⟨w.heap.size + 1, 2, none⟩) := hF 12 (haft ⟨12, .data⟩ (by simp) rfl)
   have cc := (box_cell (v := .int .i64 x1) hb1 2 rfl).1
   have key := hK.out (.int .i64 x1) W (HJM.out 13 W (by decide) yr) (fun _ _ h => h) rfl
   go_simp
   simpa [upd, f12] using key
  ·
   have f11 : v 11 = .int .i64 x0 := hF 11 (haft ⟨11, .data⟩ (by simp) rfl)
   have f13 : v 13 = .int .i64 x1 := hF 13 (haft ⟨13, .data⟩ (by simp) rfl)
   have hw := HX.out
   have key := hK.out (.int .i64 (x0 + x1)) W (HJM.out 14 W (by decide) yr) (fun _ _ h => h) rfl
   go_simp
   simpa [upd, f11, f13, hw] using key
  ·
   have f4 : v 4 = .bool (!(b0 == b1)) := hF 4 (haft ⟨4, .data⟩ (by simp) rfl)
   have f9 : PL W (w.heap.size + 3) (v 9) (limbs (cman y * cman z)) := hF 9 (haft ⟨9, .data⟩ (by simp) rfl)
   have f14 : v 14 = .int .i64 (x0 + x1) := hF 14 (haft ⟨14, .data⟩ (by simp) rfl)
   obtain ⟨A3, c3, f9v, hc3, hC3⟩ := f9.c
   have hm := QF.out A3 c3 W hBW.1 hC3 hc3
   go_simp
   go_at_call 30
   refine hm.mono ?_
   rintro en w4 ⟨v1, rfl, hr, hb⟩
   have key := hK.out (v1) w4 (HJM.out 15 w4 (by decide) hb) ?monoM_15 (hr.lower hBW.2)
   · simpa [upd, f4, f14, f9v] using key
   intro j hj hf
   rcases j with _ | _ | _ | _ | _ | _ | _ | _ | _ | _ | _ | _ | _ | _ | _ | _ | _ | j <;> first | exact hf | exact PDy.below hf hb | exact PL.below hf hb | exact RDy.below hf hb
  ·
   have fz : PDy W (w.heap.size + 3) (v 15) (y * z) (e + e') := hF 15 (haft ⟨15, .data⟩ (by simp) rfl)
   obtain ⟨A3, n3, c3, fz2, _⟩ := id fz
   refine wp_store_box 27 4 (.tmp 20) rfl rfl (g := w.heap.size + 2) (e := 27) (v 15) [.bool (cneg (y * z)), .slice A3 n3 c3, .int .i64 (cexp (y * z) (e + e'))] rfl rfl (by rw [fz2]; rfl) info_dyad ?_ (HOLD.out hnk) rfl ?_
   · intro q hq; simp at hq; rcases hq with rfl | rfl | rfl <;> rfl
   · intro w1 hw1 hg1
     have hn2 := fz.grown hg1 (by omega)
     obtain ⟨A4, n4, c4, fz4, hr4⟩ := hn2
     rw [fz2] at fz4
     injection fz4 with fz4
     simp at fz4
     obtain ⟨rfl, rfl, rfl⟩ := fz4
     have key := hK.out undef w1 (by rw [hJM]; exact ⟨⟨hBW.1.grown hg1 hBW.1.size (fun k hk => by have := Option.some.inj hk; omega), Nat.le_trans hBW.2 hg1.size⟩, (hg1.block _ (blk_lt hb0) (fun he => by have := Option.some.inj he; omega)).trans hb0, (hg1.block _ (blk_lt hb1) (fun he => by have := Option.some.inj he; omega)).trans hb1, fun h => (h (by simp)).elim, fun _ => ⟨_, _, _, hw1, hr4⟩⟩) ?mstM trivial
     · simpa [upd] using key
     intro j hj hf
     rcases j with _ | _ | _ | _ | _ | _ | _ | _ | _ | _ | _ | _ | _ | _ | _ | _ | _ | j <;> first | exact hf | exact PDy.grown hf hg1 (by omega) | exact PL.grown hf hg1 (by omega)
 case hendM =>
  intro v W L0 hall hJW hF
  rw [hJM] at hJW
  obtain ⟨hBW, _, _, _, hnew⟩ := hJW
  obtain ⟨A2, n2, c2, p1, p2⟩ := hnew (hall 16 (by decide))
  clear hF hall hnew
  have P1 := yk p1
  have P2 := yk (p2.lower (b' := w.heap.size) (by omega))
  have BF := yk hBW.1
  clear p1 p2 hBW
  simp only [setAll, List.setIfInBounds_toArray, List.set_cons_zero, List.set_cons_succ, Nat.reduceAdd]
  go_wp2
  refine bodyPost_ret (results_dyad rfl _ _ (w.heap.size + 1 + 1) _ rfl P1.out rfl) rfl ?_
  exact ⟨_, rfl, ⟨A2, n2, c2, rfl, P2.out⟩, BF.out⟩
theorem pint_dy (n : Int) (w : World) (h1 : -9223372036854775808 ≤ n) (h2 : n < 9223372036854775808) (hT : TabAt 0 Lib.deBruijn64tab w) :
 Calls Tryz.prog 52 #[.int .i64 n] w fun en w' => ∃ v', en = .returned v' ∧ PDy w' w.heap.size v' n 0 ∧ Below w.heap.size w w' := by
 obtain ⟨m, hm⟩ : ∃ m, m = n.natAbs := ⟨_, rfl⟩
 have hm64 : m < 18446744073709551616 := by omega
 have QO := yk (fun (W : World) => pof_any m hm64 W)
 have QF := yk (fun (A : Option Addr) (c : Nat) (W : World) (hb : Below w.heap.size w W) (hC : kU.C W A (limbs m).length (limbs m)) (hc : (limbs m).length ≤ c) => (by
  have hl : (limbs m).length ≤ 1 := limbs_len_le (by omega)
  have q := pform_any (decide (n < 0)) (limbs m) A _ c 0 rfl W hC hc (wf_limbs _) (by omega) (by omega) (by omega) (tab_below hT hb)
  rw [nv_limbs, hm, show sgn (decide (n < 0)) n.natAbs = n from sgn_self n, ← hm] at q
  exact q : Calls Tryz.prog 30 #[.bool (decide (n < 0)), .slice A (limbs m).length c, .int .i64 0] W fun en w' => ∃ v', en = .returned v' ∧ PDy w' W.heap.size v' n 0 ∧ Below W.heap.size W w'))
 by_cases hn : n < 0
 · obtain ⟨a0, e1, e2⟩ : ∃ a0 : Nat, IntKind.u64.wrap n = (a0 : Int) ∧ IntKind.u64.wrap (-(a0 : Int)) = (m : Int) := ⟨(n % 18446744073709551616).toNat, by unfold IntKind.wrap; simp [IntKind.bits, IntKind.signed]; omega, by unfold IntKind.wrap; simp [IntKind.bits, IntKind.signed]; omega⟩
   have hd : decide (n < 0) = true := decide_eq_true hn
   rw [hd] at QF
   clear hm hn
   go_enter Tryz.func52, Tryz.ntmps52
   go_wp2_with (first
    | (go_at_call 89; refine (QO.out _).mono ?_; rintro e w1 ⟨v1, rfl, hr, hb⟩; obtain ⟨A, c, rfl, hc1, hC1⟩ := hr.c; have HC := yk hC1; have HCC := yk hc1; have HB := yk (below_then (below_alloc yr _) (below_alloc (Below.refl w.heap.size w) _).size hb); have HH := yk (yb (blk_new w _) hb); clear hr hb hc1 hC1)
    | (go_at_call 30; refine (QF.out A c _ HB.out HC.out HCC.out).mono ?_; rintro e w2 ⟨v2, rfl, ⟨A2, n2, c2, rfl, hr⟩, hb⟩; have HR := yk hr; have HB2 := yk (below_then HB.out HB.out.size hb); have HH2 := yk (yb HH.out hb); have HSZ := yk (blk_lt HH.out); clear hr hb)
    | ((with_reducible refine gate_store (p := 2) rfl ?_); go_must (refine sdy 2 (.tmp 14) rfl rfl rfl rfl rfl HH2.out rfl ?_; intro wb HX HG)))
   refine bodyPost_ret (results_dyad rfl _ _ w.heap.size _ rfl HX.out rfl) rfl ?_
   exact ⟨_, rfl, PDy.lower (PDy.grown (w := w2) ⟨A2, n2, c2, rfl, HR.out⟩ HG.out HSZ.out) HB.out.size, HB2.out.grown HG.out HB2.out.size (fun k hk => by cases hk; exact Nat.le_refl _)⟩
 · have e1 : IntKind.u64.wrap n = (m : Int) := by unfold IntKind.wrap; simp [IntKind.bits, IntKind.signed]; omega
   have hd : decide (n < 0) = false := decide_eq_false hn
   have hn2 : 0 ≤ n := by omega
   rw [hd] at QF
   clear hm hn
   go_enter Tryz.func52, Tryz.ntmps52
   go_wp2_with (first
    | (go_at_call 89; refine (QO.out _).mono ?_; rintro e w1 ⟨v1, rfl, hr, hb⟩; obtain ⟨A, c, rfl, hc1, hC1⟩ := hr.c; have HC := yk hC1; have HCC := yk hc1; have HB := yk (below_then (below_alloc yr _) (below_alloc (Below.refl w.heap.size w) _).size hb); have HH := yk (yb (blk_new w _) hb); clear hr hb hc1 hC1)
    | (go_at_call 30; refine (QF.out A c _ HB.out HC.out HCC.out).mono ?_; rintro e w2 ⟨v2, rfl, ⟨A2, n2, c2, rfl, hr⟩, hb⟩; have HR := yk hr; have HB2 := yk (below_then HB.out HB.out.size hb); have HH2 := yk (yb HH.out hb); have HSZ := yk (blk_lt HH.out); clear hr hb)
    | ((with_reducible refine gate_store (p := 2) rfl ?_); go_must (refine sdy 2 (.tmp 14) rfl rfl rfl rfl rfl HH2.out rfl ?_; intro wb HX HG)))
   refine bodyPost_ret (results_dyad rfl _ _ w.heap.size _ rfl HX.out rfl) rfl ?_
   exact ⟨_, rfl, PDy.lower (PDy.grown (w := w2) ⟨A2, n2, c2, rfl, HR.out⟩ HG.out HSZ.out) HB.out.size, HB2.out.grown HG.out HB2.out.size (fun k hk => by cases hk; exact Nat.le_refl _)⟩

/-- Two numbers over the lesser exponent. -/
theorem pamounts_dy (u v : Value) (y z e : Int) (E : Int) (k0 k1 : Nat) (w : World) (h : CDy w u y e) (h' : CDy w v z e) (hE : E = min (cexp y e) (cexp z e)) (hk0 : cexp y e - E = k0) (hk1 : cexp z e - E = k1) (hl : (limbs (cman y)).length ≤ 268435456) (hl' : (limbs (cman z)).length ≤ 268435456) (le1 : -8589934592 ≤ cexp y e) (le2 : cexp y e ≤ 8589934592) (le1' : -8589934592 ≤ cexp z e) (le2' : cexp z e ≤ 8589934592) :
 Calls Tryz.prog 86 #[u, v] w fun en w' => ∃ p q, en = .returned (.tuple #[p, q, .int .i64 E]) ∧ PL w' w.heap.size p (limbs (cman y * 2 ^ k0)) ∧ PL w' w.heap.size q (limbs (cman z * 2 ^ k1)) ∧ Below w.heap.size w w' := by
 obtain ⟨A, n, c, rfl, hC, hn, hc⟩ := h
 obtain ⟨A', n', c', rfl, hC', hn', hc'⟩ := h'
 obtain ⟨x0, hx0⟩ : ∃ x, x = cexp y e := ⟨_, rfl⟩
 obtain ⟨x1, hx1⟩ : ∃ x, x = cexp z e := ⟨_, rfl⟩
 obtain ⟨b0, hb0⟩ : ∃ x, x = cneg y := ⟨_, rfl⟩
 obtain ⟨b1, hb1⟩ : ∃ x, x = cneg z := ⟨_, rfl⟩
 have QA := yk (fun (m : World) (hm : Below w.heap.size w m) => (by have q := pshl_any (limbs (cman y)) A n c k0 hn m (Kd.C_below hC hm) hc (wf_limbs _) (by omega) (by omega); rw [nv_limbs] at q; exact q : Calls Tryz.prog 108 #[.slice A n c, .int .i64 (k0 : Int)] m fun e w' => ∃ v, e = .returned v ∧ PL w' m.heap.size v (limbs (cman y * 2 ^ k0)) ∧ Below m.heap.size m w'))
 have QB := yk (fun (m : World) (hm : Below w.heap.size w m) => (by have q := pshl_any (limbs (cman z)) A' n' c' k1 hn' m (Kd.C_below hC' hm) hc' (wf_limbs _) (by omega) (by omega); rw [nv_limbs] at q; exact q : Calls Tryz.prog 108 #[.slice A' n' c', .int .i64 (k1 : Int)] m fun e w' => ∃ v, e = .returned v ∧ PL w' m.heap.size v (limbs (cman z * 2 ^ k1)) ∧ Below m.heap.size m w'))
 have HX0 := yk (show IntKind.i64.wrap (x0 - E) = (k0 : Int) by rw [hx0, hk0]; exact wrap_i64 (by omega) (by omega))
 have HX1 := yk (show IntKind.i64.wrap (x1 - E) = (k1 : Int) by rw [hx1, hk1]; exact wrap_i64 (by omega) (by omega))
 have hmin : (if x0 ≤ x1 then x0 else x1) = E := by rw [hE, hx0, hx1]; split <;> omega
 rw [← hx0, ← hb0, ← hx1, ← hb1]
 clear hC hC' hb0 hb1
 have hEx : E = min x0 x1 := by rw [hx0, hx1]; exact hE
 clear hx0 hx1 hE hk0 hk1 le1 le2 le1' le2'
 obtain ⟨W0, hW0⟩ : ∃ W0, W0 = ((w.alloc (.cells #[.bool b0, .slice A n c, .int .i64 x0] 27)).alloc (.cells #[.bool b1, .slice A' n' c', .int .i64 x1] 27)) := ⟨_, rfl⟩
 have hh0 : Aside0 (W0.heap[w.heap.size]? = some (.cells #[.bool b0, .slice A n c, .int .i64 x0] 27 (0, 0))) := ⟨by rw [hW0]; exact blk_alloc (blk_new _ _) _⟩
 have hh1 : Aside0 (W0.heap[w.heap.size + 1]? = some (.cells #[.bool b1, .slice A' n' c', .int .i64 x1] 27 (0, 0))) := ⟨by rw [hW0]; have := blk_new (w.alloc (.cells #[.bool b0, .slice A n c, .int .i64 x0] 27)) (.cells #[.bool b1, .slice A' n' c', .int .i64 x1] 27); rw [size_alloc'] at this; exact this⟩
 have HW : Aside0 (Below w.heap.size w W0 ∧ w.heap.size + 2 ≤ W0.heap.size) := ⟨by rw [hW0]; exact ⟨below_alloc (below_alloc yr _) _, by rw [size_alloc', size_alloc']; exact Nat.le_refl _⟩⟩
 go_enter Tryz.func86, Tryz.ntmps86
 go_upto_region 1 with fail
 rw [← hW0]
 clear hW0
 obtain ⟨q0, _⟩ := box_cell (v := .int .i64 x0) hh0.out 2 rfl
 obtain ⟨q1, _⟩ := box_cell (v := .int .i64 x1) hh1.out 2 rfl
 go_upto_region 2 with fail
 rw [← hEx]
 clear hEx q0 q1
 obtain ⟨JA, hJA⟩ : ∃ J : (Nat → Prop) → World → Prop, J = fun L0 W => (Below w.heap.size w W ∧ w.heap.size + 2 ≤ W.heap.size) ∧ W.heap[w.heap.size]? = some (.cells #[.bool b0, .slice A n c, .int .i64 x0] 27 (0, 0)) ∧ W.heap[w.heap.size + 1]? = some (.cells #[.bool b1, .slice A' n' c', .int .i64 x1] 27 (0, 0)) := ⟨_, rfl⟩
 refine wp_region_slotsL [13, 14, 15, 16, 17, 18, 19, 20, 21, 22, 23, 24, 25, 26, 27, 4, 5, 6] (by kernel_rfl) (by kernel_rfl)
  (F := fun j q W => match j with | 0 => q = .pointer (some ⟨w.heap.size, 1, none⟩) | 1 => q = .slice A n c | 2 => q = .pointer (some ⟨w.heap.size, 2, none⟩) | 3 => q = .int .i64 x0 | 4 => q = .int .i64 E | 5 => q = .int .i64 (k0 : Int) | 6 => PL W (w.heap.size + 2) q (limbs (cman y * 2 ^ k0)) | 7 => q = .pointer (some ⟨w.heap.size + 1, 1, none⟩) | 8 => q = .slice A' n' c' | 9 => q = .pointer (some ⟨w.heap.size + 1, 2, none⟩) | 10 => q = .int .i64 x1 | 11 => q = .int .i64 E | 12 => q = .int .i64 (k1 : Int) | 13 => PL W (w.heap.size + 2) q (limbs (cman z * 2 ^ k1)) | 14 => q = .int .i64 E | 15 => PL W (w.heap.size + 2) q (limbs (cman y * 2 ^ k0)) | 16 => PL W (w.heap.size + 2) q (limbs (cman z * 2 ^ k1)) | 17 => q = .int .i64 E | _ => True)
  (J := JA) ?h0A ?hstepA ?hendA
 case h0A =>
  rw [hJA]
  have hd := below_drew (Below.refl W0.heap.size W0)
  exact ⟨⟨below_drew HW.out.1, HW.out.2⟩, yb hh0.out hd, yb hh1.out hd⟩
 case hstepA =>
  intro k o ho v W L0 hJW hF hnk haft hcl K hK
  rw [hJA] at hJW
  obtain ⟨hBW, hb0, hb1⟩ := hJW
  have hJM : ∀ (k : Nat) (w4 : World), Below W.heap.size W w4 → JA (fun j => L0 j ∨ j = k) w4 := by
   intro k w4 hb
   rw [hJA]
   refine ⟨⟨below_then hBW.1 hBW.1.size hb, Nat.le_trans hBW.2 hb.size⟩, yb hb0 hb, yb hb1 hb⟩
  have HJM := yk hJM
  clear hJM hcl
  rcases k with _ | _ | _ | _ | _ | _ | _ | _ | _ | _ | _ | _ | _ | _ | _ | _ | _ | _ | k
  all_goals first
   | (cases ho; done)
   | (obtain rfl := (Option.some.inj ho).symm
      clear ho
      rw [if_pos (by rfl)]
      simp only [setAll, List.setIfInBounds_toArray, List.set_cons_zero, List.set_cons_succ, List.getElem_toArray, List.getElem_cons_zero, List.getElem_cons_succ, Nat.reduceAdd] at haft hF hK ⊢)
  ·
   have key := hK.out (.pointer (some ⟨w.heap.size, 1, none⟩)) W (HJM.out 0 W yr) (fun _ _ h => h) rfl
   go_simp
   simpa [upd] using key
  ·
   have f0 : v 0 = .pointer (some ⟨w.heap.size, 1, none⟩) := hF 0 (haft ⟨0, .data⟩ (by simp) rfl)
   have cc := (box_cell (v := .slice A n c) hb0 1 rfl).1
   have key := hK.out (.slice A n c) W (HJM.out 1 W yr) (fun _ _ h => h) rfl
   go_simp
   simpa [upd, f0] using key
  ·
   have key := hK.out (.pointer (some ⟨w.heap.size, 2, none⟩)) W (HJM.out 2 W yr) (fun _ _ h => h) rfl
   go_simp
   simpa [upd] using key
  ·
   have f2 : v 2 = .pointer (some ⟨w.heap.size, 2, none⟩) := hF 2 (haft ⟨2, .data⟩ (by simp) rfl)
   have cc := (box_cell (v := .int .i64 x0) hb0 2 rfl).1
   have key := hK.out (.int .i64 x0) W (HJM.out 3 W yr) (fun _ _ h => h) rfl
   go_simp
   simpa [upd, f2] using key
  ·
   have key := hK.out (.int .i64 E) W (HJM.out 4 W yr) (fun _ _ h => h) rfl
   go_simp
   simpa [upd] using key
  ·
   have f3 : v 3 = .int .i64 x0 := hF 3 (haft ⟨3, .data⟩ (by simp) rfl)
   have f4 : v 4 = .int .i64 E := hF 4 (haft ⟨4, .data⟩ (by simp) rfl)
   have hw := HX0.out
   have key := hK.out (.int .i64 (k0 : Int)) W (HJM.out 5 W yr) (fun _ _ h => h) rfl
   go_simp
   simpa [upd, f3, f4, hw] using key
  ·
   have f1 : v 1 = .slice A n c := hF 1 (haft ⟨1, .data⟩ (by simp) rfl)
   have f5 : v 5 = .int .i64 (k0 : Int) := hF 5 (haft ⟨5, .data⟩ (by simp) rfl)
   go_simp
   go_at_call 108
   refine (QA.out W hBW.1).mono ?_
   rintro en w4 ⟨v1, rfl, hr, hb⟩
   have key := hK.out (v1) w4 (HJM.out 6 w4 hb) ?monoA_6 (hr.lower hBW.2)
   · simpa [upd, f1, f5] using key
   intro j hj hf
   rcases j with _ | _ | _ | _ | _ | _ | _ | _ | _ | _ | _ | _ | _ | _ | _ | _ | _ | _ | j <;> first | exact hf | exact PDy.below hf hb | exact PL.below hf hb | exact RDy.below hf hb
  ·
   have key := hK.out (.pointer (some ⟨w.heap.size + 1, 1, none⟩)) W (HJM.out 7 W yr) (fun _ _ h => h) rfl
   go_simp
   simpa [upd] using key
  ·
   have f7 : v 7 = .pointer (some ⟨w.heap.size + 1, 1, none⟩) := hF 7 (haft ⟨7, .data⟩ (by simp) rfl)
   have cc := (box_cell (v := .slice A' n' c') hb1 1 rfl).1
   have key := hK.out (.slice A' n' c') W (HJM.out 8 W yr) (fun _ _ h => h) rfl
   go_simp
   simpa [upd, f7] using key
  ·
   have key := hK.out (.pointer (some ⟨w.heap.size + 1, 2, none⟩)) W (HJM.out 9 W yr) (fun _ _ h => h) rfl
   go_simp
   simpa [upd] using key
  ·
   have f9 : v 9 = .pointer (some ⟨w.heap.size + 1, 2, none⟩) := hF 9 (haft ⟨9, .data⟩ (by simp) rfl)
   have cc := (box_cell (v := .int .i64 x1) hb1 2 rfl).1
   have key := hK.out (.int .i64 x1) W (HJM.out 10 W yr) (fun _ _ h => h) rfl
   go_simp
   simpa [upd, f9] using key
  ·
   have key := hK.out (.int .i64 E) W (HJM.out 11 W yr) (fun _ _ h => h) rfl
   go_simp
   simpa [upd] using key
  ·
   have f10 : v 10 = .int .i64 x1 := hF 10 (haft ⟨10, .data⟩ (by simp) rfl)
   have f11 : v 11 = .int .i64 E := hF 11 (haft ⟨11, .data⟩ (by simp) rfl)
   have hw := HX1.out
   have key := hK.out (.int .i64 (k1 : Int)) W (HJM.out 12 W yr) (fun _ _ h => h) rfl
   go_simp
   simpa [upd, f10, f11, hw] using key
  ·
   have f8 : v 8 = .slice A' n' c' := hF 8 (haft ⟨8, .data⟩ (by simp) rfl)
   have f12 : v 12 = .int .i64 (k1 : Int) := hF 12 (haft ⟨12, .data⟩ (by simp) rfl)
   go_simp
   go_at_call 108
   refine (QB.out W hBW.1).mono ?_
   rintro en w4 ⟨v1, rfl, hr, hb⟩
   have key := hK.out (v1) w4 (HJM.out 13 w4 hb) ?monoA_13 (hr.lower hBW.2)
   · simpa [upd, f8, f12] using key
   intro j hj hf
   rcases j with _ | _ | _ | _ | _ | _ | _ | _ | _ | _ | _ | _ | _ | _ | _ | _ | _ | _ | j <;> first | exact hf | exact PDy.below hf hb | exact PL.below hf hb | exact RDy.below hf hb
  ·
   have key := hK.out (.int .i64 E) W (HJM.out 14 W yr) (fun _ _ h => h) rfl
   go_simp
   simpa [upd] using key
  ·
   have f6 : PL W (w.heap.size + 2) (v 6) (limbs (cman y * 2 ^ k0)) := hF 6 (haft ⟨6, .data⟩ (by simp) rfl)
   have key := hK.out (v 6) W (HJM.out 15 W yr) (fun _ _ h => h) f6
   go_simp
   simpa [upd] using key
  ·
   have f13 : PL W (w.heap.size + 2) (v 13) (limbs (cman z * 2 ^ k1)) := hF 13 (haft ⟨13, .data⟩ (by simp) rfl)
   have key := hK.out (v 13) W (HJM.out 16 W yr) (fun _ _ h => h) f13
   go_simp
   simpa [upd] using key
  ·
   have f14 : v 14 = .int .i64 E := hF 14 (haft ⟨14, .data⟩ (by simp) rfl)
   have key := hK.out (.int .i64 E) W (HJM.out 17 W yr) (fun _ _ h => h) rfl
   go_simp
   simpa [upd, f14] using key
 case hendA =>
  intro v W L0 hall hJW hF
  rw [hJA] at hJW
  obtain ⟨hBW, _, _⟩ := hJW
  have f15 : PL W (w.heap.size + 2) (v 15) (limbs (cman y * 2 ^ k0)) := hF 15 (by decide)
  have f16 : PL W (w.heap.size + 2) (v 16) (limbs (cman z * 2 ^ k1)) := hF 16 (by decide)
  have f17 : v 17 = .int .i64 E := hF 17 (by decide)
  have P1 := yk (f15.lower (b' := w.heap.size) (by omega))
  have P2 := yk (f16.lower (b' := w.heap.size) (by omega))
  have BF := yk hBW.1
  clear hF hall f15 f16 hBW
  simp only [setAll, List.setIfInBounds_toArray, List.set_cons_zero, List.set_cons_succ, Nat.reduceAdd, f17]
  go_wp2
  go_ret3
  exact ⟨_, _, rfl, P1.out, P2.out, BF.out⟩
def cmpZ (y z : Int) : Int := if y < z then -1 else if z < y then 1 else 0
def Two (w : World) (b : Nat) (v : Value) (l m : List Nat) (E : Int) : Prop := ∃ p q, v = .tuple #[p, q, .int .i64 E] ∧ PL w b p l ∧ PL w b q m
theorem pow_le2 (a b : Nat) (h : a ≤ b) : 2 ^ a ≤ 2 ^ b := Nat.pow_le_pow_right (by decide) h
theorem Two.below {w w1 : World} {b : Nat} {v : Value} {l m : List Nat} {E : Int} (h : Two w b v l m E) (hb : Below w.heap.size w w1) : Two w1 b v l m E := by
 obtain ⟨p, q, e, h1, h2⟩ := h
 exact ⟨p, q, e, h1.below hb, h2.below hb⟩
theorem abs_form {z e : Int} (h : z ≠ 0) : ∃ k : Nat, cexp z e = e + k ∧ z.natAbs = cman z * 2 ^ k := by
 obtain ⟨k, e1, e2, _⟩ := of_form (e := e) h
 refine ⟨k, e1, ?_⟩
 have := congrArg Int.natAbs e2
 rw [sgn_abs] at this
 exact this
theorem top_lt {y z e : Int} (hy : y ≠ 0) (hz : z ≠ 0) (h : cexp y e + bl (cman y) - 1 < cexp z e + bl (cman z) - 1) : y.natAbs < z.natAbs := by
 obtain ⟨j, e1, e2⟩ := abs_form (e := e) hy
 obtain ⟨k, e3, e4⟩ := abs_form (e := e) hz
 have h1 : bl y.natAbs = bl (cman y) + j := by rw [e2]; exact bl_mul_pow (fun h => hy (cman_eq_zero.1 h)) j
 have h2 : bl z.natAbs = bl (cman z) + k := by rw [e4]; exact bl_mul_pow (fun h => hz (cman_eq_zero.1 h)) k
 refine Classical.byContradiction fun hc => ?_
 have h3 := bl_lt y.natAbs
 have h4 : z.natAbs < 2 ^ bl y.natAbs := by omega
 have h5 := bl_le_iff.2 h4
 omega
theorem cmp_amounts {y z e E : Int} {k0 k1 : Nat} (hy : y ≠ 0) (hz : z ≠ 0) (hE : E = min (cexp y e) (cexp z e)) (h0 : cexp y e - E = k0) (h1 : cexp z e - E = k1) : cmpN (cman y * 2 ^ k0) (cman z * 2 ^ k1) = cmpN y.natAbs z.natAbs := by
 obtain ⟨j, e1, e2⟩ := abs_form (e := e) hy
 obtain ⟨k, e3, e4⟩ := abs_form (e := e) hz
 obtain ⟨d, hd⟩ : ∃ d : Nat, E = e + d := ⟨min j k, by omega⟩
 have a1 : j = k0 + d := by omega
 have a2 : k = k1 + d := by omega
 rw [e2, e4, a1, a2, Nat.pow_add, Nat.pow_add, ← Nat.mul_assoc, ← Nat.mul_assoc]
 have hp := Nat.two_pow_pos d
 unfold cmpN
 simp only [Nat.mul_lt_mul_right hp]
theorem cmpZ_sign {y z s : Int} (hy : sgnI y = s) (hz : sgnI z = s) (h0 : s ≠ 0) : cmpZ y z = s * cmpN y.natAbs z.natAbs := by
 unfold sgnI at hy hz
 unfold cmpZ cmpN
 split at hy
 · omega
 · split at hz
   · omega
   · split at hy <;> split at hz <;> subst hy <;> first | (exfalso; revert hz; decide) | skip
     all_goals
      repeat' split
      all_goals omega
theorem cmpZ_lt {y z : Int} (h : sgnI y < sgnI z) : cmpZ y z = -1 := by
 unfold sgnI at h
 unfold cmpZ
 rw [if_pos]
 revert h
 repeat' split
 all_goals omega
theorem cmpZ_gt {y z : Int} (h : sgnI z < sgnI y) : cmpZ y z = 1 := by
 unfold sgnI at h
 unfold cmpZ
 rw [if_neg, if_pos]
 all_goals
  revert h
  repeat' split
  all_goals omega

theorem pcmp_dy (u v : Value) (y z e : Int) (w : World) (h : CDy w u y e) (h' : CDy w v z e) (hl : (limbs (cman y)).length ≤ 268435456) (hl' : (limbs (cman z)).length ≤ 268435456) (le1 : -8589934592 ≤ cexp y e) (le2 : cexp y e ≤ 8589934592) (le1' : -8589934592 ≤ cexp z e) (le2' : cexp z e ≤ 8589934592) (hT : TabAt 0 Lib.deBruijn64tab w) :
 Calls Tryz.prog 51 #[u, v] w fun en w' => en = .returned (.int .i64 (cmpZ y z)) ∧ Below w.heap.size w w' := by
 have QS0 := yk (fun (m : World) (hm : Below w.heap.size w m) => psign_dy u y e m (h.below hm) (by omega))
 have QS1 := yk (fun (m : World) (hm : Below w.heap.size w m) => psign_dy v z e m (h'.below hm) (by omega))
 have QT0 := yk (fun (m : World) (hm : Below w.heap.size w m) => ptop_dy u y e m (h.below hm) (by omega) (by omega) (by omega))
 have QT1 := yk (fun (m : World) (hm : Below w.heap.size w m) => ptop_dy v z e m (h'.below hm) (by omega) (by omega) (by omega))
 have QO0 := yk (fun (m : World) (hm : Below w.heap.size w m) => pone_dy u y e m (h.below hm) (by omega) (by omega) (by omega) (tab_below hT hm))
 have QO1 := yk (fun (m : World) (hm : Below w.heap.size w m) => pone_dy v z e m (h'.below hm) (by omega) (by omega) (by omega) (tab_below hT hm))
 obtain ⟨E, hE⟩ : ∃ E, E = min (cexp y e) (cexp z e) := ⟨_, rfl⟩
 obtain ⟨k0, hk0⟩ : ∃ k : Nat, cexp y e - E = k := ⟨(cexp y e - E).toNat, by omega⟩
 obtain ⟨k1, hk1⟩ : ∃ k : Nat, cexp z e - E = k := ⟨(cexp z e - E).toNat, by omega⟩
 have QAM := yk (fun (u v : Value) (m : World) (h : CDy m u y e) (h' : CDy m v z e) => pamounts_dy u v y z e E k0 k1 m h h' hE hk0 hk1 (by omega) (by omega) (by omega) (by omega) (by omega) (by omega))
 obtain ⟨na, hna⟩ : ∃ x, x = cman y * 2 ^ k0 := ⟨_, rfl⟩
 obtain ⟨nb, hnb⟩ : ∃ x, x = cman z * 2 ^ k1 := ⟨_, rfl⟩
 have HCA := yk (fun (hy : y ≠ 0) (hz : z ≠ 0) => (by have q := cmp_amounts hy hz hE hk0 hk1; rw [← hna, ← hnb] at q; exact q : cmpN na nb = cmpN y.natAbs z.natAbs))
 have la1 : (limbs na).length ≤ 4294967296 := by
  rw [hna]
  refine limbs_len_le ?_
  have q1 := nv_lt (wf_limbs (cman y))
  rw [nv_limbs] at q1
  refine Nat.lt_of_lt_of_le (Nat.mul_lt_mul_of_pos_right q1 (Nat.two_pow_pos k0)) ?_
  rw [← Nat.pow_add]
  have q2 : 64 * (limbs (cman y)).length + k0 ≤ 64 * 4294967296 := by omega
  generalize 64 * 4294967296 = E2 at q2 ⊢
  exact pow_le2 _ _ q2
 have lb1 : (limbs nb).length ≤ 4294967296 := by
  rw [hnb]
  refine limbs_len_le ?_
  have q1 := nv_lt (wf_limbs (cman z))
  rw [nv_limbs] at q1
  refine Nat.lt_of_lt_of_le (Nat.mul_lt_mul_of_pos_right q1 (Nat.two_pow_pos k1)) ?_
  rw [← Nat.pow_add]
  have q2 : 64 * (limbs (cman z)).length + k1 ≤ 64 * 4294967296 := by omega
  generalize 64 * 4294967296 = E2 at q2 ⊢
  exact pow_le2 _ _ q2
 obtain ⟨la, hla⟩ : ∃ x, x = limbs na := ⟨_, rfl⟩
 obtain ⟨lb, hlb⟩ : ∃ x, x = limbs nb := ⟨_, rfl⟩
 rw [← hna, ← hnb, ← hla, ← hlb] at QAM
 have QC := yk (fun (A B : Option Addr) (c d : Nat) (m : World) (ha : kU.C m A la.length la) (hb : kU.C m B lb.length lb) (hc : la.length ≤ c) (hd : lb.length ≤ d) => (by
  have q := pcmp_any la lb A B la.length lb.length c d rfl rfl m ha hb hc hd (by rw [hla]; exact wf_limbs _) (by rw [hlb]; exact wf_limbs _) (by rw [hla]; exact la1) (by rw [hlb]; exact lb1)
  rw [show nv la = na by rw [hla, nv_limbs], show nv lb = nb by rw [hlb, nv_limbs]] at q
  exact q : Calls Tryz.prog 88 #[.slice A la.length c, .slice B lb.length d] m fun e w' => e = .returned (.int .i64 (cmpN na nb)) ∧ ∃ n, w' = m.drewN n))
 obtain ⟨s0, hs0⟩ : ∃ s, sgnI y = s := ⟨_, rfl⟩
 obtain ⟨s1, hs1⟩ : ∃ s, sgnI z = s := ⟨_, rfl⟩
 obtain ⟨t0, ht0⟩ : ∃ t, cexp y e + bl (cman y) - 1 = t := ⟨_, rfl⟩
 obtain ⟨t1, ht1⟩ : ∃ t, cexp z e + bl (cman z) - 1 = t := ⟨_, rfl⟩
 have HSV := yk (ya hs0 (ya hs1 (ya ht0 ht1)))
 have hsr0 : s0 = -1 ∨ s0 = 0 ∨ s0 = 1 := by rw [← hs0]; unfold sgnI; split; exact .inr (.inl rfl); split; exact .inl rfl; exact .inr (.inr rfl)
 rw [hs0] at QS0
 rw [hs1] at QS1
 rw [ht0] at QT0
 rw [ht1] at QT1
 obtain ⟨A, n, c, rfl, hC, hn, hc⟩ := h
 obtain ⟨A', n', c', rfl, hC', hn', hc'⟩ := h'
 obtain ⟨x0, hx0⟩ : ∃ x, x = cexp y e := ⟨_, rfl⟩
 obtain ⟨x1, hx1⟩ : ∃ x, x = cexp z e := ⟨_, rfl⟩
 obtain ⟨b0, hb0⟩ : ∃ x, x = cneg y := ⟨_, rfl⟩
 obtain ⟨b1, hb1⟩ : ∃ x, x = cneg z := ⟨_, rfl⟩
 rw [← hx0, ← hb0] at QS0 QT0 QO0
 rw [← hx1, ← hb1] at QS1 QT1 QO1
 rw [← hx0, ← hb0, ← hx1, ← hb1]
 clear hC hC' hx0 hx1 hb0 hb1 hT hE hk0 hk1 hna hnb hla hlb la1 lb1 hs0 hs1 ht0 ht1 le1 le2 le1' le2' hl hl'
 obtain ⟨W0, hW0⟩ : ∃ W0, W0 = ((w.alloc (.cells #[.bool b0, .slice A n c, .int .i64 x0] 27)).alloc (.cells #[.bool b1, .slice A' n' c', .int .i64 x1] 27)) := ⟨_, rfl⟩
 have hh0 : Aside0 (W0.heap[w.heap.size]? = some (.cells #[.bool b0, .slice A n c, .int .i64 x0] 27 (0, 0))) := ⟨by rw [hW0]; exact blk_alloc (blk_new _ _) _⟩
 have hh1 : Aside0 (W0.heap[w.heap.size + 1]? = some (.cells #[.bool b1, .slice A' n' c', .int .i64 x1] 27 (0, 0))) := ⟨by rw [hW0]; have := blk_new (w.alloc (.cells #[.bool b0, .slice A n c, .int .i64 x0] 27)) (.cells #[.bool b1, .slice A' n' c', .int .i64 x1] 27); rw [size_alloc'] at this; exact this⟩
 have HW : Aside0 (Below w.heap.size w W0 ∧ w.heap.size + 2 ≤ W0.heap.size) := ⟨by rw [hW0]; exact ⟨below_alloc (below_alloc yr _) _, by rw [size_alloc', size_alloc']; exact Nat.le_refl _⟩⟩
 go_enter Tryz.func51, Tryz.ntmps51
 go_upto_region 1 with fail
 rw [← hW0]
 clear hW0
 obtain ⟨JP, hJP⟩ : ∃ J : (Nat → Prop) → World → Prop, J = fun L0 W => (Below w.heap.size w W ∧ w.heap.size + 2 ≤ W.heap.size) ∧ W.heap[w.heap.size]? = some (.cells #[.bool b0, .slice A n c, .int .i64 x0] 27 (0, 0)) ∧ W.heap[w.heap.size + 1]? = some (.cells #[.bool b1, .slice A' n' c', .int .i64 x1] 27 (0, 0)) := ⟨_, rfl⟩
 refine wp_region_slotsL [12, 13, 14, 15, 5, 6] (by kernel_rfl) (by kernel_rfl)
  (F := fun j q W => match j with | 0 => q = .agg #[.bool b0, .slice A n c, .int .i64 x0] | 1 => q = .int .i64 s0 | 2 => q = .agg #[.bool b1, .slice A' n' c', .int .i64 x1] | 3 => q = .int .i64 s1 | 4 => q = .int .i64 s0 | 5 => q = .int .i64 s1 | _ => True)
  (J := JP) ?h0P ?hstepP ?hendP
 case h0P =>
  rw [hJP]
  have hd := below_drew (Below.refl W0.heap.size W0)
  exact ⟨⟨below_drew HW.out.1, HW.out.2⟩, yb hh0.out hd, yb hh1.out hd⟩
 case hstepP =>
  intro k o ho v W L0 hJW hF hnk haft hcl K hK
  rw [hJP] at hJW
  obtain ⟨hBW, hb0, hb1⟩ := hJW
  have hJM : ∀ (k : Nat) (w4 : World), Below W.heap.size W w4 → JP (fun j => L0 j ∨ j = k) w4 := by
   intro k w4 hb
   rw [hJP]
   refine ⟨⟨below_then hBW.1 hBW.1.size hb, Nat.le_trans hBW.2 hb.size⟩, yb hb0 hb, yb hb1 hb⟩
  have HJM := yk hJM
  clear hJM hcl
  rcases k with _ | _ | _ | _ | _ | _ | k
  all_goals first
   | (cases ho; done)
   | (obtain rfl := (Option.some.inj ho).symm
      clear ho
      rw [if_pos (by rfl)]
      simp only [setAll, List.setIfInBounds_toArray, List.set_cons_zero, List.set_cons_succ, List.getElem_toArray, List.getElem_cons_zero, List.getElem_cons_succ, Nat.reduceAdd] at haft hF hK ⊢)
  ·
   have cc0 := (box_cell (v := .bool b0) hb0 0 rfl).1
   have cc1 := (box_cell (v := .slice A n c) hb0 1 rfl).1
   have cc2 := (box_cell (v := .int .i64 x0) hb0 2 rfl).1
   have key := hK.out (.agg #[.bool b0, .slice A n c, .int .i64 x0]) W (HJM.out 0 W yr) (fun _ _ h => h) rfl
   go_simp
   simpa [upd] using key
  ·
   have f0 : v 0 = .agg #[.bool b0, .slice A n c, .int .i64 x0] := hF 0 (haft ⟨0, .data⟩ (by simp) rfl)
   go_simp
   go_at_call 50
   refine (QS0.out W hBW.1).mono ?_
   rintro en w4 ⟨rfl, hb⟩
   have key := hK.out (.int .i64 s0) w4 (HJM.out 1 w4 hb) ?monoP_1 (rfl)
   · simpa [upd, f0] using key
   intro j hj hf
   rcases j with _ | _ | _ | _ | _ | _ | j <;> first | exact hf | exact PDy.below hf hb | exact PL.below hf hb | exact Two.below hf hb | exact RDy.below hf hb
  ·
   have cc0 := (box_cell (v := .bool b1) hb1 0 rfl).1
   have cc1 := (box_cell (v := .slice A' n' c') hb1 1 rfl).1
   have cc2 := (box_cell (v := .int .i64 x1) hb1 2 rfl).1
   have key := hK.out (.agg #[.bool b1, .slice A' n' c', .int .i64 x1]) W (HJM.out 2 W yr) (fun _ _ h => h) rfl
   go_simp
   simpa [upd] using key
  ·
   have f2 : v 2 = .agg #[.bool b1, .slice A' n' c', .int .i64 x1] := hF 2 (haft ⟨2, .data⟩ (by simp) rfl)
   go_simp
   go_at_call 50
   refine (QS1.out W hBW.1).mono ?_
   rintro en w4 ⟨rfl, hb⟩
   have key := hK.out (.int .i64 s1) w4 (HJM.out 3 w4 hb) ?monoP_3 (rfl)
   · simpa [upd, f2] using key
   intro j hj hf
   rcases j with _ | _ | _ | _ | _ | _ | j <;> first | exact hf | exact PDy.below hf hb | exact PL.below hf hb | exact Two.below hf hb | exact RDy.below hf hb
  ·
   have f1 : v 1 = .int .i64 s0 := hF 1 (haft ⟨1, .data⟩ (by simp) rfl)
   have key := hK.out (.int .i64 s0) W (HJM.out 4 W yr) (fun _ _ h => h) rfl
   go_simp
   simpa [upd, f1] using key
  ·
   have f3 : v 3 = .int .i64 s1 := hF 3 (haft ⟨3, .data⟩ (by simp) rfl)
   have key := hK.out (.int .i64 s1) W (HJM.out 5 W yr) (fun _ _ h => h) rfl
   go_simp
   simpa [upd, f3] using key
 case hendP =>
  intro v1 W1 L1 hall hJW hF
  rw [hJP] at hJW
  obtain ⟨hB1, hbx0, hbx1⟩ := hJW
  have f4 : v1 4 = .int .i64 s0 := hF 4 (by decide)
  have f5 : v1 5 = .int .i64 s1 := hF 5 (by decide)
  have HB1 := yk hB1
  have HX0 := yk hbx0
  have HX1 := yk hbx1
  clear hF hall hB1 hbx0 hbx1 hJP
  simp only [setAll, List.setIfInBounds_toArray, List.set_cons_zero, List.set_cons_succ, Nat.reduceAdd, f4, f5]
  rcases Int.lt_trichotomy s0 s1 with hlt | heq | hgt
  · have HV := yk (show cmpZ y z = -1 from cmpZ_lt (by rw [HSV.out.1, HSV.out.2.1]; exact hlt))
    go_wp2
    go_ret
    exact ⟨ret_int (by rw [HV.out]), HB1.out.1⟩
  · subst heq
    have hirr : ¬ s0 < s0 := by omega
    by_cases hz0 : s0 = 0
    · subst hz0
      have HV := yk (show cmpZ y z = 0 by
       have q1 := HSV.out.1
       have q2 := HSV.out.2.1
       have hy0 : y = 0 := by unfold sgnI at q1; split at q1; assumption; split at q1 <;> omega
       have hz0 : z = 0 := by unfold sgnI at q2; split at q2; assumption; split at q2 <;> omega
       rw [hy0, hz0]; decide)
      go_wp2
      go_ret
      exact ⟨ret_int (by rw [HV.out]), HB1.out.1⟩
    · have hz1 : (s0 == 0) = false := by simp; exact hz0
      have HNE := yk (show y ≠ 0 ∧ z ≠ 0 by
       have q1 := HSV.out.1
       have q2 := HSV.out.2.1
       constructor
       · rintro rfl; exact hz0 q1.symm
       · rintro rfl; exact hz0 q2.symm)
      have HZS := yk (show cmpZ y z = s0 * cmpN y.natAbs z.natAbs from cmpZ_sign HSV.out.1 HSV.out.2.1 hz0)
      clear hz0
      go_upto_region 8 with fail
      obtain ⟨JR, hJR⟩ : ∃ J : (Nat → Prop) → World → Prop, J = fun L0 W => (Below w.heap.size w W ∧ w.heap.size + 2 ≤ W.heap.size) ∧ W.heap[w.heap.size]? = some (.cells #[.bool b0, .slice A n c, .int .i64 x0] 27 (0, 0)) ∧ W.heap[w.heap.size + 1]? = some (.cells #[.bool b1, .slice A' n' c', .int .i64 x1] 27 (0, 0)) := ⟨_, rfl⟩
      refine wp_region_slotsL [27, 28, 29, 30, 7, 8] (by kernel_rfl) (by kernel_rfl)
       (F := fun j q W => match j with | 0 => q = .agg #[.bool b0, .slice A n c, .int .i64 x0] | 1 => q = .int .i64 t0 | 2 => q = .agg #[.bool b1, .slice A' n' c', .int .i64 x1] | 3 => q = .int .i64 t1 | 4 => q = .int .i64 t0 | 5 => q = .int .i64 t1 | _ => True)
       (J := JR) ?h0R ?hstepR ?hendR
      case h0R =>
       rw [hJR]
       have hd := below_drew (Below.refl W1.heap.size W1)
       exact ⟨⟨below_drew HB1.out.1, HB1.out.2⟩, yb HX0.out hd, yb HX1.out hd⟩
      case hstepR =>
       intro k o ho v W L0 hJW hF hnk haft hcl K hK
       rw [hJR] at hJW
       obtain ⟨hBW, hb0, hb1⟩ := hJW
       have hJM : ∀ (k : Nat) (w4 : World), Below W.heap.size W w4 → JR (fun j => L0 j ∨ j = k) w4 := by
        intro k w4 hb
        rw [hJR]
        refine ⟨⟨below_then hBW.1 hBW.1.size hb, Nat.le_trans hBW.2 hb.size⟩, yb hb0 hb, yb hb1 hb⟩
       have HJM := yk hJM
       clear hJM hcl
       rcases k with _ | _ | _ | _ | _ | _ | k
       all_goals first
        | (cases ho; done)
        | (obtain rfl := (Option.some.inj ho).symm
           clear ho
           rw [if_pos (by rfl)]
           simp only [setAll, List.setIfInBounds_toArray, List.set_cons_zero, List.set_cons_succ, List.getElem_toArray, List.getElem_cons_zero, List.getElem_cons_succ, Nat.reduceAdd] at haft hF hK ⊢)
       ·
        have cc0 := (box_cell (v := .bool b0) hb0 0 rfl).1
        have cc1 := (box_cell (v := .slice A n c) hb0 1 rfl).1
        have cc2 := (box_cell (v := .int .i64 x0) hb0 2 rfl).1
        have key := hK.out (.agg #[.bool b0, .slice A n c, .int .i64 x0]) W (HJM.out 0 W yr) (fun _ _ h => h) rfl
        go_simp
        simpa [upd] using key
       ·
        have f0 : v 0 = .agg #[.bool b0, .slice A n c, .int .i64 x0] := hF 0 (haft ⟨0, .data⟩ (by simp) rfl)
        go_simp
        go_at_call 85
        refine (QT0.out W hBW.1).mono ?_
        rintro en w4 ⟨rfl, hb⟩
        have key := hK.out (.int .i64 t0) w4 (HJM.out 1 w4 hb) ?monoR_1 (rfl)
        · simpa [upd, f0] using key
        intro j hj hf
        rcases j with _ | _ | _ | _ | _ | _ | j <;> first | exact hf | exact PDy.below hf hb | exact PL.below hf hb | exact Two.below hf hb | exact RDy.below hf hb
       ·
        have cc0 := (box_cell (v := .bool b1) hb1 0 rfl).1
        have cc1 := (box_cell (v := .slice A' n' c') hb1 1 rfl).1
        have cc2 := (box_cell (v := .int .i64 x1) hb1 2 rfl).1
        have key := hK.out (.agg #[.bool b1, .slice A' n' c', .int .i64 x1]) W (HJM.out 2 W yr) (fun _ _ h => h) rfl
        go_simp
        simpa [upd] using key
       ·
        have f2 : v 2 = .agg #[.bool b1, .slice A' n' c', .int .i64 x1] := hF 2 (haft ⟨2, .data⟩ (by simp) rfl)
        go_simp
        go_at_call 85
        refine (QT1.out W hBW.1).mono ?_
        rintro en w4 ⟨rfl, hb⟩
        have key := hK.out (.int .i64 t1) w4 (HJM.out 3 w4 hb) ?monoR_3 (rfl)
        · simpa [upd, f2] using key
        intro j hj hf
        rcases j with _ | _ | _ | _ | _ | _ | j <;> first | exact hf | exact PDy.below hf hb | exact PL.below hf hb | exact Two.below hf hb | exact RDy.below hf hb
       ·
        have f1 : v 1 = .int .i64 t0 := hF 1 (haft ⟨1, .data⟩ (by simp) rfl)
        have key := hK.out (.int .i64 t0) W (HJM.out 4 W yr) (fun _ _ h => h) rfl
        go_simp
        simpa [upd, f1] using key
       ·
        have f3 : v 3 = .int .i64 t1 := hF 3 (haft ⟨3, .data⟩ (by simp) rfl)
        have key := hK.out (.int .i64 t1) W (HJM.out 5 W yr) (fun _ _ h => h) rfl
        go_simp
        simpa [upd, f3] using key
      case hendR =>
       intro v2 W2 L2 hall hJW hF
       rw [hJR] at hJW
       obtain ⟨hB2, hbx0, hbx1⟩ := hJW
       have f42 : v2 4 = .int .i64 t0 := hF 4 (by decide)
       have f52 : v2 5 = .int .i64 t1 := hF 5 (by decide)
       have HB2 := yk hB2
       have HX02 := yk hbx0
       have HX12 := yk hbx1
       clear hF hall hB2 hbx0 hbx1 hJR
       simp only [setAll, List.setIfInBounds_toArray, List.set_cons_zero, List.set_cons_succ, Nat.reduceAdd, f42, f52]
       rcases Int.lt_trichotomy t0 t1 with hlt | heq | hgt
       · have hne : (t0 != t1) = true := by simp; omega
         have HV := yk (show cmpZ y z = -s0 by
          have q := top_lt (y := y) (z := z) (e := e) HNE.out.1 HNE.out.2 (by rw [HSV.out.2.2.1, HSV.out.2.2.2]; exact hlt)
          rw [HZS.out, show cmpN y.natAbs z.natAbs = -1 by unfold cmpN; rw [if_pos q]]; omega)
         have hw : IntKind.i64.wrap (-s0) = -s0 := wrap_i64 (by omega) (by omega)
         go_wp2
         go_ret
         exact ⟨ret_int (by first | rw [HV.out] | (rw [HV.out]; first | rfl | exact hw)), HB2.out.1⟩
       · subst heq
         have hne : (t0 != t0) = false := by simp
         go_upto_region 13 with fail
         obtain ⟨JS, hJS⟩ : ∃ J : (Nat → Prop) → World → Prop, J = fun L0 W => (Below w.heap.size w W ∧ w.heap.size + 2 ≤ W.heap.size) ∧ W.heap[w.heap.size]? = some (.cells #[.bool b0, .slice A n c, .int .i64 x0] 27 (0, 0)) ∧ W.heap[w.heap.size + 1]? = some (.cells #[.bool b1, .slice A' n' c', .int .i64 x1] 27 (0, 0)) := ⟨_, rfl⟩
         refine wp_region_slotsL [41, 42, 43, 44, 45, 40, 46, 47, 48, 9, 10, 11] (by kernel_rfl) (by kernel_rfl)
          (F := fun j q W => match j with | 0 => q = .agg #[.bool b0, .slice A n c, .int .i64 x0] | 1 => PDy W (w.heap.size + 2) q y e | 2 => q = .agg #[.bool b1, .slice A' n' c', .int .i64 x1] | 3 => PDy W (w.heap.size + 2) q z e | 4 => Two W (w.heap.size + 2) q la lb E | 5 => Two W (w.heap.size + 2) q la lb E | 6 => PL W (w.heap.size + 2) q la | 7 => PL W (w.heap.size + 2) q lb | 8 => q = .int .i64 E | 9 => PL W (w.heap.size + 2) q la | 10 => PL W (w.heap.size + 2) q lb | 11 => q = .int .i64 E | _ => True)
          (J := JS) ?h0S ?hstepS ?hendS
         case h0S =>
          rw [hJS]
          have hd := below_drew (Below.refl W2.heap.size W2)
          exact ⟨⟨below_drew HB2.out.1, HB2.out.2⟩, yb HX02.out hd, yb HX12.out hd⟩
         case hstepS =>
          intro k o ho v W L0 hJW hF hnk haft hcl K hK
          rw [hJS] at hJW
          obtain ⟨hBW, hb0, hb1⟩ := hJW
          have hJM : ∀ (k : Nat) (w4 : World), Below W.heap.size W w4 → JS (fun j => L0 j ∨ j = k) w4 := by
           intro k w4 hb
           rw [hJS]
           refine ⟨⟨below_then hBW.1 hBW.1.size hb, Nat.le_trans hBW.2 hb.size⟩, yb hb0 hb, yb hb1 hb⟩
          have HJM := yk hJM
          clear hJM hcl
          rcases k with _ | _ | _ | _ | _ | _ | _ | _ | _ | _ | _ | _ | k
          all_goals first
           | (cases ho; done)
           | (obtain rfl := (Option.some.inj ho).symm
              clear ho
              rw [if_pos (by rfl)]
              simp only [setAll, List.setIfInBounds_toArray, List.set_cons_zero, List.set_cons_succ, List.getElem_toArray, List.getElem_cons_zero, List.getElem_cons_succ, Nat.reduceAdd] at haft hF hK ⊢)
          ·
           have cc0 := (box_cell (v := .bool b0) hb0 0 rfl).1
           have cc1 := (box_cell (v := .slice A n c) hb0 1 rfl).1
           have cc2 := (box_cell (v := .int .i64 x0) hb0 2 rfl).1
           have key := hK.out (.agg #[.bool b0, .slice A n c, .int .i64 x0]) W (HJM.out 0 W yr) (fun _ _ h => h) rfl
           go_simp
           simpa [upd] using key
          ·
           have f0 : v 0 = .agg #[.bool b0, .slice A n c, .int .i64 x0] := hF 0 (haft ⟨0, .data⟩ (by simp) rfl)
           go_simp
           go_at_call 87
           refine (QO0.out W hBW.1).mono ?_
           rintro en w4 ⟨v1, rfl, hr, hb⟩
           have key := hK.out (v1) w4 (HJM.out 1 w4 hb) ?monoS_1 (hr.lower hBW.2)
           · simpa [upd, f0] using key
           intro j hj hf
           rcases j with _ | _ | _ | _ | _ | _ | _ | _ | _ | _ | _ | _ | j <;> first | exact hf | exact PDy.below hf hb | exact PL.below hf hb | exact Two.below hf hb | exact RDy.below hf hb
          ·
           have cc0 := (box_cell (v := .bool b1) hb1 0 rfl).1
           have cc1 := (box_cell (v := .slice A' n' c') hb1 1 rfl).1
           have cc2 := (box_cell (v := .int .i64 x1) hb1 2 rfl).1
           have key := hK.out (.agg #[.bool b1, .slice A' n' c', .int .i64 x1]) W (HJM.out 2 W yr) (fun _ _ h => h) rfl
           go_simp
           simpa [upd] using key
          ·
           have f2 : v 2 = .agg #[.bool b1, .slice A' n' c', .int .i64 x1] := hF 2 (haft ⟨2, .data⟩ (by simp) rfl)
           go_simp
           go_at_call 87
           refine (QO1.out W hBW.1).mono ?_
           rintro en w4 ⟨v1, rfl, hr, hb⟩
           have key := hK.out (v1) w4 (HJM.out 3 w4 hb) ?monoS_3 (hr.lower hBW.2)
           · simpa [upd, f2] using key
           intro j hj hf
           rcases j with _ | _ | _ | _ | _ | _ | _ | _ | _ | _ | _ | _ | j <;> first | exact hf | exact PDy.below hf hb | exact PL.below hf hb | exact Two.below hf hb | exact RDy.below hf hb
          ·
           have f1 : PDy W (w.heap.size + 2) (v 1) y e := hF 1 (haft ⟨1, .data⟩ (by simp) rfl)
           have f3 : PDy W (w.heap.size + 2) (v 3) z e := hF 3 (haft ⟨3, .data⟩ (by simp) rfl)
           go_simp
           go_at_call 86
           refine (QAM.out (v 1) (v 3) W f1.c f3.c).mono ?_
           rintro en w4 ⟨p, r, rfl, g1, g2, hb⟩
           have key := hK.out (.tuple #[p, r, .int .i64 E]) w4 (HJM.out 4 w4 hb) ?monoS_4 (⟨p, r, rfl, g1.lower hBW.2, g2.lower hBW.2⟩)
           · simpa [upd] using key
           intro j hj hf
           rcases j with _ | _ | _ | _ | _ | _ | _ | _ | _ | _ | _ | _ | j <;> first | exact hf | exact PDy.below hf hb | exact PL.below hf hb | exact Two.below hf hb | exact RDy.below hf hb
          ·
           have f4 : Two W (w.heap.size + 2) (v 4) la lb E := hF 4 (haft ⟨4, .data⟩ (by simp) rfl)
           have key := hK.out (v 4) W (HJM.out 5 W yr) (fun _ _ h => h) f4
           go_simp
           simpa [upd] using key
          ·
           have f5 : Two W (w.heap.size + 2) (v 5) la lb E := hF 5 (haft ⟨5, .data⟩ (by simp) rfl)
           obtain ⟨p, r, f5v, g1, g2⟩ := f5
           have key := hK.out p W (HJM.out 6 W yr) (fun _ _ h => h) g1
           go_simp
           simpa [upd, f5v] using key
          ·
           have f5 : Two W (w.heap.size + 2) (v 5) la lb E := hF 5 (haft ⟨5, .data⟩ (by simp) rfl)
           obtain ⟨p, r, f5v, g1, g2⟩ := f5
           have key := hK.out r W (HJM.out 7 W yr) (fun _ _ h => h) g2
           go_simp
           simpa [upd, f5v] using key
          ·
           have f5 : Two W (w.heap.size + 2) (v 5) la lb E := hF 5 (haft ⟨5, .data⟩ (by simp) rfl)
           obtain ⟨p, r, f5v, g1, g2⟩ := f5
           have key := hK.out (.int .i64 E) W (HJM.out 8 W yr) (fun _ _ h => h) rfl
           go_simp
           simpa [upd, f5v] using key
          ·
           have f6 : PL W (w.heap.size + 2) (v 6) la := hF 6 (haft ⟨6, .data⟩ (by simp) rfl)
           have key := hK.out (v 6) W (HJM.out 9 W yr) (fun _ _ h => h) f6
           go_simp
           simpa [upd] using key
          ·
           have f7 : PL W (w.heap.size + 2) (v 7) lb := hF 7 (haft ⟨7, .data⟩ (by simp) rfl)
           have key := hK.out (v 7) W (HJM.out 10 W yr) (fun _ _ h => h) f7
           go_simp
           simpa [upd] using key
          ·
           have f8 : v 8 = .int .i64 E := hF 8 (haft ⟨8, .data⟩ (by simp) rfl)
           have key := hK.out (.int .i64 E) W (HJM.out 11 W yr) (fun _ _ h => h) rfl
           go_simp
           simpa [upd, f8] using key
         case hendS =>
          intro v3 W3 L3 hall hJW hF
          rw [hJS] at hJW
          obtain ⟨hB3, _, _⟩ := hJW
          have g9 : PL W3 (w.heap.size + 2) (v3 9) la := hF 9 (by decide)
          have g10 : PL W3 (w.heap.size + 2) (v3 10) lb := hF 10 (by decide)
          obtain ⟨Aa, ca, f9v, hca, hCa⟩ := g9.c
          obtain ⟨Ab, cb, f10v, hcb, hCb⟩ := g10.c
          have HB3 := yk hB3
          have HCa := yk (ya hca hCa)
          have HCb := yk (ya hcb hCb)
          clear hF hall hB3 hJS g9 g10 hca hCa hcb hCb
          simp only [setAll, List.setIfInBounds_toArray, List.set_cons_zero, List.set_cons_succ, Nat.reduceAdd, f9v, f10v]
          have HV := yk (show cmpZ y z = s0 * cmpN na nb by rw [HZS.out, HCA.out HNE.out.1 HNE.out.2])
          obtain ⟨cc, hcc⟩ : ∃ cc, cc = cmpN na nb := ⟨_, rfl⟩
          have hcr : cc = -1 ∨ cc = 0 ∨ cc = 1 := by rw [hcc]; unfold cmpN; split; exact .inl rfl; split; exact .inr (.inr rfl); exact .inr (.inl rfl)
          rw [← hcc] at QC HV
          clear hcc
          have hw : IntKind.i64.wrap (s0 * cc) = s0 * cc := by
           rcases hsr0 with rfl | rfl | rfl <;> rcases hcr with rfl | rfl | rfl <;> decide
          go_wp2_with (go_at_call 88; refine (QC.out Aa Ab ca cb _ HCa.out.2 HCb.out.2 HCa.out.1 HCb.out.1).mono ?_; rintro e w' ⟨rfl, n5, rfl⟩)
          go_ret
          exact ⟨ret_int (by first | (rw [HV.out]; done) | (rw [HV.out]; rfl) | (rw [HV.out]; exact hw)), pw_below_drewN HB3.out.1 _⟩
       · have hne : (t0 != t1) = true := by simp; omega
         have hnl : ¬ t0 < t1 := by omega
         have HV := yk (show cmpZ y z = s0 by
          have q := top_lt (y := z) (z := y) (e := e) HNE.out.2 HNE.out.1 (by rw [HSV.out.2.2.1, HSV.out.2.2.2]; exact hgt)
          rw [HZS.out, show cmpN y.natAbs z.natAbs = 1 by unfold cmpN; rw [if_neg (by omega), if_pos q]]; omega)
         go_wp2
         go_ret
         exact ⟨ret_int (by rw [HV.out]), HB2.out.1⟩
  · have HV := yk (show cmpZ y z = 1 from cmpZ_gt (by rw [HSV.out.1, HSV.out.2.1]; exact hgt))
    have hnl : ¬ s0 < s1 := by omega
    go_wp2
    go_ret
    exact ⟨ret_int (by rw [HV.out]), HB1.out.1⟩
theorem len_shift {n k m : Nat} (h : (limbs n).length ≤ 268435456) (hk : k ≤ 17179869184) (hm : 536870913 ≤ m) : n * 2 ^ k < 2 ^ (64 * m) := by
 have q1 := nv_lt (wf_limbs n)
 rw [nv_limbs] at q1
 refine Nat.lt_of_lt_of_le (Nat.mul_lt_mul_of_pos_right q1 (Nat.two_pow_pos k)) ?_
 rw [← Nat.pow_add]
 exact pow_le2 (64 * (limbs n).length + k) (64 * m) (by omega)
theorem PL.cc {w : World} {b c : Nat} {A : Option Addr} {l : List Nat} (h : PL w b (.slice A l.length c) l) : kU.C w A l.length l ∧ l.length ≤ c := by
 obtain ⟨A', c', he, hc, hC⟩ := h.c
 injection he with h1 h2 h3
 subst h1 h3
 exact ⟨hC, hc⟩
theorem len_sum {a b m : Nat} (ha : a < 2 ^ (64 * m)) (hb : b < 2 ^ (64 * m)) : a + b < 2 ^ (64 * (m + 1)) := by
 rw [pw m]
 generalize 2 ^ (64 * m) = p at *
 omega

theorem padd_dy (u v : Value) (y z e : Int) (w : World) (h : CDy w u y e) (h' : CDy w v z e) (hl : (limbs (cman y)).length ≤ 268435456) (hl' : (limbs (cman z)).length ≤ 268435456) (le1 : -8589934592 ≤ cexp y e) (le2 : cexp y e ≤ 8589934592) (le1' : -8589934592 ≤ cexp z e) (le2' : cexp z e ≤ 8589934592) (hT : TabAt 0 Lib.deBruijn64tab w) :
 Calls Tryz.prog 71 #[u, v] w fun en w' => ∃ v', en = .returned v' ∧ PDy w' w.heap.size v' (y + z) e ∧ Below w.heap.size w w' := by
 have QO0 := yk (fun (m : World) (hm : Below w.heap.size w m) => pone_dy u y e m (h.below hm) (by omega) (by omega) (by omega) (tab_below hT hm))
 have QO1 := yk (fun (m : World) (hm : Below w.heap.size w m) => pone_dy v z e m (h'.below hm) (by omega) (by omega) (by omega) (tab_below hT hm))
 have QZ0 := yk (fun (v : Value) (m : World) (h : CDy m v y e) => pzero_dy v y e m h (by omega))
 have QZ1 := yk (fun (v : Value) (m : World) (h : CDy m v z e) => pzero_dy v z e m h (by omega))
 obtain ⟨E, hE⟩ : ∃ E, E = min (cexp y e) (cexp z e) := ⟨_, rfl⟩
 obtain ⟨k0, hk0⟩ : ∃ k : Nat, cexp y e - E = k := ⟨(cexp y e - E).toNat, by omega⟩
 obtain ⟨k1, hk1⟩ : ∃ k : Nat, cexp z e - E = k := ⟨(cexp z e - E).toNat, by omega⟩
 have hE1 : -8589934592 ≤ E := by omega
 have hE2 : E ≤ 8589934592 := by omega
 have QAM := yk (fun (u v : Value) (m : World) (h : CDy m u y e) (h' : CDy m v z e) => pamounts_dy u v y z e E k0 k1 m h h' hE hk0 hk1 (by omega) (by omega) (by omega) (by omega) (by omega) (by omega))
 obtain ⟨na, hna⟩ : ∃ x, x = cman y * 2 ^ k0 := ⟨_, rfl⟩
 obtain ⟨nb, hnb⟩ : ∃ x, x = cman z * 2 ^ k1 := ⟨_, rfl⟩
 obtain ⟨M, hM⟩ : ∃ M, M = 536870913 := ⟨_, rfl⟩
 have bna : na < 2 ^ (64 * M) := by rw [hna]; exact len_shift hl (by omega) (by omega)
 have bnb : nb < 2 ^ (64 * M) := by rw [hnb]; exact len_shift hl' (by omega) (by omega)
 have la1 : (limbs na).length ≤ 536870913 := by have := limbs_len_le bna; omega
 have lb1 : (limbs nb).length ≤ 536870913 := by have := limbs_len_le bnb; omega
 have ls1 : ∀ s, s ≤ na + nb → (limbs s).length ≤ 1073741824 := fun s hs => by have := limbs_len_le (Nat.lt_of_le_of_lt hs (len_sum bna bnb)); omega
 have HFM := yk (fun (hy : y ≠ 0) (hz : z ≠ 0) => (by
  have q := plus_form (y := y) (z := z) (e := e) (E := E) (ky := k0) (kz := k1) hy hz hk0 hk1 (by omega)
  rw [← hna, ← hnb] at q
  exact q : ∃ j : Nat, E = e + j ∧ y = sgn (cneg y) na * 2 ^ j ∧ z = sgn (cneg z) nb * 2 ^ j))
 have HNZ := yk (show y ≠ 0 → na ≠ 0 from fun hy h => by rw [hna] at h; exact hy (cman_eq_zero.1 ((Nat.mul_eq_zero.1 h).resolve_right (by have := Nat.two_pow_pos k0; omega))))
 have HNZ2 := yk (show z ≠ 0 → nb ≠ 0 from fun hy h => by rw [hnb] at h; exact hy (cman_eq_zero.1 ((Nat.mul_eq_zero.1 h).resolve_right (by have := Nat.two_pow_pos k1; omega))))
 obtain ⟨la, hla⟩ : ∃ x, x = limbs na := ⟨_, rfl⟩
 obtain ⟨lb, hlb⟩ : ∃ x, x = limbs nb := ⟨_, rfl⟩
 rw [← hna, ← hnb, ← hla, ← hlb] at QAM
 have wla : Wf la := by rw [hla]; exact wf_limbs _
 have wlb : Wf lb := by rw [hlb]; exact wf_limbs _
 have vla : nv la = na := by rw [hla, nv_limbs]
 have vlb : nv lb = nb := by rw [hlb, nv_limbs]
 have lla : la.length ≤ 536870913 := by rw [hla]; exact la1
 have llb : lb.length ≤ 536870913 := by rw [hlb]; exact lb1
 have QADD := yk (fun (A B : Option Addr) (c d : Nat) (m : World) (ha : kU.C m A la.length la) (hb : kU.C m B lb.length lb) (hc : la.length ≤ c) (hd : lb.length ≤ d) => (by
  have q := padd_any la lb A B la.length lb.length c d rfl rfl m ha hb hc hd wla wlb (by omega) (by omega)
  rw [vla, vlb] at q
  exact q : Calls Tryz.prog 97 #[.slice A la.length c, .slice B lb.length d] m fun e w' => ∃ v, e = .returned v ∧ PL w' m.heap.size v (limbs (na + nb)) ∧ Below m.heap.size m w'))
 have QS1 := yk (fun (hle : nb ≤ na) (hn0 : na ≠ 0) (A B : Option Addr) (c d : Nat) (m : World) (ha : kU.C m A la.length la) (hb : kU.C m B lb.length lb) (hc : la.length ≤ c) (hd : lb.length ≤ d) => (by
  have q := psub_any la lb A B la.length lb.length c d rfl rfl m ha hb hc hd wla wlb (by omega) (by omega) (by rw [hla]; refine List.length_pos_iff.2 (fun h => hn0 (limbs_eq_nil.1 h))) (by rw [vla, vlb]; exact hle)
  rw [vla, vlb] at q
  exact q : Calls Tryz.prog 98 #[.slice A la.length c, .slice B lb.length d] m fun e w' => ∃ v, e = .returned v ∧ PL w' m.heap.size v (limbs (na - nb)) ∧ Below m.heap.size m w'))
 have QS2 := yk (fun (hle : na ≤ nb) (hn0 : nb ≠ 0) (A B : Option Addr) (c d : Nat) (m : World) (ha : kU.C m A la.length la) (hb : kU.C m B lb.length lb) (hc : la.length ≤ c) (hd : lb.length ≤ d) => (by
  have q := psub_any lb la B A lb.length la.length d c rfl rfl m hb ha hd hc wlb wla (by omega) (by omega) (by rw [hlb]; refine List.length_pos_iff.2 (fun h => hn0 (limbs_eq_nil.1 h))) (by rw [vla, vlb]; exact hle)
  rw [vla, vlb] at q
  exact q : Calls Tryz.prog 98 #[.slice B lb.length d, .slice A la.length c] m fun e w' => ∃ v, e = .returned v ∧ PL w' m.heap.size v (limbs (nb - na)) ∧ Below m.heap.size m w'))
 have QC := yk (fun (A B : Option Addr) (c d : Nat) (m : World) (ha : kU.C m A la.length la) (hb : kU.C m B lb.length lb) (hc : la.length ≤ c) (hd : lb.length ≤ d) => (by
  have q := pcmp_any la lb A B la.length lb.length c d rfl rfl m ha hb hc hd wla wlb (by omega) (by omega)
  rw [vla, vlb] at q
  exact q : Calls Tryz.prog 88 #[.slice A la.length c, .slice B lb.length d] m fun e w' => e = .returned (.int .i64 (cmpN na nb)) ∧ ∃ n, w' = m.drewN n))
 have QF := yk (fun (b : Bool) (s : Nat) (hs : s ≤ na + nb) (hval : ∃ j : Nat, E = e + j ∧ y + z = sgn b s * 2 ^ j) (A3 : Option Addr) (c3 : Nat) (m : World) (hm : Below w.heap.size w m) (hC3 : kU.C m A3 (limbs s).length (limbs s)) (hc3 : (limbs s).length ≤ c3) => (by
  have q := pform_any b (limbs s) A3 _ c3 E rfl m hC3 hc3 (wf_limbs _) (ls1 s hs) (by omega) (by omega) (tab_below hT hm)
  rw [nv_limbs] at q
  refine q.mono ?_
  rintro en w' ⟨v', rfl, hr, hb⟩
  obtain ⟨j, hj1, hj2⟩ := hval
  rw [hj1] at hr
  have := PDy.scale j hr
  rw [← hj2] at this
  exact ⟨v', rfl, this, hb⟩ : Calls Tryz.prog 30 #[.bool b, .slice A3 (limbs s).length c3, .int .i64 E] m fun en w' => ∃ v', en = .returned v' ∧ PDy w' m.heap.size v' (y + z) e ∧ Below m.heap.size m w'))
 obtain ⟨A, n, c, rfl, hC, hn, hc⟩ := h
 obtain ⟨A', n', c', rfl, hC', hn', hc'⟩ := h'
 obtain ⟨x0, hx0⟩ : ∃ x, x = cexp y e := ⟨_, rfl⟩
 obtain ⟨x1, hx1⟩ : ∃ x, x = cexp z e := ⟨_, rfl⟩
 obtain ⟨b0, hb0⟩ : ∃ x, x = cneg y := ⟨_, rfl⟩
 obtain ⟨b1, hb1⟩ : ∃ x, x = cneg z := ⟨_, rfl⟩
 have HXZ := yk (ya hb0.symm (ya hx0.symm (ya hb1.symm hx1.symm)))
 rw [← hx0, ← hb0] at QO0
 rw [← hx1, ← hb1] at QO1
 rw [← hx0, ← hb0, ← hx1, ← hb1]
 clear hC hC' hx0 hx1 hb0 hb1 hT hE hk0 hk1 hna hnb hla hlb la1 lb1 le1 le2 le1' le2' hl hl' wla wlb vla vlb lla llb bna bnb ls1 hM hE1 hE2
 obtain ⟨W0, hW0⟩ : ∃ W0, W0 = ((w.alloc (.cells #[.bool b0, .slice A n c, .int .i64 x0] 27)).alloc (.cells #[.bool b1, .slice A' n' c', .int .i64 x1] 27)).alloc (.cells #[.bool false, .slice none 0 0, .int .i64 0] 27) := ⟨_, rfl⟩
 have hh0 : Aside0 (W0.heap[w.heap.size]? = some (.cells #[.bool b0, .slice A n c, .int .i64 x0] 27 (0, 0))) := ⟨by rw [hW0]; exact blk_alloc (blk_alloc (blk_new _ _) _) _⟩
 have hh1 : Aside0 (W0.heap[w.heap.size + 1]? = some (.cells #[.bool b1, .slice A' n' c', .int .i64 x1] 27 (0, 0))) := ⟨by rw [hW0]; have := blk_new (w.alloc (.cells #[.bool b0, .slice A n c, .int .i64 x0] 27)) (.cells #[.bool b1, .slice A' n' c', .int .i64 x1] 27); rw [size_alloc'] at this; exact blk_alloc this _⟩
 have hh2 : Aside0 (W0.heap[w.heap.size + 2]? = some (.cells #[.bool false, .slice none 0 0, .int .i64 0] 27 (0, 0))) := ⟨by rw [hW0]; have := blk_new ((w.alloc (.cells #[.bool b0, .slice A n c, .int .i64 x0] 27)).alloc (.cells #[.bool b1, .slice A' n' c', .int .i64 x1] 27)) (.cells #[.bool false, .slice none 0 0, .int .i64 0] 27); rw [size_alloc', size_alloc'] at this; exact this⟩
 have HW : Aside0 (Below w.heap.size w W0 ∧ w.heap.size + 3 ≤ W0.heap.size) := ⟨by rw [hW0]; exact ⟨below_alloc (below_alloc (below_alloc yr _) _) _, by rw [size_alloc', size_alloc', size_alloc']; exact Nat.le_refl _⟩⟩
 go_enter Tryz.func71, Tryz.ntmps71
 go_upto_region 1 with fail
 rw [← hW0]
 clear hW0
 obtain ⟨JO, hJO⟩ : ∃ J : (Nat → Prop) → World → Prop, J = fun L0 W => (Below w.heap.size w W ∧ w.heap.size + 3 ≤ W.heap.size) ∧ W.heap[w.heap.size + 2]? = some (.cells #[.bool false, .slice none 0 0, .int .i64 0] 27 (0, 0)) ∧ (¬ L0 4 → W.heap[w.heap.size]? = some (.cells #[.bool b0, .slice A n c, .int .i64 x0] 27 (0, 0))) ∧ (L0 4 → ∃ A2 n2 c2, W.heap[w.heap.size]? = some (.cells #[.bool b0, .slice A2 n2 c2, .int .i64 x0] 27 (0, 0)) ∧ PL W (w.heap.size + 3) (.slice A2 n2 c2) (limbs (cman y))) ∧ (¬ L0 5 → W.heap[w.heap.size + 1]? = some (.cells #[.bool b1, .slice A' n' c', .int .i64 x1] 27 (0, 0))) ∧ (L0 5 → ∃ A3 n3 c3, W.heap[w.heap.size + 1]? = some (.cells #[.bool b1, .slice A3 n3 c3, .int .i64 x1] 27 (0, 0)) ∧ PL W (w.heap.size + 3) (.slice A3 n3 c3) (limbs (cman z))) := ⟨_, rfl⟩
 refine wp_region_slotsL [8, 9, 10, 11] (by kernel_rfl) (by kernel_rfl)
  (F := fun j q W => match j with | 0 => q = .agg #[.bool b0, .slice A n c, .int .i64 x0] | 1 => PDy W (w.heap.size + 3) q y e | 2 => q = .agg #[.bool b1, .slice A' n' c', .int .i64 x1] | 3 => PDy W (w.heap.size + 3) q z e | _ => True)
  (J := JO) ?h0O ?hstepO ?hendO
 case h0O =>
  rw [hJO]
  have hd := below_drew (Below.refl W0.heap.size W0)
  exact ⟨⟨below_drew HW.out.1, HW.out.2⟩, yb hh2.out hd, fun _ => yb hh0.out hd, fun h => h.elim, fun _ => yb hh1.out hd, fun h => h.elim⟩
 case hstepO =>
  intro k o ho v W L0 hJW hF hnk haft hcl K hK
  rw [hJO] at hJW
  obtain ⟨hBW, hb2, ho4, hn4, ho5, hn5⟩ := hJW
  have HJM := yk (show ∀ (k : Nat) (w4 : World), k ≠ 4 → k ≠ 5 → Below W.heap.size W w4 → JO (fun j => L0 j ∨ j = k) w4 from by
   intro k w4 hk4 hk5 hb
   rw [hJO]
   refine ⟨⟨below_then hBW.1 hBW.1.size hb, Nat.le_trans hBW.2 hb.size⟩, yb hb2 hb, fun h => yb (ho4 (fun h2 => h (.inl h2))) hb, fun h => ?_, fun h => yb (ho5 (fun h2 => h (.inl h2))) hb, fun h => ?_⟩
   · obtain ⟨A2, n2, c2, y1, y2⟩ := hn4 (h.resolve_right (fun e => hk4 e.symm))
     exact ⟨A2, n2, c2, yb y1 hb, y2.below hb⟩
   · obtain ⟨A2, n2, c2, y1, y2⟩ := hn5 (h.resolve_right (fun e => hk5 e.symm))
     exact ⟨A2, n2, c2, yb y1 hb, y2.below hb⟩)
  have HCL := yk hcl
  have HO4 := yk ho4
  have HO5 := yk ho5
  have HN4 := yk hn4
  have HN5 := yk hn5
  clear hcl ho4 ho5 hn4 hn5
  rcases k with _ | _ | _ | _ | _ | _ | k
  all_goals first
   | (cases ho; done)
   | (obtain rfl := (Option.some.inj ho).symm
      clear ho
      rw [if_pos (by rfl)]
      simp only [setAll, List.setIfInBounds_toArray, List.set_cons_zero, List.set_cons_succ, List.getElem_toArray, List.getElem_cons_zero, List.getElem_cons_succ, Nat.reduceAdd] at haft hF hK ⊢)
  ·
   have h4 : ¬ L0 4 := fun h => hnk (HCL.out 4 _ rfl h ⟨0, .phase⟩ (by simp) rfl)
   have hh := HO4.out h4
   have cc0 := (box_cell (v := .bool b0) hh 0 rfl).1
   have cc1 := (box_cell (v := .slice A n c) hh 1 rfl).1
   have cc2 := (box_cell (v := .int .i64 x0) hh 2 rfl).1
   have key := hK.out (.agg #[.bool b0, .slice A n c, .int .i64 x0]) W (HJM.out 0 W (by decide) (by decide) yr) (fun _ _ h => h) rfl
   go_simp
   simpa [upd] using key
  ·
   have f0 : v 0 = .agg #[.bool b0, .slice A n c, .int .i64 x0] := hF 0 (haft ⟨0, .data⟩ (by simp) rfl)
   go_simp
   go_at_call 87
   refine (QO0.out W hBW.1).mono ?_
   rintro en w4 ⟨v1, rfl, hr, hb⟩
   have key := hK.out v1 w4 (HJM.out 1 w4 (by decide) (by decide) hb) ?monoO1 (hr.lower hBW.2)
   · simpa [upd, f0] using key
   intro j hj hf
   rcases j with _ | _ | _ | _ | _ | _ | j <;> first | exact hf | exact PDy.below hf hb
  ·
   have h5 : ¬ L0 5 := fun h => hnk (HCL.out 5 _ rfl h ⟨2, .phase⟩ (by simp) rfl)
   have hh := HO5.out h5
   have cc0 := (box_cell (v := .bool b1) hh 0 rfl).1
   have cc1 := (box_cell (v := .slice A' n' c') hh 1 rfl).1
   have cc2 := (box_cell (v := .int .i64 x1) hh 2 rfl).1
   have key := hK.out (.agg #[.bool b1, .slice A' n' c', .int .i64 x1]) W (HJM.out 2 W (by decide) (by decide) yr) (fun _ _ h => h) rfl
   go_simp
   simpa [upd] using key
  ·
   have f2 : v 2 = .agg #[.bool b1, .slice A' n' c', .int .i64 x1] := hF 2 (haft ⟨2, .data⟩ (by simp) rfl)
   go_simp
   go_at_call 87
   refine (QO1.out W hBW.1).mono ?_
   rintro en w4 ⟨v1, rfl, hr, hb⟩
   have key := hK.out v1 w4 (HJM.out 3 w4 (by decide) (by decide) hb) ?monoO3 (hr.lower hBW.2)
   · simpa [upd, f2] using key
   intro j hj hf
   rcases j with _ | _ | _ | _ | _ | _ | j <;> first | exact hf | exact PDy.below hf hb
  ·
   have fz : PDy W (w.heap.size + 3) (v 1) y e := hF 1 (haft ⟨1, .data⟩ (by simp) rfl)
   obtain ⟨A9, n9, c9, fz2, _⟩ := id fz
   have hxz := HXZ.out
   rw [hxz.1, hxz.2.1] at fz2
   refine wp_store_box 27 2 (.tmp 9) rfl rfl (g := w.heap.size) (e := 27) (v 1) [.bool b0, .slice A9 n9 c9, .int .i64 x0] rfl rfl (by rw [fz2]; rfl) info_dyad ?_ (HO4.out hnk) rfl ?_
   · intro q hq; simp at hq; rcases hq with rfl | rfl | rfl <;> rfl
   · intro w1 hw1 hg1
     have hn9 := fz.grown hg1 (by omega)
     obtain ⟨A4, n4, c4, fz4, hr4⟩ := hn9
     rw [hxz.1, hxz.2.1, fz2] at fz4
     injection fz4 with fz4
     simp at fz4
     obtain ⟨rfl, rfl, rfl⟩ := fz4
     have key := hK.out undef w1 (by rw [hJO]; exact ⟨⟨hBW.1.grown hg1 hBW.1.size (fun k hk => by have := Option.some.inj hk; omega), Nat.le_trans hBW.2 hg1.size⟩, (hg1.block _ (blk_lt hb2) (fun he => by have := Option.some.inj he; omega)).trans hb2, fun h => (h (by simp)).elim, fun _ => ⟨_, _, _, hw1, hr4⟩, fun h => (hg1.block _ (blk_lt (HO5.out (fun h2 => h (.inl h2)))) (fun he => by have := Option.some.inj he; omega)).trans (HO5.out (fun h2 => h (.inl h2))), fun h => (by obtain ⟨Ax, nx, cx, y1, y2⟩ := HN5.out (yx h); exact ⟨Ax, nx, cx, (hg1.block _ (blk_lt y1) (fun he => by have := Option.some.inj he; omega)).trans y1, y2.grown hg1 (by omega)⟩)⟩) ?mstO4 trivial
     · simpa [upd] using key
     intro j hj hf
     rcases j with _ | _ | _ | _ | _ | _ | j <;> first | exact hf | exact PDy.grown hf hg1 (by omega)
  ·
   have fz : PDy W (w.heap.size + 3) (v 3) z e := hF 3 (haft ⟨3, .data⟩ (by simp) rfl)
   obtain ⟨A9, n9, c9, fz2, _⟩ := id fz
   have hxz := HXZ.out
   rw [hxz.2.2.1, hxz.2.2.2] at fz2
   refine wp_store_box 27 3 (.tmp 11) rfl rfl (g := w.heap.size + 1) (e := 27) (v 3) [.bool b1, .slice A9 n9 c9, .int .i64 x1] rfl rfl (by rw [fz2]; rfl) info_dyad ?_ (HO5.out hnk) rfl ?_
   · intro q hq; simp at hq; rcases hq with rfl | rfl | rfl <;> rfl
   · intro w1 hw1 hg1
     have hn9 := fz.grown hg1 (by omega)
     obtain ⟨A4, n4, c4, fz4, hr4⟩ := hn9
     rw [hxz.2.2.1, hxz.2.2.2, fz2] at fz4
     injection fz4 with fz4
     simp at fz4
     obtain ⟨rfl, rfl, rfl⟩ := fz4
     have key := hK.out undef w1 (by rw [hJO]; exact ⟨⟨hBW.1.grown hg1 hBW.1.size (fun k hk => by have := Option.some.inj hk; omega), Nat.le_trans hBW.2 hg1.size⟩, (hg1.block _ (blk_lt hb2) (fun he => by have := Option.some.inj he; omega)).trans hb2, fun h => (hg1.block _ (blk_lt (HO4.out (fun h2 => h (.inl h2)))) (fun he => by have := Option.some.inj he; omega)).trans (HO4.out (fun h2 => h (.inl h2))), fun h => (by obtain ⟨Ax, nx, cx, y1, y2⟩ := HN4.out (yx h); exact ⟨Ax, nx, cx, (hg1.block _ (blk_lt y1) (fun he => by have := Option.some.inj he; omega)).trans y1, y2.grown hg1 (by omega)⟩), fun h => (h (by simp)).elim, fun _ => ⟨_, _, _, hw1, hr4⟩⟩) ?mstO5 trivial
     · simpa [upd] using key
     intro j hj hf
     rcases j with _ | _ | _ | _ | _ | _ | j <;> first | exact hf | exact PDy.grown hf hg1 (by omega)
 case hendO =>
  intro v1 W1 L1 hall hJW hF
  rw [hJO] at hJW
  obtain ⟨hB1, hbx2, _, hn4, _, hn5⟩ := hJW
  obtain ⟨A2, n2, c2, hbx0, hP0⟩ := hn4 (hall 4 (by decide))
  obtain ⟨A3, n3, c3, hbx1, hP1⟩ := hn5 (hall 5 (by decide))
  have HB1 := yk hB1
  have HX0 := yk hbx0
  have HX1 := yk hbx1
  have HX2 := yk hbx2
  have HD0 := yk (show PDy W1 (w.heap.size + 3) (.agg #[.bool b0, .slice A2 n2 c2, .int .i64 x0]) y e from ⟨A2, n2, c2, by rw [HXZ.out.1, HXZ.out.2.1], hP0⟩)
  have HD1 := yk (show PDy W1 (w.heap.size + 3) (.agg #[.bool b1, .slice A3 n3 c3, .int .i64 x1]) z e from ⟨A3, n3, c3, by rw [HXZ.out.2.2.1, HXZ.out.2.2.2], hP1⟩)
  obtain ⟨q00, _⟩ := box_cell (v := .bool b0) hbx0 0 rfl
  obtain ⟨q01, _⟩ := box_cell (v := .slice A2 n2 c2) hbx0 1 rfl
  obtain ⟨q02, _⟩ := box_cell (v := .int .i64 x0) hbx0 2 rfl
  obtain ⟨q10, _⟩ := box_cell (v := .bool b1) hbx1 0 rfl
  obtain ⟨q11, _⟩ := box_cell (v := .slice A3 n3 c3) hbx1 1 rfl
  obtain ⟨q12, _⟩ := box_cell (v := .int .i64 x1) hbx1 2 rfl
  clear hF hall hB1 hJO hn4 hn5 hbx0 hbx1 hbx2 hP0 hP1
  simp only [setAll, List.setIfInBounds_toArray, List.set_cons_zero, List.set_cons_succ, Nat.reduceAdd]
  have ZERO0 := yk (QZ0.out _ W1 HD0.out.c)
  by_cases hy : y = 0
  · rw [decide_eq_true hy] at ZERO0
    go_upto_region 3 with (go_at_call 27; refine ZERO0.out.mono ?_; rintro e2 W2 ⟨rfl, hb⟩; have r10 := (box_cell (v := .bool b1) (yb HX1.out hb) 0 rfl).1; have r11 := (box_cell (v := .slice A3 n3 c3) (yb HX1.out hb) 1 rfl).1; have r12 := (box_cell (v := .int .i64 x1) (yb HX1.out hb) 2 rfl).1; have HB2 := yk hb; clear hb)
    have HR2 := yk (yb HX2.out HB2.out)
    go_wp2_with ((with_reducible refine gate_store (p := 4) rfl ?_); go_must (refine sdy 4 (.tmp 15) rfl rfl rfl rfl rfl HR2.out rfl ?_; intro wb HX HG))
    refine bodyPost_ret (results_dyad rfl _ _ (w.heap.size + 1 + 1) _ rfl HX.out rfl) rfl ?_
    have hb2 := below_then HB1.out.1 HB1.out.1.size HB2.out
    refine ⟨_, rfl, ?_, hb2.grown HG.out hb2.size (fun k hk => by cases hk; omega)⟩
    rw [hy, Int.zero_add]
    exact ((HD1.out.below HB2.out).grown HG.out (by omega)).lower (by omega)
  rw [decide_eq_false hy] at ZERO0
  go_upto_region 4 with (go_at_call 27; refine ZERO0.out.mono ?_; rintro e2 W2 ⟨rfl, hb⟩; have r10 := (box_cell (v := .bool b1) (yb HX1.out hb) 0 rfl).1; have r11 := (box_cell (v := .slice A3 n3 c3) (yb HX1.out hb) 1 rfl).1; have r12 := (box_cell (v := .int .i64 x1) (yb HX1.out hb) 2 rfl).1; have HB2 := yk hb; clear hb)
  have ZERO1 := yk (QZ1.out _ W2 (HD1.out.below HB2.out).c)
  by_cases hz : z = 0
  · rw [decide_eq_true hz] at ZERO1
    go_upto_region 5 with (go_at_call 27; refine ZERO1.out.mono ?_; rintro e3 W3 ⟨rfl, hb⟩; have HB3 := yk (below_then HB2.out HB2.out.size hb); clear hb)
    have s00 := (box_cell (v := .bool b0) (yb HX0.out HB3.out) 0 rfl).1
    have s01 := (box_cell (v := .slice A2 n2 c2) (yb HX0.out HB3.out) 1 rfl).1
    have s02 := (box_cell (v := .int .i64 x0) (yb HX0.out HB3.out) 2 rfl).1
    have HR3 := yk (yb HX2.out HB3.out)
    go_wp2_with ((with_reducible refine gate_store (p := 4) rfl ?_); go_must (refine sdy 4 (.tmp 19) rfl rfl rfl rfl rfl HR3.out rfl ?_; intro wb HX HG))
    refine bodyPost_ret (results_dyad rfl _ _ (w.heap.size + 1 + 1) _ rfl HX.out rfl) rfl ?_
    have hb2 := below_then HB1.out.1 HB1.out.1.size HB3.out
    refine ⟨_, rfl, ?_, hb2.grown HG.out hb2.size (fun k hk => by cases hk; omega)⟩
    rw [hz, Int.add_zero]
    exact ((HD0.out.below HB3.out).grown HG.out (by omega)).lower (by omega)
  rw [decide_eq_false hz] at ZERO1
  go_upto_region 6 with (go_at_call 27; refine ZERO1.out.mono ?_; rintro e3 W3 ⟨rfl, hb⟩; have HB3 := yk (below_then HB2.out HB2.out.size hb); clear hb)
  have s00 := (box_cell (v := .bool b0) (yb HX0.out HB3.out) 0 rfl).1
  have s01 := (box_cell (v := .slice A2 n2 c2) (yb HX0.out HB3.out) 1 rfl).1
  have s02 := (box_cell (v := .int .i64 x0) (yb HX0.out HB3.out) 2 rfl).1
  have s10 := (box_cell (v := .bool b1) (yb HX1.out HB3.out) 0 rfl).1
  have s11 := (box_cell (v := .slice A3 n3 c3) (yb HX1.out HB3.out) 1 rfl).1
  have s12 := (box_cell (v := .int .i64 x1) (yb HX1.out HB3.out) 2 rfl).1
  go_upto_region 7 with (go_at_call 86; refine (QAM.out _ _ _ (HD0.out.below HB3.out).c (HD1.out.below HB3.out).c).mono ?_; rintro e4 W4 ⟨p, q, rfl, g1, g2, hb⟩; obtain ⟨Pa, ca, rfl, _, _⟩ := g1.c; obtain ⟨Pb, cb, rfl, _, _⟩ := g2.c; have HB34 := yk hb; have HG1 := yk g1; have HG2 := yk g2; clear hb g1 g2)
  have hsz3 : w.heap.size + 3 ≤ W3.heap.size := Nat.le_trans HB1.out.2 HB3.out.size
  have HPA := yk (HG1.out.lower hsz3)
  have HPB := yk (HG2.out.lower hsz3)
  have HB14 := yk (below_then HB3.out HB3.out.size HB34.out)
  have HB4 := yk (show Below w.heap.size w W4 ∧ w.heap.size + 3 ≤ W4.heap.size from ⟨below_then HB1.out.1 HB1.out.1.size HB14.out, Nat.le_trans hsz3 HB34.out.size⟩)
  have HY0 := yk (yb HX0.out HB14.out)
  have HY1 := yk (yb HX1.out HB14.out)
  have HY2 := yk (yb HX2.out HB14.out)
  have t00 := (box_cell (v := .bool b0) HY0.out 0 rfl).1
  have t10 := (box_cell (v := .bool b1) HY1.out 0 rfl).1
  obtain ⟨j, hjE, hyv, hzv⟩ := HFM.out hy hz
  have HYV := yk hyv
  have HZV := yk hzv
  have HJE := yk hjE
  have hna0 := yk (HNZ.out hy)
  have hnb0 := yk (HNZ2.out hz)
  have HYNE := yk hy
  clear hyv hzv hjE hy hz hsz3
  by_cases hs : b0 = b1
  · have hse : (b0 == b1) = true := by simp [hs]
    have HVAL := yk (show ∃ j : Nat, E = e + j ∧ y + z = sgn b0 (na + nb) * 2 ^ j from ⟨j, HJE.out, by
     rw [sgn_add, Int.add_mul]
     have q1 := HYV.out
     have q2 := HZV.out
     rw [HXZ.out.1] at q1
     rw [HXZ.out.2.2.1, ← hs] at q2
     rw [← q1, ← q2]⟩)
    clear hs
    go_upto_region 8 with fail
    obtain ⟨JX, hJX⟩ : ∃ J : (Nat → Prop) → World → Prop, J = fun L0 W => (Below w.heap.size w W ∧ w.heap.size + 3 ≤ W.heap.size) ∧ W.heap[w.heap.size]? = some (.cells #[.bool b0, .slice A2 n2 c2, .int .i64 x0] 27 (0, 0)) ∧ W.heap[w.heap.size + 1]? = some (.cells #[.bool b1, .slice A3 n3 c3, .int .i64 x1] 27 (0, 0)) ∧ PL W (w.heap.size + 3) (.slice Pa la.length ca) la ∧ PL W (w.heap.size + 3) (.slice Pb lb.length cb) lb ∧ (¬ L0 7 → W.heap[w.heap.size + 2]? = some (.cells #[.bool false, .slice none 0 0, .int .i64 0] 27 (0, 0))) ∧ (L0 7 → ∃ A2 n2 c2, W.heap[w.heap.size + 2]? = some (.cells #[.bool (cneg (y + z)), .slice A2 n2 c2, .int .i64 (cexp (y + z) (e))] 27 (0, 0)) ∧ PL W (w.heap.size + 3) (.slice A2 n2 c2) (limbs (cman (y + z)))) := ⟨_, rfl⟩
    refine wp_region_slotsL [32, 33, 34, 35, 36, 37, 38] (by kernel_rfl) (by kernel_rfl)
     (F := fun j q W => match j with | 0 => q = .pointer (some ⟨w.heap.size, 0, none⟩) | 1 => q = .bool b0 | 2 => q = .slice Pa la.length ca | 3 => q = .slice Pb lb.length cb | 4 => PL W (w.heap.size + 3) q (limbs (na + nb)) | 5 => q = .int .i64 E | 6 => PDy W (w.heap.size + 3) q (y + z) e | 7 => True | _ => True)
     (J := JX) ?h0X ?hstepX ?hendX
    case h0X =>
     rw [hJX]
     have hd := below_drew (Below.refl W4.heap.size W4)
     exact ⟨⟨below_then HB4.out.1 HB4.out.1.size hd, Nat.le_trans HB4.out.2 hd.size⟩, yb HY0.out hd, yb HY1.out hd, HPA.out.below hd, HPB.out.below hd, fun _ => yb HY2.out hd, fun h => h.elim⟩
    case hstepX =>
     intro k o ho v W L0 hJW hF hnk haft hcl K hK
     rw [hJX] at hJW
     obtain ⟨hBW, hb0, hb1, hx0, hx1, hold, hnew⟩ := hJW
     have hJM : ∀ (k : Nat) (w4 : World), k ≠ 7 → Below W.heap.size W w4 → JX (fun j => L0 j ∨ j = k) w4 := by
      intro k w4 hkK hb
      rw [hJX]
      refine ⟨⟨below_then hBW.1 hBW.1.size hb, Nat.le_trans hBW.2 hb.size⟩, yb hb0 hb, yb hb1 hb, hx0.below hb, hx1.below hb, fun h => yb (hold (fun h2 => h (.inl h2))) hb, fun h => ?_⟩
      obtain ⟨A2, n2, c2, y1, y2⟩ := hnew (h.resolve_right (fun e => hkK e.symm))
      exact ⟨A2, n2, c2, yb y1 hb, y2.below hb⟩
     have HJM := yk hJM
     have HOLD := yk hold
     clear hold hnew
     clear hJM hcl
     rcases k with _ | _ | _ | _ | _ | _ | _ | _ | k
     all_goals first
      | (cases ho; done)
      | (obtain rfl := (Option.some.inj ho).symm
         clear ho
         rw [if_pos (by rfl)]
         simp only [setAll, List.setIfInBounds_toArray, List.set_cons_zero, List.set_cons_succ, List.getElem_toArray, List.getElem_cons_zero, List.getElem_cons_succ, Nat.reduceAdd] at haft hF hK ⊢)
     ·
      have key := hK.out (.pointer (some ⟨w.heap.size, 0, none⟩)) W (HJM.out 0 W (by decide) yr) (fun _ _ h => h) rfl
      go_simp
      simpa [upd] using key
     ·
      have f0 : v 0 = .pointer (some ⟨w.heap.size, 0, none⟩) := hF 0 (haft ⟨0, .data⟩ (by simp) rfl)
      have cc := (box_cell (v := .bool b0) hb0 0 rfl).1
      have key := hK.out (.bool b0) W (HJM.out 1 W (by decide) yr) (fun _ _ h => h) rfl
      go_simp
      simpa [upd, f0] using key
     ·
      have key := hK.out (.slice Pa la.length ca) W (HJM.out 2 W (by decide) yr) (fun _ _ h => h) rfl
      go_simp
      simpa [upd] using key
     ·
      have key := hK.out (.slice Pb lb.length cb) W (HJM.out 3 W (by decide) yr) (fun _ _ h => h) rfl
      go_simp
      simpa [upd] using key
     ·
      have f2 : v 2 = .slice Pa la.length ca := hF 2 (haft ⟨2, .data⟩ (by simp) rfl)
      have f3 : v 3 = .slice Pb lb.length cb := hF 3 (haft ⟨3, .data⟩ (by simp) rfl)
      go_simp
      go_at_call 97
      refine (QADD.out Pa Pb ca cb W hx0.cc.1 hx1.cc.1 hx0.cc.2 hx1.cc.2).mono ?_
      rintro en w4 ⟨v1, rfl, hr, hb⟩
      have key := hK.out (v1) w4 (HJM.out 4 w4 (by decide) hb) ?monoX_4 (hr.lower hBW.2)
      · simpa [upd, f2, f3] using key
      intro j hj hf
      rcases j with _ | _ | _ | _ | _ | _ | _ | _ | j <;> first | exact hf | exact PDy.below hf hb | exact PL.below hf hb | exact Two.below hf hb | exact RDy.below hf hb
     ·
      have key := hK.out (.int .i64 E) W (HJM.out 5 W (by decide) yr) (fun _ _ h => h) rfl
      go_simp
      simpa [upd] using key
     ·
      have f1 : v 1 = .bool b0 := hF 1 (haft ⟨1, .data⟩ (by simp) rfl)
      have f4 : PL W (w.heap.size + 3) (v 4) (limbs (na + nb)) := hF 4 (haft ⟨4, .data⟩ (by simp) rfl)
      have f5 : v 5 = .int .i64 E := hF 5 (haft ⟨5, .data⟩ (by simp) rfl)
      obtain ⟨A8, c8, f4v, hc8, hC8⟩ := f4.c
      have hm := QF.out b0 (na + nb) (Nat.le_refl _) HVAL.out A8 c8 W hBW.1 hC8 hc8
      go_simp
      go_at_call 30
      refine hm.mono ?_
      rintro en w4 ⟨v1, rfl, hr, hb⟩
      have key := hK.out (v1) w4 (HJM.out 6 w4 (by decide) hb) ?monoX_6 (hr.lower hBW.2)
      · simpa [upd, f1, f5, f4v] using key
      intro j hj hf
      rcases j with _ | _ | _ | _ | _ | _ | _ | _ | j <;> first | exact hf | exact PDy.below hf hb | exact PL.below hf hb | exact Two.below hf hb | exact RDy.below hf hb
     ·
      have fz : PDy W (w.heap.size + 3) (v 6) (y + z) (e) := hF 6 (haft ⟨6, .data⟩ (by simp) rfl)
      obtain ⟨A3, n3, c3, fz2, _⟩ := id fz
      refine wp_store_box 27 4 (.tmp 38) rfl rfl (g := w.heap.size + 2) (e := 27) (v 6) [.bool (cneg (y + z)), .slice A3 n3 c3, .int .i64 (cexp (y + z) (e))] rfl rfl (by rw [fz2]; rfl) info_dyad ?_ (HOLD.out hnk) rfl ?_
      · intro q hq; simp at hq; rcases hq with rfl | rfl | rfl <;> rfl
      · intro w1 hw1 hg1
        have hn2 := fz.grown hg1 (by omega)
        obtain ⟨A4, n4, c4, fz4, hr4⟩ := hn2
        rw [fz2] at fz4
        injection fz4 with fz4
        simp at fz4
        obtain ⟨rfl, rfl, rfl⟩ := fz4
        have key := hK.out undef w1 (by rw [hJX]; exact ⟨⟨hBW.1.grown hg1 hBW.1.size (fun k hk => by have := Option.some.inj hk; omega), Nat.le_trans hBW.2 hg1.size⟩, (hg1.block _ (blk_lt hb0) (fun he => by have := Option.some.inj he; omega)).trans hb0, (hg1.block _ (blk_lt hb1) (fun he => by have := Option.some.inj he; omega)).trans hb1, hx0.grown hg1 (by omega), hx1.grown hg1 (by omega), fun h => (h (by simp)).elim, fun _ => ⟨_, _, _, hw1, hr4⟩⟩) ?mstX trivial
        · simpa [upd] using key
        intro j hj hf
        rcases j with _ | _ | _ | _ | _ | _ | _ | _ | j <;> first | exact hf | exact PDy.grown hf hg1 (by omega) | exact PL.grown hf hg1 (by omega)
    case hendX =>
     intro v W L0 hall hJW hF
     rw [hJX] at hJW
     obtain ⟨hBW, _, _, _, _, _, hnew⟩ := hJW
     obtain ⟨A7, n7, c7, p1, p2⟩ := hnew (hall 7 (by decide))
     have P1 := yk p1
     have P2 := yk (p2.lower (b' := w.heap.size) (by omega))
     have BF := yk hBW.1
     clear hF hall hnew p1 p2 hBW
     simp only [setAll, List.setIfInBounds_toArray, List.set_cons_zero, List.set_cons_succ, Nat.reduceAdd]
     go_wp2
     refine bodyPost_ret (results_dyad rfl _ _ (w.heap.size + 1 + 1) _ rfl P1.out rfl) rfl ?_
     exact ⟨_, rfl, ⟨A7, n7, c7, rfl, P2.out⟩, BF.out⟩
  · have hse : (b0 == b1) = false := by simpa using hs
    go_upto_region 9 with fail
    have HCC := yk (QC.out Pa Pb ca cb W4 HPA.out.cc.1 HPB.out.cc.1 HPA.out.cc.2 HPB.out.cc.2)
    by_cases hle : nb ≤ na
    · have hge : decide ((0 : Int) ≤ cmpN na nb) = true := decide_eq_true (by unfold cmpN; rw [if_neg (by omega)]; split <;> decide)
      have HVAL := yk (show ∃ j : Nat, E = e + j ∧ y + z = sgn b0 (na - nb) * 2 ^ j from ⟨j, HJE.out, by
       rw [sgn_sub hs hle, Int.add_mul]
       have q1 := HYV.out
       have q2 := HZV.out
       rw [HXZ.out.1] at q1
       rw [HXZ.out.2.2.1] at q2
       rw [← q1, ← q2]⟩)
      obtain ⟨cc, hcc⟩ : ∃ c, c = cmpN na nb := ⟨_, rfl⟩
      rw [← hcc] at hge HCC
      have HLE := yk hle
      clear hs hle hcc
      go_upto_region 10 with (go_at_call 88; refine HCC.out.mono ?_; rintro e5 w5 ⟨rfl, n5, rfl⟩)
      obtain ⟨JY, hJY⟩ : ∃ J : (Nat → Prop) → World → Prop, J = fun L0 W => (Below w.heap.size w W ∧ w.heap.size + 3 ≤ W.heap.size) ∧ W.heap[w.heap.size]? = some (.cells #[.bool b0, .slice A2 n2 c2, .int .i64 x0] 27 (0, 0)) ∧ W.heap[w.heap.size + 1]? = some (.cells #[.bool b1, .slice A3 n3 c3, .int .i64 x1] 27 (0, 0)) ∧ PL W (w.heap.size + 3) (.slice Pa la.length ca) la ∧ PL W (w.heap.size + 3) (.slice Pb lb.length cb) lb ∧ (¬ L0 7 → W.heap[w.heap.size + 2]? = some (.cells #[.bool false, .slice none 0 0, .int .i64 0] 27 (0, 0))) ∧ (L0 7 → ∃ A2 n2 c2, W.heap[w.heap.size + 2]? = some (.cells #[.bool (cneg (y + z)), .slice A2 n2 c2, .int .i64 (cexp (y + z) (e))] 27 (0, 0)) ∧ PL W (w.heap.size + 3) (.slice A2 n2 c2) (limbs (cman (y + z)))) := ⟨_, rfl⟩
      refine wp_region_slotsL [43, 44, 45, 46, 47, 48, 49] (by kernel_rfl) (by kernel_rfl)
       (F := fun j q W => match j with | 0 => q = .pointer (some ⟨w.heap.size, 0, none⟩) | 1 => q = .bool b0 | 2 => q = .slice Pa la.length ca | 3 => q = .slice Pb lb.length cb | 4 => PL W (w.heap.size + 3) q (limbs (na - nb)) | 5 => q = .int .i64 E | 6 => PDy W (w.heap.size + 3) q (y + z) e | 7 => True | _ => True)
       (J := JY) ?h0Y ?hstepY ?hendY
      case h0Y =>
       rw [hJY]
       have hd := below_drew (pw_below_drewN (Below.refl W4.heap.size W4) n5)
       exact ⟨⟨below_then HB4.out.1 HB4.out.1.size hd, Nat.le_trans HB4.out.2 hd.size⟩, yb HY0.out hd, yb HY1.out hd, HPA.out.below hd, HPB.out.below hd, fun _ => yb HY2.out hd, fun h => h.elim⟩
      case hstepY =>
       intro k o ho v W L0 hJW hF hnk haft hcl K hK
       rw [hJY] at hJW
       obtain ⟨hBW, hb0, hb1, hx0, hx1, hold, hnew⟩ := hJW
       have hJM : ∀ (k : Nat) (w4 : World), k ≠ 7 → Below W.heap.size W w4 → JY (fun j => L0 j ∨ j = k) w4 := by
        intro k w4 hkK hb
        rw [hJY]
        refine ⟨⟨below_then hBW.1 hBW.1.size hb, Nat.le_trans hBW.2 hb.size⟩, yb hb0 hb, yb hb1 hb, hx0.below hb, hx1.below hb, fun h => yb (hold (fun h2 => h (.inl h2))) hb, fun h => ?_⟩
        obtain ⟨A2, n2, c2, y1, y2⟩ := hnew (h.resolve_right (fun e => hkK e.symm))
        exact ⟨A2, n2, c2, yb y1 hb, y2.below hb⟩
       have HJM := yk hJM
       have HOLD := yk hold
       clear hold hnew
       clear hJM hcl
       rcases k with _ | _ | _ | _ | _ | _ | _ | _ | k
       all_goals first
        | (cases ho; done)
        | (obtain rfl := (Option.some.inj ho).symm
           clear ho
           rw [if_pos (by rfl)]
           simp only [setAll, List.setIfInBounds_toArray, List.set_cons_zero, List.set_cons_succ, List.getElem_toArray, List.getElem_cons_zero, List.getElem_cons_succ, Nat.reduceAdd] at haft hF hK ⊢)
       ·
        have key := hK.out (.pointer (some ⟨w.heap.size, 0, none⟩)) W (HJM.out 0 W (by decide) yr) (fun _ _ h => h) rfl
        go_simp
        simpa [upd] using key
       ·
        have f0 : v 0 = .pointer (some ⟨w.heap.size, 0, none⟩) := hF 0 (haft ⟨0, .data⟩ (by simp) rfl)
        have cc := (box_cell (v := .bool b0) hb0 0 rfl).1
        have key := hK.out (.bool b0) W (HJM.out 1 W (by decide) yr) (fun _ _ h => h) rfl
        go_simp
        simpa [upd, f0] using key
       ·
        have key := hK.out (.slice Pa la.length ca) W (HJM.out 2 W (by decide) yr) (fun _ _ h => h) rfl
        go_simp
        simpa [upd] using key
       ·
        have key := hK.out (.slice Pb lb.length cb) W (HJM.out 3 W (by decide) yr) (fun _ _ h => h) rfl
        go_simp
        simpa [upd] using key
       ·
        have f2 : v 2 = .slice Pa la.length ca := hF 2 (haft ⟨2, .data⟩ (by simp) rfl)
        have f3 : v 3 = .slice Pb lb.length cb := hF 3 (haft ⟨3, .data⟩ (by simp) rfl)
        go_simp
        go_at_call 98
        refine (QS1.out HLE.out hna0.out Pa Pb ca cb W hx0.cc.1 hx1.cc.1 hx0.cc.2 hx1.cc.2).mono ?_
        rintro en w4 ⟨v1, rfl, hr, hb⟩
        have key := hK.out (v1) w4 (HJM.out 4 w4 (by decide) hb) ?monoY_4 (hr.lower hBW.2)
        · simpa [upd, f2, f3] using key
        intro j hj hf
        rcases j with _ | _ | _ | _ | _ | _ | _ | _ | j <;> first | exact hf | exact PDy.below hf hb | exact PL.below hf hb | exact Two.below hf hb | exact RDy.below hf hb
       ·
        have key := hK.out (.int .i64 E) W (HJM.out 5 W (by decide) yr) (fun _ _ h => h) rfl
        go_simp
        simpa [upd] using key
       ·
        have f1 : v 1 = .bool b0 := hF 1 (haft ⟨1, .data⟩ (by simp) rfl)
        have f4 : PL W (w.heap.size + 3) (v 4) (limbs (na - nb)) := hF 4 (haft ⟨4, .data⟩ (by simp) rfl)
        have f5 : v 5 = .int .i64 E := hF 5 (haft ⟨5, .data⟩ (by simp) rfl)
        obtain ⟨A8, c8, f4v, hc8, hC8⟩ := f4.c
        have hm := QF.out b0 (na - nb) (Nat.le_trans (Nat.sub_le _ _) (Nat.le_add_right _ _)) HVAL.out A8 c8 W hBW.1 hC8 hc8
        go_simp
        go_at_call 30
        refine hm.mono ?_
        rintro en w4 ⟨v1, rfl, hr, hb⟩
        have key := hK.out (v1) w4 (HJM.out 6 w4 (by decide) hb) ?monoY_6 (hr.lower hBW.2)
        · simpa [upd, f1, f5, f4v] using key
        intro j hj hf
        rcases j with _ | _ | _ | _ | _ | _ | _ | _ | j <;> first | exact hf | exact PDy.below hf hb | exact PL.below hf hb | exact Two.below hf hb | exact RDy.below hf hb
       ·
        have fz : PDy W (w.heap.size + 3) (v 6) (y + z) (e) := hF 6 (haft ⟨6, .data⟩ (by simp) rfl)
        obtain ⟨A3, n3, c3, fz2, _⟩ := id fz
        refine wp_store_box 27 4 (.tmp 49) rfl rfl (g := w.heap.size + 2) (e := 27) (v 6) [.bool (cneg (y + z)), .slice A3 n3 c3, .int .i64 (cexp (y + z) (e))] rfl rfl (by rw [fz2]; rfl) info_dyad ?_ (HOLD.out hnk) rfl ?_
        · intro q hq; simp at hq; rcases hq with rfl | rfl | rfl <;> rfl
        · intro w1 hw1 hg1
          have hn2 := fz.grown hg1 (by omega)
          obtain ⟨A4, n4, c4, fz4, hr4⟩ := hn2
          rw [fz2] at fz4
          injection fz4 with fz4
          simp at fz4
          obtain ⟨rfl, rfl, rfl⟩ := fz4
          have key := hK.out undef w1 (by rw [hJY]; exact ⟨⟨hBW.1.grown hg1 hBW.1.size (fun k hk => by have := Option.some.inj hk; omega), Nat.le_trans hBW.2 hg1.size⟩, (hg1.block _ (blk_lt hb0) (fun he => by have := Option.some.inj he; omega)).trans hb0, (hg1.block _ (blk_lt hb1) (fun he => by have := Option.some.inj he; omega)).trans hb1, hx0.grown hg1 (by omega), hx1.grown hg1 (by omega), fun h => (h (by simp)).elim, fun _ => ⟨_, _, _, hw1, hr4⟩⟩) ?mstY trivial
          · simpa [upd] using key
          intro j hj hf
          rcases j with _ | _ | _ | _ | _ | _ | _ | _ | j <;> first | exact hf | exact PDy.grown hf hg1 (by omega) | exact PL.grown hf hg1 (by omega)
      case hendY =>
       intro v W L0 hall hJW hF
       rw [hJY] at hJW
       obtain ⟨hBW, _, _, _, _, _, hnew⟩ := hJW
       obtain ⟨A7, n7, c7, p1, p2⟩ := hnew (hall 7 (by decide))
       have P1 := yk p1
       have P2 := yk (p2.lower (b' := w.heap.size) (by omega))
       have BF := yk hBW.1
       clear hF hall hnew p1 p2 hBW
       simp only [setAll, List.setIfInBounds_toArray, List.set_cons_zero, List.set_cons_succ, Nat.reduceAdd]
       go_wp2
       refine bodyPost_ret (results_dyad rfl _ _ (w.heap.size + 1 + 1) _ rfl P1.out rfl) rfl ?_
       exact ⟨_, rfl, ⟨A7, n7, c7, rfl, P2.out⟩, BF.out⟩
    · have hge : decide ((0 : Int) ≤ cmpN na nb) = false := decide_eq_false (by unfold cmpN; rw [if_pos (by omega)]; decide)
      have HVAL := yk (show ∃ j : Nat, E = e + j ∧ y + z = sgn b1 (nb - na) * 2 ^ j from ⟨j, HJE.out, by
       rw [sgn_sub (Ne.symm hs) (show na ≤ nb by omega), Int.add_mul]
       have q1 := HYV.out
       have q2 := HZV.out
       rw [HXZ.out.1] at q1
       rw [HXZ.out.2.2.1] at q2
       rw [← q1, ← q2, Int.add_comm]⟩)
      obtain ⟨cc, hcc⟩ : ∃ c, c = cmpN na nb := ⟨_, rfl⟩
      rw [← hcc] at hge HCC
      have HLE := yk (show na ≤ nb by omega)
      clear hs hle hcc
      go_upto_region 11 with (go_at_call 88; refine HCC.out.mono ?_; rintro e5 w5 ⟨rfl, n5, rfl⟩)
      obtain ⟨JZ, hJZ⟩ : ∃ J : (Nat → Prop) → World → Prop, J = fun L0 W => (Below w.heap.size w W ∧ w.heap.size + 3 ≤ W.heap.size) ∧ W.heap[w.heap.size]? = some (.cells #[.bool b0, .slice A2 n2 c2, .int .i64 x0] 27 (0, 0)) ∧ W.heap[w.heap.size + 1]? = some (.cells #[.bool b1, .slice A3 n3 c3, .int .i64 x1] 27 (0, 0)) ∧ PL W (w.heap.size + 3) (.slice Pa la.length ca) la ∧ PL W (w.heap.size + 3) (.slice Pb lb.length cb) lb ∧ (¬ L0 7 → W.heap[w.heap.size + 2]? = some (.cells #[.bool false, .slice none 0 0, .int .i64 0] 27 (0, 0))) ∧ (L0 7 → ∃ A2 n2 c2, W.heap[w.heap.size + 2]? = some (.cells #[.bool (cneg (y + z)), .slice A2 n2 c2, .int .i64 (cexp (y + z) (e))] 27 (0, 0)) ∧ PL W (w.heap.size + 3) (.slice A2 n2 c2) (limbs (cman (y + z)))) := ⟨_, rfl⟩
      refine wp_region_slotsL [50, 51, 52, 53, 54, 55, 56] (by kernel_rfl) (by kernel_rfl)
       (F := fun j q W => match j with | 0 => q = .pointer (some ⟨w.heap.size + 1, 0, none⟩) | 1 => q = .bool b1 | 2 => q = .slice Pb lb.length cb | 3 => q = .slice Pa la.length ca | 4 => PL W (w.heap.size + 3) q (limbs (nb - na)) | 5 => q = .int .i64 E | 6 => PDy W (w.heap.size + 3) q (y + z) e | 7 => True | _ => True)
       (J := JZ) ?h0Z ?hstepZ ?hendZ
      case h0Z =>
       rw [hJZ]
       have hd := below_drew (pw_below_drewN (Below.refl W4.heap.size W4) n5)
       exact ⟨⟨below_then HB4.out.1 HB4.out.1.size hd, Nat.le_trans HB4.out.2 hd.size⟩, yb HY0.out hd, yb HY1.out hd, HPA.out.below hd, HPB.out.below hd, fun _ => yb HY2.out hd, fun h => h.elim⟩
      case hstepZ =>
       intro k o ho v W L0 hJW hF hnk haft hcl K hK
       rw [hJZ] at hJW
       obtain ⟨hBW, hb0, hb1, hx0, hx1, hold, hnew⟩ := hJW
       have hJM : ∀ (k : Nat) (w4 : World), k ≠ 7 → Below W.heap.size W w4 → JZ (fun j => L0 j ∨ j = k) w4 := by
        intro k w4 hkK hb
        rw [hJZ]
        refine ⟨⟨below_then hBW.1 hBW.1.size hb, Nat.le_trans hBW.2 hb.size⟩, yb hb0 hb, yb hb1 hb, hx0.below hb, hx1.below hb, fun h => yb (hold (fun h2 => h (.inl h2))) hb, fun h => ?_⟩
        obtain ⟨A2, n2, c2, y1, y2⟩ := hnew (h.resolve_right (fun e => hkK e.symm))
        exact ⟨A2, n2, c2, yb y1 hb, y2.below hb⟩
       have HJM := yk hJM
       have HOLD := yk hold
       clear hold hnew
       clear hJM hcl
       rcases k with _ | _ | _ | _ | _ | _ | _ | _ | k
       all_goals first
        | (cases ho; done)
        | (obtain rfl := (Option.some.inj ho).symm
           clear ho
           rw [if_pos (by rfl)]
           simp only [setAll, List.setIfInBounds_toArray, List.set_cons_zero, List.set_cons_succ, List.getElem_toArray, List.getElem_cons_zero, List.getElem_cons_succ, Nat.reduceAdd] at haft hF hK ⊢)
       ·
        have key := hK.out (.pointer (some ⟨w.heap.size + 1, 0, none⟩)) W (HJM.out 0 W (by decide) yr) (fun _ _ h => h) rfl
        go_simp
        simpa [upd] using key
       ·
        have f0 : v 0 = .pointer (some ⟨w.heap.size + 1, 0, none⟩) := hF 0 (haft ⟨0, .data⟩ (by simp) rfl)
        have cc := (box_cell (v := .bool b1) hb1 0 rfl).1
        have key := hK.out (.bool b1) W (HJM.out 1 W (by decide) yr) (fun _ _ h => h) rfl
        go_simp
        simpa [upd, f0] using key
       ·
        have key := hK.out (.slice Pb lb.length cb) W (HJM.out 2 W (by decide) yr) (fun _ _ h => h) rfl
        go_simp
        simpa [upd] using key
       ·
        have key := hK.out (.slice Pa la.length ca) W (HJM.out 3 W (by decide) yr) (fun _ _ h => h) rfl
        go_simp
        simpa [upd] using key
       ·
        have f2 : v 2 = .slice Pb lb.length cb := hF 2 (haft ⟨2, .data⟩ (by simp) rfl)
        have f3 : v 3 = .slice Pa la.length ca := hF 3 (haft ⟨3, .data⟩ (by simp) rfl)
        go_simp
        go_at_call 98
        refine (QS2.out HLE.out hnb0.out Pa Pb ca cb W hx0.cc.1 hx1.cc.1 hx0.cc.2 hx1.cc.2).mono ?_
        rintro en w4 ⟨v1, rfl, hr, hb⟩
        have key := hK.out (v1) w4 (HJM.out 4 w4 (by decide) hb) ?monoZ_4 (hr.lower hBW.2)
        · simpa [upd, f2, f3] using key
        intro j hj hf
        rcases j with _ | _ | _ | _ | _ | _ | _ | _ | j <;> first | exact hf | exact PDy.below hf hb | exact PL.below hf hb | exact Two.below hf hb | exact RDy.below hf hb
       ·
        have key := hK.out (.int .i64 E) W (HJM.out 5 W (by decide) yr) (fun _ _ h => h) rfl
        go_simp
        simpa [upd] using key
       ·
        have f1 : v 1 = .bool b1 := hF 1 (haft ⟨1, .data⟩ (by simp) rfl)
        have f4 : PL W (w.heap.size + 3) (v 4) (limbs (nb - na)) := hF 4 (haft ⟨4, .data⟩ (by simp) rfl)
        have f5 : v 5 = .int .i64 E := hF 5 (haft ⟨5, .data⟩ (by simp) rfl)
        obtain ⟨A8, c8, f4v, hc8, hC8⟩ := f4.c
        have hm := QF.out b1 (nb - na) (Nat.le_trans (Nat.sub_le _ _) (Nat.le_add_left _ _)) HVAL.out A8 c8 W hBW.1 hC8 hc8
        go_simp
        go_at_call 30
        refine hm.mono ?_
        rintro en w4 ⟨v1, rfl, hr, hb⟩
        have key := hK.out (v1) w4 (HJM.out 6 w4 (by decide) hb) ?monoZ_6 (hr.lower hBW.2)
        · simpa [upd, f1, f5, f4v] using key
        intro j hj hf
        rcases j with _ | _ | _ | _ | _ | _ | _ | _ | j <;> first | exact hf | exact PDy.below hf hb | exact PL.below hf hb | exact Two.below hf hb | exact RDy.below hf hb
       ·
        have fz : PDy W (w.heap.size + 3) (v 6) (y + z) (e) := hF 6 (haft ⟨6, .data⟩ (by simp) rfl)
        obtain ⟨A3, n3, c3, fz2, _⟩ := id fz
        refine wp_store_box 27 4 (.tmp 56) rfl rfl (g := w.heap.size + 2) (e := 27) (v 6) [.bool (cneg (y + z)), .slice A3 n3 c3, .int .i64 (cexp (y + z) (e))] rfl rfl (by rw [fz2]; rfl) info_dyad ?_ (HOLD.out hnk) rfl ?_
        · intro q hq; simp at hq; rcases hq with rfl | rfl | rfl <;> rfl
        · intro w1 hw1 hg1
          have hn2 := fz.grown hg1 (by omega)
          obtain ⟨A4, n4, c4, fz4, hr4⟩ := hn2
          rw [fz2] at fz4
          injection fz4 with fz4
          simp at fz4
          obtain ⟨rfl, rfl, rfl⟩ := fz4
          have key := hK.out undef w1 (by rw [hJZ]; exact ⟨⟨hBW.1.grown hg1 hBW.1.size (fun k hk => by have := Option.some.inj hk; omega), Nat.le_trans hBW.2 hg1.size⟩, (hg1.block _ (blk_lt hb0) (fun he => by have := Option.some.inj he; omega)).trans hb0, (hg1.block _ (blk_lt hb1) (fun he => by have := Option.some.inj he; omega)).trans hb1, hx0.grown hg1 (by omega), hx1.grown hg1 (by omega), fun h => (h (by simp)).elim, fun _ => ⟨_, _, _, hw1, hr4⟩⟩) ?mstZ trivial
          · simpa [upd] using key
          intro j hj hf
          rcases j with _ | _ | _ | _ | _ | _ | _ | _ | j <;> first | exact hf | exact PDy.grown hf hg1 (by omega) | exact PL.grown hf hg1 (by omega)
      case hendZ =>
       intro v W L0 hall hJW hF
       rw [hJZ] at hJW
       obtain ⟨hBW, _, _, _, _, _, hnew⟩ := hJW
       obtain ⟨A7, n7, c7, p1, p2⟩ := hnew (hall 7 (by decide))
       have P1 := yk p1
       have P2 := yk (p2.lower (b' := w.heap.size) (by omega))
       have BF := yk hBW.1
       clear hF hall hnew p1 p2 hBW
       simp only [setAll, List.setIfInBounds_toArray, List.set_cons_zero, List.set_cons_succ, Nat.reduceAdd]
       go_wp2
       refine bodyPost_ret (results_dyad rfl _ _ (w.heap.size + 1 + 1) _ rfl P1.out rfl) rfl ?_
       exact ⟨_, rfl, ⟨A7, n7, c7, rfl, P2.out⟩, BF.out⟩
theorem psub_dy (u v : Value) (y z e : Int) (w : World) (h : CDy w u y e) (h' : CDy w v z e) (hl : (limbs (cman y)).length ≤ 268435456) (hl' : (limbs (cman z)).length ≤ 268435456) (le1 : -8589934592 ≤ cexp y e) (le2 : cexp y e ≤ 8589934592) (le1' : -8589934592 ≤ cexp z e) (le2' : cexp z e ≤ 8589934592) (hT : TabAt 0 Lib.deBruijn64tab w) :
 Calls Tryz.prog 69 #[u, v] w fun en w' => ∃ v', en = .returned v' ∧ PDy w' w.heap.size v' (y - z) e ∧ Below w.heap.size w w' := by
 have QN := yk (fun (m : World) (hm : Below w.heap.size w m) => pneg_dy v z e m (h'.below hm) (by omega) (by omega) (by omega) (tab_below hT hm))
 have QA := yk (fun (v2 : Value) (m : World) (hm : Below w.heap.size w m) (h2 : CDy m v2 (-z) e) => (by
  have q := padd_dy u v2 y (-z) e m (h.below hm) h2 hl (by rw [cman_neg]; exact hl') le1 le2 (by rw [cexp_neg]; exact le1') (by rw [cexp_neg]; exact le2') (tab_below hT hm)
  rw [← Int.sub_eq_add_neg] at q
  exact q : Calls Tryz.prog 71 #[u, v2] m fun en w' => ∃ v', en = .returned v' ∧ PDy w' m.heap.size v' (y - z) e ∧ Below m.heap.size m w'))
 obtain ⟨A, n, c, rfl, hC, hn, hc⟩ := h
 obtain ⟨A', n', c', rfl, hC', hn', hc'⟩ := h'
 obtain ⟨x0, hx0⟩ : ∃ x, x = cexp y e := ⟨_, rfl⟩
 obtain ⟨x1, hx1⟩ : ∃ x, x = cexp z e := ⟨_, rfl⟩
 obtain ⟨b0, hb0⟩ : ∃ x, x = cneg y := ⟨_, rfl⟩
 obtain ⟨b1, hb1⟩ : ∃ x, x = cneg z := ⟨_, rfl⟩
 rw [← hx0, ← hb0] at QA
 rw [← hx1, ← hb1] at QN
 rw [← hx0, ← hb0, ← hx1, ← hb1]
 clear hC hC' hx0 hx1 hb0 hb1 hT hl hl' le1 le2 le1' le2'
 obtain ⟨W0, hW0⟩ : ∃ W0, W0 = ((w.alloc (.cells #[.bool b0, .slice A n c, .int .i64 x0] 27)).alloc (.cells #[.bool b1, .slice A' n' c', .int .i64 x1] 27)).alloc (.cells #[.bool false, .slice none 0 0, .int .i64 0] 27) := ⟨_, rfl⟩
 have hh0 : Aside0 (W0.heap[w.heap.size]? = some (.cells #[.bool b0, .slice A n c, .int .i64 x0] 27 (0, 0))) := ⟨by rw [hW0]; exact blk_alloc (blk_alloc (blk_new _ _) _) _⟩
 have hh1 : Aside0 (W0.heap[w.heap.size + 1]? = some (.cells #[.bool b1, .slice A' n' c', .int .i64 x1] 27 (0, 0))) := ⟨by rw [hW0]; have := blk_new (w.alloc (.cells #[.bool b0, .slice A n c, .int .i64 x0] 27)) (.cells #[.bool b1, .slice A' n' c', .int .i64 x1] 27); rw [size_alloc'] at this; exact blk_alloc this _⟩
 have hh2 : Aside0 (W0.heap[w.heap.size + 2]? = some (.cells #[.bool false, .slice none 0 0, .int .i64 0] 27 (0, 0))) := ⟨by rw [hW0]; have := blk_new ((w.alloc (.cells #[.bool b0, .slice A n c, .int .i64 x0] 27)).alloc (.cells #[.bool b1, .slice A' n' c', .int .i64 x1] 27)) (.cells #[.bool false, .slice none 0 0, .int .i64 0] 27); rw [size_alloc', size_alloc'] at this; exact this⟩
 have HW : Aside0 (Below w.heap.size w W0 ∧ w.heap.size + 3 ≤ W0.heap.size) := ⟨by rw [hW0]; exact ⟨below_alloc (below_alloc (below_alloc yr _) _) _, by rw [size_alloc', size_alloc', size_alloc']; exact Nat.le_refl _⟩⟩
 go_enter Tryz.func69, Tryz.ntmps69
 go_upto_region 1 with fail
 rw [← hW0]
 clear hW0
 obtain ⟨JM, hJM⟩ : ∃ J : (Nat → Prop) → World → Prop, J = fun L0 W => (Below w.heap.size w W ∧ w.heap.size + 3 ≤ W.heap.size) ∧ W.heap[w.heap.size]? = some (.cells #[.bool b0, .slice A n c, .int .i64 x0] 27 (0, 0)) ∧ W.heap[w.heap.size + 1]? = some (.cells #[.bool b1, .slice A' n' c', .int .i64 x1] 27 (0, 0)) ∧ (¬ L0 4 → W.heap[w.heap.size + 2]? = some (.cells #[.bool false, .slice none 0 0, .int .i64 0] 27 (0, 0))) ∧ (L0 4 → ∃ A2 n2 c2, W.heap[w.heap.size + 2]? = some (.cells #[.bool (cneg (y - z)), .slice A2 n2 c2, .int .i64 (cexp (y - z) (e))] 27 (0, 0)) ∧ PL W (w.heap.size + 3) (.slice A2 n2 c2) (limbs (cman (y - z)))) := ⟨_, rfl⟩
 refine wp_region_slotsL [5, 6, 7, 8] (by kernel_rfl) (by kernel_rfl)
  (F := fun j q W => match j with | 0 => q = .agg #[.bool b0, .slice A n c, .int .i64 x0] | 1 => q = .agg #[.bool b1, .slice A' n' c', .int .i64 x1] | 2 => PDy W (w.heap.size + 3) q (-z) e | 3 => PDy W (w.heap.size + 3) q (y - z) e | 4 => True | _ => True)
  (J := JM) ?h0M ?hstepM ?hendM
 case h0M =>
  rw [hJM]
  have hd := below_drew (Below.refl W0.heap.size W0)
  exact ⟨⟨below_drew HW.out.1, HW.out.2⟩, yb hh0.out hd, yb hh1.out hd, fun _ => yb hh2.out hd, fun h => h.elim⟩
 case hstepM =>
  intro k o ho v W L0 hJW hF hnk haft hcl K hK
  rw [hJM] at hJW
  obtain ⟨hBW, hb0, hb1, hold, hnew⟩ := hJW
  have hJM : ∀ (k : Nat) (w4 : World), k ≠ 4 → Below W.heap.size W w4 → JM (fun j => L0 j ∨ j = k) w4 := by
   intro k w4 hkK hb
   rw [hJM]
   refine ⟨⟨below_then hBW.1 hBW.1.size hb, Nat.le_trans hBW.2 hb.size⟩, yb hb0 hb, yb hb1 hb, fun h => yb (hold (fun h2 => h (.inl h2))) hb, fun h => ?_⟩
   obtain ⟨A2, n2, c2, y1, y2⟩ := hnew (h.resolve_right (fun e => hkK e.symm))
   exact ⟨A2, n2, c2, yb y1 hb, y2.below hb⟩
  have HJM := yk hJM
  have HOLD := yk hold
  clear hold hnew
  clear hJM hcl
  rcases k with _ | _ | _ | _ | _ | k
  all_goals first
   | (cases ho; done)
   | (obtain rfl := (Option.some.inj ho).symm
      clear ho
      rw [if_pos (by rfl)]
      simp only [setAll, List.setIfInBounds_toArray, List.set_cons_zero, List.set_cons_succ, List.getElem_toArray, List.getElem_cons_zero, List.getElem_cons_succ, Nat.reduceAdd] at haft hF hK ⊢)
  ·
   have cc0 := (box_cell (v := .bool b0) hb0 0 rfl).1
   have cc1 := (box_cell (v := .slice A n c) hb0 1 rfl).1
   have cc2 := (box_cell (v := .int .i64 x0) hb0 2 rfl).1
   have key := hK.out (.agg #[.bool b0, .slice A n c, .int .i64 x0]) W (HJM.out 0 W (by decide) yr) (fun _ _ h => h) rfl
   go_simp
   simpa [upd] using key
  ·
   have cc0 := (box_cell (v := .bool b1) hb1 0 rfl).1
   have cc1 := (box_cell (v := .slice A' n' c') hb1 1 rfl).1
   have cc2 := (box_cell (v := .int .i64 x1) hb1 2 rfl).1
   have key := hK.out (.agg #[.bool b1, .slice A' n' c', .int .i64 x1]) W (HJM.out 1 W (by decide) yr) (fun _ _ h => h) rfl
   go_simp
   simpa [upd] using key
  ·
   have f1 : v 1 = .agg #[.bool b1, .slice A' n' c', .int .i64 x1] := hF 1 (haft ⟨1, .data⟩ (by simp) rfl)
   go_simp
   go_at_call 96
   refine (QN.out W hBW.1).mono ?_
   rintro en w4 ⟨v1, rfl, hr, hb⟩
   have key := hK.out (v1) w4 (HJM.out 2 w4 (by decide) hb) ?monoM_2 (hr.lower hBW.2)
   · simpa [upd, f1] using key
   intro j hj hf
   rcases j with _ | _ | _ | _ | _ | j <;> first | exact hf | exact PDy.below hf hb | exact PL.below hf hb | exact Two.below hf hb | exact RDy.below hf hb
  ·
   have f0 : v 0 = .agg #[.bool b0, .slice A n c, .int .i64 x0] := hF 0 (haft ⟨0, .data⟩ (by simp) rfl)
   have f2 : PDy W (w.heap.size + 3) (v 2) (-z) e := hF 2 (haft ⟨2, .data⟩ (by simp) rfl)
   go_simp
   go_at_call 71
   refine (QA.out (v 2) W hBW.1 f2.c).mono ?_
   rintro en w4 ⟨v1, rfl, hr, hb⟩
   have key := hK.out (v1) w4 (HJM.out 3 w4 (by decide) hb) ?monoM_3 (hr.lower hBW.2)
   · simpa [upd, f0] using key
   intro j hj hf
   rcases j with _ | _ | _ | _ | _ | j <;> first | exact hf | exact PDy.below hf hb | exact PL.below hf hb | exact Two.below hf hb | exact RDy.below hf hb
  ·
   have fz : PDy W (w.heap.size + 3) (v 3) (y - z) (e) := hF 3 (haft ⟨3, .data⟩ (by simp) rfl)
   obtain ⟨A3, n3, c3, fz2, _⟩ := id fz
   refine wp_store_box 27 4 (.tmp 8) rfl rfl (g := w.heap.size + 2) (e := 27) (v 3) [.bool (cneg (y - z)), .slice A3 n3 c3, .int .i64 (cexp (y - z) (e))] rfl rfl (by rw [fz2]; rfl) info_dyad ?_ (HOLD.out hnk) rfl ?_
   · intro q hq; simp at hq; rcases hq with rfl | rfl | rfl <;> rfl
   · intro w1 hw1 hg1
     have hn2 := fz.grown hg1 (by omega)
     obtain ⟨A4, n4, c4, fz4, hr4⟩ := hn2
     rw [fz2] at fz4
     injection fz4 with fz4
     simp at fz4
     obtain ⟨rfl, rfl, rfl⟩ := fz4
     have key := hK.out undef w1 (by rw [hJM]; exact ⟨⟨hBW.1.grown hg1 hBW.1.size (fun k hk => by have := Option.some.inj hk; omega), Nat.le_trans hBW.2 hg1.size⟩, (hg1.block _ (blk_lt hb0) (fun he => by have := Option.some.inj he; omega)).trans hb0, (hg1.block _ (blk_lt hb1) (fun he => by have := Option.some.inj he; omega)).trans hb1, fun h => (h (by simp)).elim, fun _ => ⟨_, _, _, hw1, hr4⟩⟩) ?mstM trivial
     · simpa [upd] using key
     intro j hj hf
     rcases j with _ | _ | _ | _ | _ | j <;> first | exact hf | exact PDy.grown hf hg1 (by omega) | exact PL.grown hf hg1 (by omega)
 case hendM =>
  intro v W L0 hall hJW hF
  rw [hJM] at hJW
  obtain ⟨hBW, _, _, _, hnew⟩ := hJW
  obtain ⟨A2, n2, c2, p1, p2⟩ := hnew (hall 4 (by decide))
  clear hF hall hnew
  have P1 := yk p1
  have P2 := yk (p2.lower (b' := w.heap.size) (by omega))
  have BF := yk hBW.1
  clear p1 p2 hBW
  simp only [setAll, List.setIfInBounds_toArray, List.set_cons_zero, List.set_cons_succ, Nat.reduceAdd]
  go_wp2
  refine bodyPost_ret (results_dyad rfl _ _ (w.heap.size + 1 + 1) _ rfl P1.out rfl) rfl ?_
  exact ⟨_, rfl, ⟨A2, n2, c2, rfl, P2.out⟩, BF.out⟩
end Go.Proofs.YtgpjplelgffocaaGreatDoor

namespace EftPure

/-- A whole number of at most 53 bits times a power of 2. -/
def Rep (n : Int) : Prop := ∃ (m : Int) (e : Nat), n = m * 2 ^ e ∧ m.natAbs ≤ 2 ^ 53

/-- r is a number of 53 bits that is nearest to n. -/
structure IsRN (n r : Int) : Prop where
 rep : Rep r
 near : ∀ x, Rep x → (r - n).natAbs ≤ (x - n).natAbs

end EftPure

namespace EftPure
open Ieee

/-- The word x is finite and stands for A units. -/
def IsF (x : Nat) (A : Int) : Prop := ∃ s m k, double.read x = .number s m ((k : Nat) - 1074 : Int) ∧ A = signed s m k ∧ m < 2 ^ 53

/-- One more, when a number is cut? -/
def oneMore (q r u : Nat) : Nat := if u < 2 * r ∨ u = 2 * r ∧ q % 2 = 1 then 1 else 0

/-- Whole numbers rounded to 53 bits, to the nearest, of two the even one. -/
def rnN (n : Nat) : Nat := (n / 2 ^ (n.log2 - 52) + oneMore (n / 2 ^ (n.log2 - 52)) (n % 2 ^ (n.log2 - 52)) (2 ^ (n.log2 - 52))) * 2 ^ (n.log2 - 52)
def rnI (n : Int) : Int := if n < 0 then -((rnN n.natAbs : Nat) : Int) else ((rnN n.natAbs : Nat) : Int)

def TT : Nat := 2098
def DD : Nat := 1074
def UU : Nat := 622
end EftPure

namespace Go.Proofs.YtgpjplelgffocaaGreatDoor
open Go.RowKit Go.Proofs.YtgpjplelgffocaaGreatDoorW.PrintWords Limb Ieee EftPure
set_option linter.unusedVariables false
set_option linter.unusedSimpArgs false

theorem tmod_nat (x m : Nat) : (x : Int).tmod (m : Int) = ((x % m : Nat) : Int) := by rw [Int.tmod_eq_emod_of_nonneg (by omega)]; rfl
theorem tdiv_nat (x m : Nat) : (x : Int).tdiv (m : Int) = ((x / m : Nat) : Int) := by rw [Int.tdiv_eq_ediv_of_nonneg (by omega)]; rfl

theorem finite_any (x : Nat) (hx : x % 9223372036854775808 < 9218868437227405312) (w : World) :
 Calls Tryz.prog 24 #[.int .u64 (x : Int)] w fun e w' => e = .returned (.bool true) ∧ ∃ n, w' = w.drewN n := by
 obtain ⟨r, hr⟩ : ∃ r, r = x % 9223372036854775808 := ⟨_, rfl⟩
 have e1 : (x : Int).tmod 9223372036854775808 = (r : Int) := by rw [hr]; exact tmod_nat x 9223372036854775808
 rw [← hr] at hx
 have hd : decide ((r : Int) < 9218868437227405312) = true := decide_eq_true (by omega)
 clear hr
 go_enter Tryz.func24, Tryz.ntmps24
 go_wp2
 go_ret
 exact ⟨ret_bool (by first | with_reducible rfl | exact hd | exact decide_eq_true (by omega)), ⟨0, rfl⟩⟩

theorem info_fields : (Tryz.prog.info? 69).map (·.size) = some 3 := by kernel_rfl
theorem any_fields : (Tryz.prog.underlying 69).any (fun d => match d with | .struct _ | .array _ _ => true | _ => false) = true := by kernel_rfl
theorem results_fields {fn : Func} {p : Tmp} (h : fn.results = #[.cell p 69]) (tmps : Array Value) (w : World) (g : Nat) (cs : Array Value) (hp : tmps.getD p undef = .pointer (some ⟨g, 0, none⟩)) (hg : w.heap[g]? = some (.cells cs 69 (0, 0))) (hs : cs.size = 3) :
 (results fn tmps).run Tryz.prog w = .ok (.agg cs) w := by
 obtain ⟨d, hu, hd⟩ : ∃ d, Tryz.prog.underlying 69 = some d ∧ (match d with | .struct _ | .array _ _ => true | _ => false) = true := by
  have h := any_fields
  cases hd : Tryz.prog.underlying 69 with
  | none => rw [hd] at h; cases h
  | some d => rw [hd] at h; exact ⟨d, rfl, h⟩
 refine results_single h (.cell g _ cs (0, 0) d hp hg hu ?_ (by rw [hs]; exact info_fields) .nil)
 revert hu hd
 cases d <;> intro hu hd <;> first | rfl | cases hd

theorem split_any (x : Nat) (hx : x < 18446744073709551616) (w : World) :
 Calls Tryz.prog 41 #[.int .u64 (x : Int)] w fun e w' => e = .returned (.agg #[.bool (decide (9223372036854775808 ≤ x)), .int .i64 ((x / 4503599627370496 % 2048 : Nat) : Int), .int .u64 ((x % 4503599627370496 : Nat) : Int)]) ∧ Below w.heap.size w w' := by
 obtain ⟨F, hF⟩ : ∃ r, r = x % 4503599627370496 := ⟨_, rfl⟩
 obtain ⟨q, hq⟩ : ∃ r, r = x / 4503599627370496 := ⟨_, rfl⟩
 have e1 : (x : Int).tmod 4503599627370496 = (F : Int) := by rw [hF]; exact tmod_nat x 4503599627370496
 have e2 : (x : Int).tdiv 4503599627370496 = (q : Int) := by rw [hq]; exact tdiv_nat x 4503599627370496
 obtain ⟨E, hE⟩ : ∃ r, r = q % 2048 := ⟨_, rfl⟩
 have e3 : (q : Int).tmod 2048 = (E : Int) := by rw [hE]; exact tmod_nat q 2048
 have hEb : E ≤ 2047 := by omega
 have hqb : q ≤ 4095 := by omega
 obtain ⟨b, hb⟩ : ∃ b, b = decide (9223372036854775808 ≤ x) := ⟨_, rfl⟩
 have hb' : decide ((9223372036854775808 : Int) ≤ (x : Int)) = b := by rw [hb]; congr 1; rw [eq_iff_iff]; omega
 have hb2 : decide (9223372036854775808 ≤ x) = b := hb.symm
 rw [← hF, ← hq, ← hE, ← hb]
 clear hF hq hE hb
 cases b
 all_goals
  go_enter Tryz.func41, Tryz.ntmps41
  go_wp2
  refine bodyPost_ret (results_fields rfl _ _ w.heap.size _ rfl (blk_new w _) rfl) rfl ?_
  exact ⟨rfl, below_alloc yr _⟩

theorem results_dyad_tmp {fn : Func} {p u : Tmp} (h : fn.results = #[.cell p 27, .tmp u]) (tmps : Array Value) (w : World) (g : Nat) (cs : Array Value) (hp : tmps.getD p undef = .pointer (some ⟨g, 0, none⟩)) (hg : w.heap[g]? = some (.cells cs 27 (0, 0))) (hs : cs.size = 3) :
 (results fn tmps).run Tryz.prog w = .ok (.tuple #[.agg cs, tmps.getD u undef]) w := by
 obtain ⟨d, hu, hd⟩ := under_dyad
 refine results_ct h tmps w g _ cs (0, 0) d hp hg hu ?_ (by rw [hs]; exact info_dyad)
 revert hu hd
 cases d <;> intro hu hd <;> first | rfl | cases hd

theorem from_fields (x : Nat) (a : Int) (hf : x % 9223372036854775808 < 9218868437227405312) (ha : a = sgn (decide (9223372036854775808 ≤ x)) ((if x / 4503599627370496 % 2048 = 0 then x % 4503599627370496 else 4503599627370496 + x % 4503599627370496) * 2 ^ (x / 4503599627370496 % 2048 - 1))) (hx : x < 18446744073709551616) (w : World) :
 Calls Tryz.prog 19 #[.int .u64 (x : Int)] w fun e w' => ∃ v, e = .returned (.tuple #[v, .int .i64 0]) ∧ RDy w' w.heap.size v a (-1074) ∧ Below w.heap.size w w' := by
 have QF := yk (fun (m : World) => finite_any x hf m)
 have QS := yk (fun (m : World) => split_any x hx m)
 obtain ⟨F, hF⟩ : ∃ r, r = x % 4503599627370496 := ⟨_, rfl⟩
 obtain ⟨E, hE⟩ : ∃ r, r = x / 4503599627370496 % 2048 := ⟨_, rfl⟩
 obtain ⟨b, hb⟩ : ∃ b, b = decide (9223372036854775808 ≤ x) := ⟨_, rfl⟩
 have hE1 : E ≤ 2047 := by omega
 have hF1 : F < 4503599627370496 := by omega
 rw [← hF, ← hE, ← hb] at ha QS
 obtain ⟨m, hm⟩ : ∃ m, m = if E = 0 then F else 4503599627370496 + F := ⟨_, rfl⟩
 rw [← hm] at ha
 have hm1 : m < 9007199254740992 := by rw [hm]; split <;> omega
 have HA := yk ha
 obtain ⟨k, hk⟩ : ∃ k, k = E - 1 := ⟨_, rfl⟩
 rw [← hk] at HA
 have hk1 : k ≤ 2046 := by omega
 have QO := yk (fun (W : World) => of_any m (by omega) W)
 have hlm : (limbs m).length ≤ 1073741824 := by
  have : (limbs m).length ≤ 1 := limbs_len_le (by omega)
  omega
 clear hf hF hb
 by_cases hE0 : E = 0
 · have hmF : m = F := by rw [hm, if_pos hE0]
   have hk0 : k = 0 := by omega
   subst hmF
   subst hE0
   clear hE hm hk ha
   go_enter Tryz.func19, Tryz.ntmps19
   go_wp2_with (first
    | (go_at_call 24; refine (QF.out _).mono ?_; rintro e w' ⟨rfl, n1, rfl⟩)
    | (go_at_call 41; refine (QS.out _).mono ?_; rintro e w2 ⟨rfl, hb⟩; have HB2 := yk (below_then (pw_below_drewN (below_alloc (Below.refl w.heap.size w) _) _) (pw_below_drewN (below_alloc (Below.refl w.heap.size w) _) _).size hb); have HH2 := yk (yb (blk_drewN (blk_new w _) _) hb); clear hb))
   go_region_with (first
    | (go_at_call 43; refine (QO.out _).mono ?_; rintro e w4 ⟨v, rfl, ho, hb⟩; obtain ⟨A1, c1, rfl, hc1, hC1⟩ := Kd.R_reads ho; have HB4 : Aside0 (Below w.heap.size w w4) := ⟨(by first | exact below_then (below_alloc HB2.out _) (below_alloc HB2.out _).size hb | exact below_then (below_drew (below_alloc HB2.out _)) (below_drew (below_alloc HB2.out _)).size hb)⟩; have hh4 : Aside0 (w4.heap[w.heap.size]? = some (.cells #[.bool false, .slice none 0 0, .int .i64 0] 27 (0, 0))) := ⟨(by first | exact yb (blk_alloc HH2.out _) hb | exact yb (blk_drew (blk_alloc HH2.out _)) hb)⟩; have hf4 : w4.heap[w2.heap.size]? = some (.cells #[.bool b, .int .i64 0, .int .u64 m] 69 (0, 0)) := (by first | exact yb (blk_new _ _) hb | exact yb (blk_drew (blk_new _ _)) hb); have cf := (box_cell hf4 0 rfl).1; have HC := yk hC1; clear hb ho hC1 hf4)
    | (go_at_call 42; refine (form_any b (limbs m) A1 _ c1 (-1074) rfl _ HC.out hc1 (wf_limbs _) hlm (by omega) (by omega)).mono ?_; rintro e w5 ⟨v, rfl, hr, hb⟩; rw [nv_limbs] at hr; obtain ⟨A2, n2, c2, rfl, hr'⟩ := id hr; have HR := yk hr'; have HB5 := yk (below_then HB4.out HB4.out.size hb); have HH5 := yk (yb hh4.out hb); obtain ⟨d0, d0', d1, d1', d2, d2'⟩ := bc3 HH5.out; have HLT := yk (blk_lt hh4.out); clear hb hr hr'))
   all_goals
    go_wp2
    have hbs := box_set HH5.out (a := .bool (cneg (sgn b m))) (b := .slice A2 n2 c2) (c := .int .i64 (cexp (sgn b m) (-1074))) rfl
    refine bodyPost_ret (results_dyad_tmp rfl _ _ w.heap.size _ rfl hbs.1 rfl) rfl ?_
    refine ⟨_, rfl, ?_, HB5.out.grown hbs.2 HB5.out.size (fun k hk => by cases hk; exact Nat.le_refl _)⟩
    rw [HA.out, hk0, Nat.pow_zero, Nat.mul_one]
    exact RDy.lower (RDy.grown ⟨A2, n2, c2, rfl, HR.out⟩ hbs.2 HLT.out) HB4.out.size
 · have hmF : (F : Int) + 4503599627370496 = (m : Int) := by rw [hm, if_neg hE0]; omega
   have hex : (E : Int) - 1075 = (k : Int) - 1074 := by omega
   have hEp : 0 < E := by omega
   clear hE hm hk ha hE0
   go_enter Tryz.func19, Tryz.ntmps19
   go_wp2_with (first
    | (go_at_call 24; refine (QF.out _).mono ?_; rintro e w' ⟨rfl, n1, rfl⟩)
    | (go_at_call 41; refine (QS.out _).mono ?_; rintro e w2 ⟨rfl, hb⟩; have HB2 := yk (below_then (pw_below_drewN (below_alloc (Below.refl w.heap.size w) _) _) (pw_below_drewN (below_alloc (Below.refl w.heap.size w) _) _).size hb); have HH2 := yk (yb (blk_drewN (blk_new w _) _) hb); clear hb))
   go_region_with (first
    | (go_at_call 43; refine (QO.out _).mono ?_; rintro e w4 ⟨v, rfl, ho, hb⟩; obtain ⟨A1, c1, rfl, hc1, hC1⟩ := Kd.R_reads ho; have HB4 : Aside0 (Below w.heap.size w w4) := ⟨(by first | exact below_then (below_alloc HB2.out _) (below_alloc HB2.out _).size hb | exact below_then (below_drew (below_alloc HB2.out _)) (below_drew (below_alloc HB2.out _)).size hb)⟩; have hh4 : Aside0 (w4.heap[w.heap.size]? = some (.cells #[.bool false, .slice none 0 0, .int .i64 0] 27 (0, 0))) := ⟨(by first | exact yb (blk_alloc HH2.out _) hb | exact yb (blk_drew (blk_alloc HH2.out _)) hb)⟩; have hf4 : w4.heap[w2.heap.size]? = some (.cells #[.bool b, .int .i64 (E : Int), .int .u64 (F : Int)] 69 (0, 0)) := (by first | exact yb (blk_new _ _) hb | exact yb (blk_drew (blk_new _ _)) hb); have cf := (box_cell hf4 0 rfl).1; have HC := yk hC1; clear hb ho hC1 hf4)
    | (go_at_call 42; refine (form_any b (limbs m) A1 _ c1 ((k : Int) - 1074) rfl _ HC.out hc1 (wf_limbs _) hlm (by omega) (by omega)).mono ?_; rintro e w5 ⟨v, rfl, hr, hb⟩; rw [nv_limbs] at hr; obtain ⟨A2, n2, c2, rfl, hr'⟩ := id hr; have HR := yk hr'; have HB5 := yk (below_then HB4.out HB4.out.size hb); have HH5 := yk (yb hh4.out hb); obtain ⟨d0, d0', d1, d1', d2, d2'⟩ := bc3 HH5.out; have HLT := yk (blk_lt hh4.out); clear hb hr hr'))
   all_goals
    go_wp2
    have hbs := box_set HH5.out (a := .bool (cneg (sgn b m))) (b := .slice A2 n2 c2) (c := .int .i64 (cexp (sgn b m) ((k : Int) - 1074))) rfl
    refine bodyPost_ret (results_dyad_tmp rfl _ _ w.heap.size _ rfl hbs.1 rfl) rfl ?_
    refine ⟨_, rfl, ?_, HB5.out.grown hbs.2 HB5.out.size (fun k hk => by cases hk; exact Nat.le_refl _)⟩
    rw [HA.out, sgn_pow]
    refine RDy.scale k ?_
    rw [show (-1074 : Int) + k = (k : Int) - 1074 by omega]
    exact RDy.lower (RDy.grown ⟨A2, n2, c2, rfl, HR.out⟩ hbs.2 HLT.out) HB4.out.size
open Go.RowKit Go.Proofs.YtgpjplelgffocaaGreatDoorW.PrintWords Limb Ieee EftPure
/-- A finite word's number, in units of 2^-1074. -/
def valI (x : Nat) : Int := sgn (decide (9223372036854775808 ≤ x)) ((if x / 4503599627370496 % 2048 = 0 then x % 4503599627370496 else 4503599627370496 + x % 4503599627370496) * 2 ^ (x / 4503599627370496 % 2048 - 1))
theorem and_mod (x n : Nat) (hx : x < 18446744073709551616) (h1 : 2 ^ n - 1 < 18446744073709551616) : bits .and .u64 (x : Int) ((2 ^ n - 1 : Nat) : Int) = ((x % 2 ^ n : Nat) : Int) := by
 have h := u64_and_nat x (2 ^ n - 1) hx h1
 rw [Nat.and_two_pow_sub_one_eq_mod] at h
 exact h
theorem and_2047 (x : Nat) (hx : x < 18446744073709551616) : bits .and .u64 (x : Int) 2047 = ((x % 2048 : Nat) : Int) := by
 have h := and_mod x 11 hx (by decide)
 have e : (2 ^ 11 : Nat) = 2048 := by decide
 rw [e] at h
 have e2 : ((2048 - 1 : Nat) : Int) = 2047 := by omega
 rw [e2] at h
 exact h
theorem and_frac (x : Nat) (hx : x < 18446744073709551616) : bits .and .u64 (x : Int) 4503599627370495 = ((x % 4503599627370496 : Nat) : Int) := by
 have h := and_mod x 52 hx (by decide)
 have e : (2 ^ 52 : Nat) = 4503599627370496 := by decide
 rw [e] at h
 have e2 : ((4503599627370496 - 1 : Nat) : Int) = 4503599627370495 := by omega
 rw [e2] at h
 exact h
theorem or_add (f : Nat) (hf : f < 4503599627370496) : bits .or .u64 (f : Int) 4503599627370496 = ((4503599627370496 + f : Nat) : Int) := by
 have h := u64_or_nat f 4503599627370496 (by omega) (by decide)
 have e := Nat.two_pow_add_eq_or_of_lt (i := 52) hf 1
 have e1 : (2 ^ 52 : Nat) * 1 = 4503599627370496 := by decide
 rw [e1] at e
 rw [Nat.or_comm, ← e] at h
 exact h

theorem ne2047 {E : Nat} (h : E ≤ 2046) : ((E : Int) == 2047) = false := by simp; omega
theorem ne00 {E : Nat} (h : ¬ E = 0) : ((E : Int) == 0) = false := by simp; omega
theorem sub1075 {E k : Nat} (h : ¬ E = 0) (hk : k = E - 1) : (E : Int) - 1075 = -1074 + (k : Int) := by omega
theorem lt64 {F M : Nat} (h : F < 4503599627370496) (hM : M = 4503599627370496 + F) : M < 18446744073709551616 := by omega
theorem wr1075 {E k : Nat} (h : E ≤ 2046) (h1 : (E : Int) - 1075 = -1074 + (k : Int)) : wrap64 ((E : Int) - 1075) = -1074 + (k : Int) := by unfold wrap64; omega
theorem k2046 {E k : Nat} (h : E ≤ 2046) (hk : k = E - 1) : k ≤ 2046 := by omega
theorem wr0 {E : Nat} (h : E ≤ 2046) : wrap64 (E : Int) = (E : Int) := by unfold wrap64; omega
theorem lt52 {F : Nat} (h : F < 4503599627370496) : F < 18446744073709551616 := by omega
theorem ex2000 {k : Nat} (h : k ≤ 2046) : (-2000 : Int) ≤ -1074 + (k : Int) ∧ (-1074 + (k : Int)) ≤ 2000 := by omega

theorem pfrom_any (x : Nat) (hx : x < 18446744073709551616) (hf : x % 9223372036854775808 < 9218868437227405312) (w : World) (hT : TabAt 0 Lib.deBruijn64tab w) :
 Calls Tryz.prog 17 #[.int .u64 (x : Int)] w fun e w' => ∃ v, e = .returned (.tuple #[v, .int .i64 0]) ∧ PDy w' w.heap.size v (valI x) (-1074) ∧ Below w.heap.size w w' := by
 have HVAL := yk (show valI x = sgn (decide (9223372036854775808 ≤ x)) ((if x / 4503599627370496 % 2048 = 0 then x % 4503599627370496 else 4503599627370496 + x % 4503599627370496) * 2 ^ (x / 4503599627370496 % 2048 - 1)) from rfl)
 obtain ⟨F, hF⟩ : ∃ r, r = x % 4503599627370496 := ⟨_, rfl⟩
 obtain ⟨q, hq⟩ : ∃ r, r = x / 4503599627370496 := ⟨_, rfl⟩
 obtain ⟨E, hE⟩ : ∃ r, r = q % 2048 := ⟨_, rfl⟩
 obtain ⟨t, ht⟩ : ∃ r, r = x / 9223372036854775808 := ⟨_, rfl⟩
 obtain ⟨b, hb⟩ : ∃ b, b = decide (9223372036854775808 ≤ x) := ⟨_, rfl⟩
 have e1 : (x : Int) / 4503599627370496 = (q : Int) := by omega
 have e2 : bits .and .u64 (q : Int) 2047 = (E : Int) := by rw [hE]; exact and_2047 q (by omega)
 have e3 : bits .and .u64 (x : Int) 4503599627370495 = (F : Int) := by rw [hF]; exact and_frac x hx
 have e4 : (x : Int) / 9223372036854775808 = (t : Int) := by omega
 have e5 : ((t : Int) == 1) = b := by rw [hb, Bool.eq_iff_iff]; simp; omega
 have hE1 : E ≤ 2046 := by omega
 have hF1 : F < 4503599627370496 := by omega
 have e6 : bits .or .u64 (F : Int) 4503599627370496 = ((4503599627370496 + F : Nat) : Int) := or_add F hF1
 have e7 : wrap64 (E : Int) = (E : Int) := wr0 hE1
 have h2047 : ((E : Int) == 2047) = false := ne2047 hE1
 rw [← hF, ← hq, ← hE, ← hb] at HVAL
 obtain ⟨v0, hv0⟩ : ∃ v, v = valI x := ⟨_, rfl⟩
 rw [← hv0] at HVAL ⊢
 clear hF hq hE ht hb hv0 hf
 have QF := yk (fun (m : Nat) (ex : Int) (hm : m < 18446744073709551616) (hex1 : -2000 ≤ ex) (hex2 : ex ≤ 2000) (A : Option Addr) (W : World) (hW : Below w.heap.size w W) (hC : kU.C W A 1 [m]) => (by
  have q := pform_any b [m] A 1 1 ex rfl W hC (Nat.le_refl _) (.cons hm .nil) (show 1 ≤ 1073741824 by omega) (by omega) (by omega) (tab_below hT hW)
  rw [show nv [m] = m by simp [nv]] at q
  exact q : Calls Tryz.prog 30 #[.bool b, .slice A 1 1, .int .i64 ex] W fun e w' => ∃ v, e = .returned v ∧ PDy w' W.heap.size v (sgn b m) ex ∧ Below W.heap.size W w'))
 by_cases hE0 : E = 0
 · subst hE0
   have HV := yk (show v0 = sgn b F by rw [HVAL.out, if_pos rfl]; simp)
   go_enter Tryz.func17, Tryz.ntmps17
   go_wp2_with (first
    | (go_at_call 30; refine (QF.out F (-1074) (lt52 hF1) (by decide) (by decide) _ _ (below_alloc (below_alloc yr _) _) ?hC).mono ?_; (case hC => have h := (Kd.R_reads' (row_one (w.alloc (.cells #[.bool false, .slice none 0 0, .int .i64 0] 27)) (F))).2.2; rw [size_alloc'] at h; exact h); rintro e1 w1 ⟨v1, rfl, hr0, hb⟩; have HR0 := yk (hr0.lower (b' := w.heap.size + 2) (by simp only [size_alloc']; exact Nat.le_refl _)); obtain ⟨A2, n2, c2, rfl, hr⟩ := hr0; clear hr; have HB := yk (below_then (below_alloc (below_alloc (Below.refl w.heap.size w) _) _) (below_alloc (below_alloc (Below.refl w.heap.size w) _) _).size hb); have HH := yk (yb (blk_alloc (blk_new w _) _) hb); clear hb)
    | ((with_reducible refine gate_store (p := 2) rfl ?_); go_must (refine sdy 2 (.tmp 27) rfl rfl rfl rfl rfl HH.out rfl ?_; intro wb HX HG)))
   refine bodyPost_ret (results_dyad_tmp rfl _ _ w.heap.size _ rfl HX.out rfl) rfl ?_
   refine ⟨_, rfl, ?_, HB.out.grown HG.out HB.out.size (fun k hk => by cases hk; exact Nat.le_refl _)⟩
   rw [HV.out]
   exact PDy.lower (PDy.grown HR0.out HG.out (Nat.lt_add_of_pos_right (by decide))) (Nat.le_add_right _ _)
 · obtain ⟨M, hM⟩ : ∃ M, M = 4503599627370496 + F := ⟨_, rfl⟩
   obtain ⟨k, hk⟩ : ∃ k, k = E - 1 := ⟨_, rfl⟩
   have hE1k : (E : Int) - 1075 = -1074 + (k : Int) := sub1075 hE0 hk
   have hz : ((E : Int) == 0) = false := ne00 hE0
   have HV := yk (show v0 = sgn b (M * 2 ^ k) by rw [HVAL.out, if_neg hE0, hM, hk])
   rw [← hM] at e6
   have hM1 : M < 18446744073709551616 := lt64 hF1 hM
   have e8 : wrap64 ((E : Int) - 1075) = -1074 + (k : Int) := wr1075 hE1 hE1k
   have hkb : k ≤ 2046 := k2046 hE1 hk
   clear hM hk hE0
   go_enter Tryz.func17, Tryz.ntmps17
   go_wp2_with (first
    | (go_at_call 30; refine (QF.out M (-1074 + (k : Int)) hM1 (ex2000 hkb).1 (ex2000 hkb).2 _ _ (below_alloc (below_alloc yr _) _) ?hC).mono ?_; (case hC => have h := (Kd.R_reads' (row_one (w.alloc (.cells #[.bool false, .slice none 0 0, .int .i64 0] 27)) (M))).2.2; rw [size_alloc'] at h; exact h); rintro e1 w1 ⟨v1, rfl, hr0, hb⟩; have HR0 := yk (hr0.lower (b' := w.heap.size + 2) (by simp only [size_alloc']; exact Nat.le_refl _)); obtain ⟨A2, n2, c2, rfl, hr⟩ := hr0; clear hr; have HB := yk (below_then (below_alloc (below_alloc (Below.refl w.heap.size w) _) _) (below_alloc (below_alloc (Below.refl w.heap.size w) _) _).size hb); have HH := yk (yb (blk_alloc (blk_new w _) _) hb); clear hb)
    | ((with_reducible refine gate_store (p := 2) rfl ?_); go_must (refine sdy 2 (.tmp 27) rfl rfl rfl rfl rfl HH.out rfl ?_; intro wb HX HG)))
   refine bodyPost_ret (results_dyad_tmp rfl _ _ w.heap.size _ rfl HX.out rfl) rfl ?_
   refine ⟨_, rfl, ?_, HB.out.grown HG.out HB.out.size (fun k hk => by cases hk; exact Nat.le_refl _)⟩
   rw [HV.out, sgn_pow]
   refine PDy.scale k ?_
   exact PDy.lower (PDy.grown HR0.out HG.out (Nat.lt_add_of_pos_right (by decide))) (Nat.le_add_right _ _)

/-- The empty dyad. -/
def Z0 : Value := .agg #[.bool false, .slice none 0 0, .int .i64 0]
theorem PDy.zero (w : World) (b : Nat) (e : Int) : PDy w b Z0 0 e := ⟨none, 0, 0, rfl, by rw [cman_zero, limbs_zero]; exact PL.nil _ _⟩

theorem pfrom_none (x : Nat) (hx : x < 18446744073709551616) (hf : ¬ x % 9223372036854775808 < 9218868437227405312) (w : World) :
 Calls Tryz.prog 17 #[.int .u64 (x : Int)] w fun e w' => e = .returned (.tuple #[Z0, .int .i64 5]) ∧ Below w.heap.size w w' := by
 obtain ⟨q, hq⟩ : ∃ r, r = x / 4503599627370496 := ⟨_, rfl⟩
 have e1 : (x : Int) / 4503599627370496 = (q : Int) := by omega
 have e2 : bits .and .u64 (q : Int) 2047 = 2047 := by rw [and_2047 q (by omega)]; omega
 obtain ⟨F, hF⟩ : ∃ r, r = x % 4503599627370496 := ⟨_, rfl⟩
 have e3 : bits .and .u64 (x : Int) 4503599627370495 = (F : Int) := by rw [hF]; exact and_frac x hx
 clear hq hF hf
 go_enter Tryz.func17, Tryz.ntmps17
 go_wp2_with (first
  | ((with_reducible refine gate_store (p := 2) rfl ?_); go_must (refine store_box 27 2 (.tmp 17) rfl rfl rfl (g := w.heap.size) (e := 27) (.agg #[.bool false, .slice none 0 0, .int .i64 0]) ([.bool false, .slice none 0 0, .int .i64 0]) rfl rfl rfl info_dyad ?b1 (blk_new _ _) rfl ?_; (case b1 => intro q hq; simp at hq; rcases hq with rfl | rfl | rfl <;> rfl); intro wb hbx hgx; have HX := yk hbx; have HG := yk hgx; clear hbx hgx)))
 refine bodyPost_ret (results_dyad_tmp rfl _ _ w.heap.size _ rfl HX.out rfl) rfl ?_
 exact ⟨rfl, (below_alloc yr _).grown HG.out (below_alloc (Below.refl w.heap.size w) _).size (fun k hk => by cases hk; exact Nat.le_refl _)⟩
/-- A number of at most 65536 bits, its unit's exponent as small. -/
def Ok (z e : Int) : Prop := bl z.natAbs ≤ 65536 ∧ -65536 ≤ e ∧ e ≤ 65536
theorem cman_le (z : Int) : cman z ≤ z.natAbs := Nat.div_le_self _ _
theorem Ok.len {z e : Int} (h : Ok z e) : (limbs (cman z)).length ≤ 1024 := by
 refine limbs_len_le (Nat.lt_of_le_of_lt (cman_le z) ?_)
 have q : bl z.natAbs ≤ 64 * 1024 := h.1
 generalize 64 * 1024 = E2 at q ⊢
 exact bl_le_iff.1 q
theorem Ok.lo {z e : Int} (h : Ok z e) : -65536 ≤ cexp z e := by
 by_cases h0 : z = 0
 · subst h0; rw [cexp_zero]; decide
 · obtain ⟨k, h1, _⟩ := of_form (e := e) h0
   have := h.2.1
   omega
theorem Ok.hi {z e : Int} (h : Ok z e) : cexp z e ≤ 131072 := by
 by_cases h0 : z = 0
 · subst h0; rw [cexp_zero]; decide
 · obtain ⟨k, h1, _, h3⟩ := of_form (e := e) h0
   have h4 := tz_lt_bl (show z.natAbs ≠ 0 by omega)
   have := h.1
   have := h.2.2
   omega
theorem Ok.len28 {z e : Int} (h : Ok z e) : (limbs (cman z)).length ≤ 268435456 := Nat.le_trans h.len (by decide)
theorem Ok.len30 {z e : Int} (h : Ok z e) : (limbs (cman z)).length ≤ 1073741824 := Nat.le_trans h.len (by decide)
theorem Ok.lo33 {z e : Int} (h : Ok z e) : -8589934592 ≤ cexp z e := Int.le_trans (by decide) h.lo
theorem Ok.hi33 {z e : Int} (h : Ok z e) : cexp z e ≤ 8589934592 := Int.le_trans h.hi (by decide)
theorem Ok.lo37 {z e : Int} (h : Ok z e) : -137438953472 ≤ cexp z e := Int.le_trans (by decide) h.lo
theorem Ok.hi37 {z e : Int} (h : Ok z e) : cexp z e ≤ 137438953472 := Int.le_trans h.hi (by decide)
theorem Ok.lo39 {z e : Int} (h : Ok z e) : -549755813888 ≤ cexp z e := Int.le_trans (by decide) h.lo
theorem Ok.hi39 {z e : Int} (h : Ok z e) : cexp z e ≤ 549755813888 := Int.le_trans h.hi (by decide)
theorem Ok.of {z e : Int} (n : Nat) (h : z.natAbs < 2 ^ n) (hn : n ≤ 65536) (h1 : -65536 ≤ e) (h2 : e ≤ 65536) : Ok z e := ⟨Nat.le_trans (bl_le_iff.2 h) hn, h1, h2⟩

theorem PDy.unscale {w : World} {b : Nat} {v : Value} {z e : Int} (k : Nat) (h : PDy w b v (z * 2 ^ k) e) : PDy w b v z (e + k) := by
 obtain ⟨A, n, c, rfl, hr⟩ := h
 exact ⟨A, n, c, by rw [cneg_mul, cexp_mul], by rw [cman_mul] at hr; exact hr⟩
theorem one_ok {v : Value} {z e : Int} {w : World} (h : CDy w v z e) (o : Ok z e) (hT : TabAt 0 Lib.deBruijn64tab w) :
 Calls Tryz.prog 87 #[v] w fun en w' => ∃ v', en = .returned v' ∧ PDy w' w.heap.size v' z e ∧ Below w.heap.size w w' := pone_dy v z e w h o.len30 o.lo39 o.hi39 hT
theorem abs_ok {v : Value} {z e : Int} {w : World} (h : CDy w v z e) (o : Ok z e) (hT : TabAt 0 Lib.deBruijn64tab w) :
 Calls Tryz.prog 54 #[v] w fun en w' => ∃ v', en = .returned v' ∧ PDy w' w.heap.size v' (z.natAbs : Int) e ∧ Below w.heap.size w w' := pabs_dy v z e w h o.len30 o.lo39 o.hi39 hT
theorem shift_ok {v : Value} {z e : Int} {w : World} (k : Int) (h : CDy w v z e) (o : Ok z e) (hk1 : -549755813888 ≤ k) (hk2 : k ≤ 549755813888) (hT : TabAt 0 Lib.deBruijn64tab w) :
 Calls Tryz.prog 75 #[v, .int .i64 k] w fun en w' => ∃ v', en = .returned v' ∧ PDy w' w.heap.size v' z (e + k) ∧ Below w.heap.size w w' := pshift_dy v z e k w h o.len30 o.lo39 o.hi39 hk1 hk2 hT
theorem cmp_ok {u v : Value} {y z e : Int} {w : World} (h : CDy w u y e) (h' : CDy w v z e) (o : Ok y e) (o' : Ok z e) (hT : TabAt 0 Lib.deBruijn64tab w) :
 Calls Tryz.prog 51 #[u, v] w fun en w' => en = .returned (.int .i64 (cmpZ y z)) ∧ Below w.heap.size w w' := pcmp_dy u v y z e w h h' o.len28 o'.len28 o.lo33 o.hi33 o'.lo33 o'.hi33 hT
theorem add_ok {u v : Value} {y z e : Int} {w : World} (h : CDy w u y e) (h' : CDy w v z e) (o : Ok y e) (o' : Ok z e) (hT : TabAt 0 Lib.deBruijn64tab w) :
 Calls Tryz.prog 71 #[u, v] w fun en w' => ∃ v', en = .returned v' ∧ PDy w' w.heap.size v' (y + z) e ∧ Below w.heap.size w w' := padd_dy u v y z e w h h' o.len28 o'.len28 o.lo33 o.hi33 o'.lo33 o'.hi33 hT
theorem sub_ok {u v : Value} {y z e : Int} {w : World} (h : CDy w u y e) (h' : CDy w v z e) (o : Ok y e) (o' : Ok z e) (hT : TabAt 0 Lib.deBruijn64tab w) :
 Calls Tryz.prog 69 #[u, v] w fun en w' => ∃ v', en = .returned v' ∧ PDy w' w.heap.size v' (y - z) e ∧ Below w.heap.size w w' := psub_dy u v y z e w h h' o.len28 o'.len28 o.lo33 o.hi33 o'.lo33 o'.hi33 hT
theorem mul_ok {u v : Value} {y z e e' : Int} {w : World} (h : CDy w u y e) (h' : CDy w v z e') (o : Ok y e) (o' : Ok z e') (hT : TabAt 0 Lib.deBruijn64tab w) :
 Calls Tryz.prog 95 #[u, v] w fun en w' => ∃ v', en = .returned v' ∧ PDy w' w.heap.size v' (y * z) (e + e') ∧ Below w.heap.size w w' := pmul_dy u v y z e e' w h h' o.len28 o'.len28 o.lo37 o.hi37 o'.lo37 o'.hi37 hT
theorem zero_ok {v : Value} {z e : Int} {w : World} (h : CDy w v z e) (o : Ok z e) :
 Calls Tryz.prog 27 #[v] w fun en w' => en = .returned (.bool (decide (z = 0))) ∧ Below w.heap.size w w' := pzero_dy v z e w h o.len30
theorem sign_ok {v : Value} {z e : Int} {w : World} (h : CDy w v z e) (o : Ok z e) :
 Calls Tryz.prog 50 #[v] w fun en w' => en = .returned (.int .i64 (sgnI z)) ∧ Below w.heap.size w w' := psign_dy v z e w h o.len30

/-- It has room. -/
theorem fits_ok {v : Value} {z e : Int} {w : World} (h : CDy w v z e) (o : Ok z e) (h1 : -32768 ≤ cexp z e) (h2 : cexp z e ≤ 32768) :
 Calls Tryz.prog 109 #[v] w fun en w' => en = .returned (.bool true) ∧ Below w.heap.size w w' := by
 have hl := o.len
 obtain ⟨A, n, c, rfl, hC, hn, hc⟩ := h
 have QN := yk (fun (m : World) (hm : Below w.heap.size w m) => trim_any (limbs (cman z)) A c m (by rw [hn]; exact Kd.C_below hC hm) (by omega) (wf_limbs _) (by omega))
 rw [hn, nv_limbs] at QN
 obtain ⟨n1, hn1⟩ : ∃ k, k = (limbs (cman z)).length := ⟨_, rfl⟩
 obtain ⟨x, hx⟩ : ∃ x, x = cexp z e := ⟨_, rfl⟩
 obtain ⟨b, hb⟩ : ∃ x, x = cneg z := ⟨_, rfl⟩
 rw [← hn1] at QN hl
 rw [← hx] at h1 h2 ⊢
 rw [← hb]
 have d1 : decide ((n1 : Int) ≤ 1024) = true := decide_eq_true (by omega)
 have d2 : decide ((-32768 : Int) ≤ x) = true := decide_eq_true h1
 have d3 : decide (x ≤ (32768 : Int)) = true := decide_eq_true h2
 clear hC hn hn1 hx hb h1 h2 hl o
 go_enter Tryz.func109, Tryz.ntmps109
 go_wp2_with (go_at_call 58; go_must (refine (QN.out _ (below_alloc yr _)).mono ?_; rintro e w1 ⟨rfl, hw⟩; have hb := quiet_below hw; have HB := yk (below_then (below_alloc yr _) (below_alloc (Below.refl w.heap.size w) _).size hb); have HH := yk (yb (blk_new w _) hb); obtain ⟨d1, d1'⟩ := box_cell HH.out 1 rfl; obtain ⟨d2, d2'⟩ := box_cell HH.out 2 rfl; clear hb hw))
 go_ret
 exact ⟨rfl, HB.out⟩
theorem floor_whole {z : Int} {k : Nat} (h : 0 ≤ cexp z (-(k : Int))) : ∃ y : Int, z = y * 2 ^ k ∧ z / 2 ^ k = y := by
 by_cases h0 : z = 0
 · exact ⟨0, by omega, by subst h0; exact Int.zero_ediv _⟩
 · obtain ⟨j, h1, h2, h3⟩ := of_form (e := -(k : Int)) h0
   obtain ⟨d, hd⟩ : ∃ d : Nat, j = d + k := ⟨j - k, by omega⟩
   have h4 : z = sgn (cneg z) (cman z * 2 ^ d) * 2 ^ k := by
    rw [← sgn_pow, Nat.mul_assoc, ← Nat.pow_add, ← hd]; exact h2
   refine ⟨_, h4, ?_⟩
   rw [h4]
   have := Int.mul_ediv_cancel (sgn (cneg z) (cman z * 2 ^ d)) (b := 2 ^ k) (by
    have := Int.pow_pos (n := 2) (m := k) (by decide); omega)
   rw [← h4]; rw [← h4] at this; exact this
theorem cman_odd {z : Int} (h0 : z ≠ 0) : cman z % 2 = 1 := (tz_spec z.natAbs (by omega)).2
theorem odd_mod {m s : Nat} (h : m % 2 = 1) (hs : 0 < s) : m % 2 ^ s ≠ 0 := by
 intro hc
 obtain ⟨t, rfl⟩ : ∃ t, s = t + 1 := ⟨s - 1, by omega⟩
 have := Nat.mod_mul_right_mod m 2 (2 ^ t)
 rw [show 2 * 2 ^ t = 2 ^ (t + 1) by rw [Nat.pow_succ, Nat.mul_comm], hc] at this
 omega
theorem floor_part {z : Int} {k s : Nat} (hs : cexp z (-(k : Int)) = -(s : Int)) (h0 : 0 < s) :
 cman z % 2 ^ s ≠ 0 ∧ z / 2 ^ k = sgn (cneg z) (if cneg z then cman z / 2 ^ s + 1 else cman z / 2 ^ s) := by
 have hz : z ≠ 0 := by rintro rfl; rw [cexp_zero] at hs; omega
 obtain ⟨j, h1, h2, h3⟩ := of_form (e := -(k : Int)) hz
 have hk : k = s + j := by omega
 have ho := odd_mod (cman_odd hz) h0
 refine ⟨ho, ?_⟩
 have e1 : z / 2 ^ k = sgn (cneg z) (cman z) / 2 ^ s := by
  have h4 : z = sgn (cneg z) (cman z) * 2 ^ j := by rw [← sgn_pow]; exact h2
  have hp : (0 : Int) < 2 ^ j := Int.pow_pos (by decide)
  rw [hk, Int.pow_add]
  have := Int.mul_ediv_mul_of_pos_left (sgn (cneg z) (cman z)) (2 ^ s) hp
  rw [← h4] at this; exact this
 rw [e1]
 have hp : ((2 ^ s : Nat) : Int) = 2 ^ s := by norm_cast
 have hp0 := Nat.two_pow_pos s
 unfold sgn
 cases cneg z
 · simp only [Bool.false_eq_true, if_false]
   rw [← hp]; norm_cast
 · simp only [if_true]
   rw [← hp]
   generalize 2 ^ s = p at *
   have h5 := Nat.div_add_mod (cman z) p
   have h6 := Nat.mod_lt (cman z) hp0
   generalize cman z / p = q at *
   generalize cman z % p = r at *
   generalize cman z = m at *
   have : (-(m : Int)) = (p - r : Int) + (p : Int) * (-((q : Int) + 1)) := by
    have : (m : Int) = p * q + r := by exact_mod_cast h5.symm
    rw [this, Int.mul_neg, Int.mul_add]; omega
   rw [this, Int.add_mul_ediv_left _ _ (by omega), Int.ediv_eq_zero_of_lt (by omega) (by omega)]
   omega
theorem len_lt {m M : Nat} (h : (limbs m).length ≤ M) : m < 2 ^ (64 * M) := by
 have := nv_lt (wf_limbs m)
 rw [nv_limbs] at this
 exact Nat.lt_of_lt_of_le this (Nat.pow_le_pow_right (by decide) (Nat.mul_le_mul_left _ h))
theorem half_len {m s M : Nat} (h : (limbs m).length ≤ M) : (limbs (m / 2 ^ s)).length ≤ M :=
 limbs_len_le (Nat.lt_of_le_of_lt (Nat.div_le_self _ _) (len_lt h))
theorem half_len1 {m s M : Nat} (h : (limbs m).length ≤ M) : (limbs (m / 2 ^ s + 1)).length ≤ M + 1 := by
 refine limbs_len_le ?_
 have h2 := len_lt h
 have h3 := Nat.div_le_self m (2 ^ s)
 have h4 : 2 ^ (64 * M) < 2 ^ (64 * (M + 1)) := Nat.pow_lt_pow_right (by decide) (Nat.mul_lt_mul_of_pos_left (Nat.lt_succ_self _) (by decide))
 generalize 2 ^ (64 * M) = p at *
 generalize 2 ^ (64 * (M + 1)) = q at *
 generalize m / 2 ^ s = d at *
 omega

theorem nblk2 (w : World) (o : Obj) (cs : Array Value) (w1 : World) {t : TypeId} (hb : Below ((w.alloc o).alloc (.cells cs t)).heap.size ((w.alloc o).alloc (.cells cs t)) w1) : w1.heap[w.heap.size + 1]? = some (.cells cs t (0, 0)) := by
 have h := blk_new (w.alloc o) (.cells cs t)
 rw [size_alloc'] at h
 exact yb h hb
/-- A world further on: at least k new places. -/
def BelN (w : World) (k : Nat) (W : World) : Prop := Below w.heap.size w W ∧ w.heap.size + k ≤ W.heap.size
theorem BelN.next {w W W' : World} {k : Nat} (h : BelN w k W) (hb : Below W.heap.size W W') : BelN w k W' := ⟨below_then h.1 h.1.size hb, Nat.le_trans h.2 hb.size⟩
theorem BelN.grown {w W W' : World} {k g : Nat} (h : BelN w k W) (hg : W.grownBy W' (some g)) (hk : w.heap.size ≤ g) : BelN w k W' := ⟨h.1.grown hg h.1.size (fun k hk' => by cases hk'; exact hk), Nat.le_trans h.2 hg.size⟩
theorem BelN.zero (w : World) : BelN w 0 w := ⟨Below.refl _ _, Nat.le_refl _⟩
theorem BelN.alloc {w W : World} {k : Nat} (h : BelN w k W) (o : Obj) : BelN w (k + 1) (W.alloc o) := ⟨below_alloc h.1 o, by rw [size_alloc']; have := h.2; omega⟩
theorem BelN.less {w W : World} {k j : Nat} (h : BelN w k W) (hj : j ≤ k) : BelN w j W := ⟨h.1, Nat.le_trans (Nat.add_le_add_left hj _) h.2⟩
theorem blk_grown {w w1 : World} {k g : Nat} {o : Obj} (h : w.heap[k]? = some o) (hg : w.grownBy w1 (some g)) (hk : k ≠ g) : w1.heap[k]? = some o :=
 (hg.block _ (blk_lt h) (fun he => hk (Option.some.inj he))).trans h
theorem agg_inj {a b c a' b' c' : Value} (h : Value.agg #[a, b, c] = .agg #[a', b', c']) : a = a' ∧ b = b' ∧ c = c' := by
 injection h with h
 simp at h
 exact h
theorem slice_inj {A A' : Option Addr} {n n' c c' : Nat} (h : Value.slice A n c = .slice A' n' c') : A = A' ∧ n = n' ∧ c = c' := by
 injection h with h1 h2 h3
 exact ⟨h1, h2, h3⟩

theorem floor_ok {v : Value} {z : Int} {k : Nat} {w : World} (h : CDy w v z (-(k : Int))) (o : Ok z (-(k : Int))) (hT : TabAt 0 Lib.deBruijn64tab w) :
 Calls Tryz.prog 118 #[v] w fun en w' => ∃ v', en = .returned v' ∧ PDy w' w.heap.size v' (z / 2 ^ k) 0 ∧ Below w.heap.size w w' := by
 have QO := yk (fun (m : World) (hm : Below w.heap.size w m) => one_ok (h.below hm) o (tab_below hT hm))
 obtain ⟨A, n, c, rfl, hC, hn, hc⟩ := h
 obtain ⟨x0, hx0⟩ : ∃ x, x = cexp z (-(k : Int)) := ⟨_, rfl⟩
 obtain ⟨b0, hb0⟩ : ∃ x, x = cneg z := ⟨_, rfl⟩
 have hlen := o.len
 have hlo := o.lo
 by_cases hx : 0 ≤ cexp z (-(k : Int))
 · obtain ⟨y, hy1, hy2⟩ := floor_whole hx
   have HY1 := yk hy1
   have HY2 := yk hy2
   have hd : decide ((0 : Int) ≤ x0) = true := by rw [hx0]; exact decide_eq_true hx
   rw [← hx0, ← hb0] at QO
   rw [← hx0, ← hb0]
   have HX0 := yk hx0
   have HB0 := yk hb0
   clear hC hn hx0 hb0 hx hT o hy1 hy2 hlen hlo
   go_enter Tryz.func118, Tryz.ntmps118
   go_wp2_with (first
    | (go_at_call 87; go_must (refine (QO.out _ (below_alloc (below_alloc yr _) _)).mono ?_; rintro e w1 ⟨v, rfl, ho, hb⟩; have HO := yk (ho.lower (b' := w.heap.size + 2) (by simp only [size_alloc']; exact Nat.le_refl _)); obtain ⟨A1, n1, c1, rfl, ho⟩ := ho; rw [← HX0.out, ← HB0.out] at HO; rw [← HX0.out, ← HB0.out]; have HB := yk (((((BelN.zero w).alloc _).alloc _).next hb).less (j := 2) (by decide)); have HH := yk (yb (blk_alloc (blk_new w _) _) hb); have HR := yk (nblk2 w _ _ w1 hb); clear hb ho))
    | (((with_reducible refine gate_store (p := 1) rfl ?_); go_must (refine sdy 1 (.tmp 6) rfl rfl rfl rfl rfl HH.out rfl ?_; intro wb HX HG)); obtain ⟨d0, d0', d1, d1', d2, d2'⟩ := bc3 HX.out; have HR2 := yk (blk_grown HR.out HG.out (Nat.succ_ne_self _)); have HO2 := yk (PDy.grown HO.out HG.out (Nat.lt_add_of_pos_right (by decide))); have HB2 := yk (HB.out.grown HG.out (Nat.le_refl _)))
    | ((with_reducible refine gate_store (p := 2) rfl ?_); go_must (refine sdy 2 (.tmp 10) rfl rfl rfl rfl rfl HR2.out rfl ?_; intro wb HX2 HG2)))
   refine bodyPost_ret (results_dyad rfl _ _ (w.heap.size + 1) _ rfl HX2.out rfl) rfl ?_
   refine ⟨_, rfl, ?_, (HB2.out.grown HG2.out (Nat.le_succ _)).1⟩
   have h := PDy.lower (b' := w.heap.size) (PDy.grown HO2.out HG2.out (Nat.lt_succ_self _)) (by omega)
   rw [HY2.out]
   rw [HY1.out] at h
   have h2 := PDy.unscale k h
   rw [show -(k : Int) + (k : Int) = 0 by omega] at h2
   exact h2
 · obtain ⟨s, hs⟩ : ∃ s : Nat, x0 = -(s : Int) := ⟨(-x0).toNat, by omega⟩
   have hs0 : 0 < s := by omega
   have hs1 : s ≤ 65536 := by omega
   obtain ⟨hl, hv⟩ := floor_part (hx0.symm.trans hs) hs0
   obtain ⟨a, ha⟩ : ∃ a, a = cman z / 2 ^ s := ⟨_, rfl⟩
   obtain ⟨a', ha'⟩ : ∃ a', a' = (if cneg z then a + 1 else a) := ⟨_, rfl⟩
   rw [← ha, ← ha', ← hb0] at hv
   rw [← hb0] at ha'
   have hlost : (cman z % 2 ^ s != 0) = true := by simpa using hl
   have hla : (limbs a).length ≤ 1024 := by rw [ha]; exact half_len hlen
   have hla' : (limbs a').length ≤ 1025 := by
    rw [ha', ha]; split
    · exact half_len1 hlen
    · exact Nat.le_trans (half_len hlen) (by decide)
   have QS := yk (fun (A : Option Addr) (n c : Nat) (W : World) (hW : Below w.heap.size w W) (hn : (limbs (cman z)).length = n) (hC : kU.C W A n (limbs (cman z))) (hc : n ≤ c) => (by
    have q := pshr_any (limbs (cman z)) A n c s hn W hC hc (wf_limbs _) (by omega) (by omega) (tab_below hT hW)
    rw [nv_limbs, ← ha, hlost] at q
    exact q : Calls Tryz.prog 61 #[.slice A n c, .int .i64 (s : Int)] W fun e w' => ∃ v, e = .returned (.tuple #[v, .bool true]) ∧ PL w' W.heap.size v (limbs a) ∧ Below W.heap.size W w'))
   have QF := yk (fun (A : Option Addr) (c : Nat) (W : World) (hW : Below w.heap.size w W) (hC : kU.C W A (limbs a').length (limbs a')) (hc : (limbs a').length ≤ c) => (by
    have q := pform_any b0 (limbs a') A (limbs a').length c 0 rfl W hC hc (wf_limbs _) (by omega) (by omega) (by omega) (tab_below hT hW)
    rw [nv_limbs, ← hv] at q
    exact q : Calls Tryz.prog 30 #[.bool b0, .slice A (limbs a').length c, .int .i64 0] W fun en w' => ∃ v', en = .returned v' ∧ PDy w' W.heap.size v' (z / 2 ^ k) 0 ∧ Below W.heap.size W w'))
   have QA := yk (fun (A B : Option Addr) (c d : Nat) (W : World) (hA : kU.C W A (limbs a).length (limbs a)) (hB : kU.C W B (limbs 1).length (limbs 1)) (hc : (limbs a).length ≤ c) (hd : (limbs 1).length ≤ d) => (by
    have q := padd_any (limbs a) (limbs 1) A B _ _ c d rfl rfl W hA hB hc hd (wf_limbs _) (wf_limbs _) (by omega) (by rw [limbs_one (by decide) (by decide)]; decide)
    rw [nv_limbs, nv_limbs] at q
    exact q : Calls Tryz.prog 97 #[.slice A (limbs a).length c, .slice B (limbs 1).length d] W fun en w' => ∃ v', en = .returned v' ∧ PL w' W.heap.size v' (limbs (a + 1)) ∧ Below W.heap.size W w'))
   have QU := yk (fun (W : World) => pof_any 1 (by decide) W)
   have hd : decide ((0 : Int) ≤ x0) = false := decide_eq_false (by omega)
   have hd2 : IntKind.i64.wrap (-x0) = (s : Int) := by rw [hs]; rw [Int.neg_neg]; exact wrap_i64 (by omega) (by omega)
   rw [← hx0, ← hb0] at QO
   rw [← hx0, ← hb0]
   have HX0 := yk hx0
   have HB0 := yk hb0
   clear hC hn hx0 hb0 hx hT o hlen hlo hs ha hla hla' hl hlost hv
   by_cases hbb : b0 = true
   · subst hbb
     rw [if_pos rfl] at ha'
     subst ha'
     go_enter Tryz.func118, Tryz.ntmps118
     go_wp2_with (first
     | (go_at_call 87; go_must (refine (QO.out _ (below_alloc (below_alloc yr _) _)).mono ?_; rintro e w1 ⟨v, rfl, ho, hb⟩; have HO := yk (ho.lower (b' := w.heap.size + 2) (by simp only [size_alloc']; exact Nat.le_refl _)); obtain ⟨A1, n1, c1, rfl, ho⟩ := ho; rw [← HX0.out, ← HB0.out] at HO; rw [← HX0.out, ← HB0.out]; have HB := yk (((((BelN.zero w).alloc _).alloc _).next hb).less (j := 2) (by decide)); have HH := yk (yb (blk_alloc (blk_new w _) _) hb); have HR := yk (nblk2 w _ _ w1 hb); clear hb ho))
     | (((with_reducible refine gate_store (p := 1) rfl ?_); go_must (refine sdy 1 (.tmp 6) rfl rfl rfl rfl rfl HH.out rfl ?_; intro wb HX HG)); obtain ⟨d0, d0', d1, d1', d2, d2'⟩ := bc3 HX.out; have HR2 := yk (blk_grown HR.out HG.out (Nat.succ_ne_self _)); have HO2 := yk (PDy.grown HO.out HG.out (Nat.lt_add_of_pos_right (by decide))); have HB2 := yk (HB.out.grown HG.out (Nat.le_refl _)))
     | (go_at_call 61; go_must (obtain ⟨A5, n5, c5, e5, C5, l5, m5⟩ := HO2.out.c; obtain ⟨-, e5b, -⟩ := agg_inj e5; obtain ⟨rfl, rfl, rfl⟩ := slice_inj e5b; refine (QS.out _ _ _ _ HB2.out.1 l5 C5 m5).mono ?_; clear e5 e5b C5; rintro e w2 ⟨v, rfl, ho, hb⟩; have HP := yk ho; obtain ⟨A2, c2, rfl, hc2, hC2⟩ := ho.c; have HX3 := yk (yb HX.out hb); have HR3 := yk (yb HR2.out hb); have HB3 := yk (HB2.out.next hb); obtain ⟨f0, f0'⟩ := box_cell HX3.out 0 rfl; clear hb ho hC2))
     | (go_at_call 89; go_must (refine (QU.out _).mono ?_; rintro e w3 ⟨v, rfl, ho, hb⟩; obtain ⟨A3, c3, rfl, hc3, hC3⟩ := ho.c; have HC3 := yk hC3; have HX4 := yk (yb HX3.out hb); have HR4 := yk (yb HR3.out hb); have HP4 := yk (HP.out.below hb); have HB4 := yk (HB3.out.next hb); clear hb ho hC3 f0 f0'))
     | (go_at_call 97; go_must (refine (QA.out A2 A3 c2 c3 _ (PL.cc HP4.out).1 HC3.out hc2 hc3).mono ?_; rintro e w4 ⟨v, rfl, ho, hb⟩; have HP5 := yk ho; obtain ⟨A4, c4, rfl, hc4, hC4⟩ := ho.c; have HC4 := yk hC4; have HX5 := yk (yb HX4.out hb); have HR5 := yk (yb HR4.out hb); have HB5 := yk (HB4.out.next hb); obtain ⟨f0, f0'⟩ := box_cell HX5.out 0 rfl; clear hb ho hC4))
     | (go_at_call 30; go_must (refine (QF.out A4 c4 _ HB5.out.1 HC4.out hc4).mono ?_; rintro e w5 ⟨v, rfl, ho, hb⟩; have HV := yk (ho.lower (b' := w.heap.size + 2) HB5.out.2); obtain ⟨A6, n6, c6, rfl, ho6⟩ := ho; have HR6 := yk (yb HR5.out hb); have HB6 := yk (HB5.out.next hb); clear hb ho6))
     | ((with_reducible refine gate_store (p := 2) rfl ?_); go_must (refine sdy 2 (.tmp 31) rfl rfl rfl rfl rfl HR6.out rfl ?_; intro wb HX7 HG7)))
     refine bodyPost_ret (results_dyad rfl _ _ (w.heap.size + 1) _ rfl HX7.out rfl) rfl ?_
     exact ⟨_, rfl, PDy.lower (PDy.grown HV.out HG7.out (Nat.lt_succ_self _)) (Nat.le_add_right _ _), (HB6.out.grown HG7.out (Nat.le_succ _)).1⟩
   · have hbb : b0 = false := by simpa using hbb
     subst hbb
     rw [if_neg (by decide)] at ha'
     subst ha'
     go_enter Tryz.func118, Tryz.ntmps118
     go_wp2_with (first
     | (go_at_call 87; go_must (refine (QO.out _ (below_alloc (below_alloc yr _) _)).mono ?_; rintro e w1 ⟨v, rfl, ho, hb⟩; have HO := yk (ho.lower (b' := w.heap.size + 2) (by simp only [size_alloc']; exact Nat.le_refl _)); obtain ⟨A1, n1, c1, rfl, ho⟩ := ho; rw [← HX0.out, ← HB0.out] at HO; rw [← HX0.out, ← HB0.out]; have HB := yk (((((BelN.zero w).alloc _).alloc _).next hb).less (j := 2) (by decide)); have HH := yk (yb (blk_alloc (blk_new w _) _) hb); have HR := yk (nblk2 w _ _ w1 hb); clear hb ho))
     | (((with_reducible refine gate_store (p := 1) rfl ?_); go_must (refine sdy 1 (.tmp 6) rfl rfl rfl rfl rfl HH.out rfl ?_; intro wb HX HG)); obtain ⟨d0, d0', d1, d1', d2, d2'⟩ := bc3 HX.out; have HR2 := yk (blk_grown HR.out HG.out (Nat.succ_ne_self _)); have HO2 := yk (PDy.grown HO.out HG.out (Nat.lt_add_of_pos_right (by decide))); have HB2 := yk (HB.out.grown HG.out (Nat.le_refl _)))
     | (go_at_call 61; go_must (obtain ⟨A5, n5, c5, e5, C5, l5, m5⟩ := HO2.out.c; obtain ⟨-, e5b, -⟩ := agg_inj e5; obtain ⟨rfl, rfl, rfl⟩ := slice_inj e5b; refine (QS.out _ _ _ _ HB2.out.1 l5 C5 m5).mono ?_; clear e5 e5b C5; rintro e w2 ⟨v, rfl, ho, hb⟩; have HP := yk ho; obtain ⟨A2, c2, rfl, hc2, hC2⟩ := ho.c; have HX3 := yk (yb HX.out hb); have HR3 := yk (yb HR2.out hb); have HB3 := yk (HB2.out.next hb); obtain ⟨f0, f0'⟩ := box_cell HX3.out 0 rfl; clear hb ho hC2))
     | (go_at_call 30; go_must (refine (QF.out A2 c2 _ HB3.out.1 (PL.cc HP.out).1 hc2).mono ?_; rintro e w5 ⟨v, rfl, ho, hb⟩; have HV := yk (ho.lower (b' := w.heap.size + 2) HB3.out.2); obtain ⟨A6, n6, c6, rfl, ho6⟩ := ho; have HR6 := yk (yb HR3.out hb); have HB6 := yk (HB3.out.next hb); clear hb ho6))
     | ((with_reducible refine gate_store (p := 2) rfl ?_); go_must (refine sdy 2 (.tmp 31) rfl rfl rfl rfl rfl HR6.out rfl ?_; intro wb HX7 HG7)))
     refine bodyPost_ret (results_dyad rfl _ _ (w.heap.size + 1) _ rfl HX7.out rfl) rfl ?_
     exact ⟨_, rfl, PDy.lower (PDy.grown HV.out HG7.out (Nat.lt_succ_self _)) (Nat.le_add_right _ _), (HB6.out.grown HG7.out (Nat.le_succ _)).1⟩
theorem al1 (w : World) (k : Nat) (c0 : Array Value) (t0 : TypeId) (hk : k ≤ 1 := by decide) : Aside0 (BelN w k (w.alloc (.cells c0 t0))) ∧ Aside0 ((w.alloc (.cells c0 t0)).heap[w.heap.size]? = some (.cells c0 t0 (0, 0))) := ⟨⟨((BelN.zero w).alloc _).less hk⟩, ⟨by have h := blk_new w (.cells c0 t0); exact h⟩⟩
theorem al2 (w : World) (k : Nat) (c0 : Array Value) (t0 : TypeId) (c1 : Array Value) (t1 : TypeId) (hk : k ≤ 2 := by decide) : Aside0 (BelN w k ((w.alloc (.cells c0 t0)).alloc (.cells c1 t1))) ∧ Aside0 (((w.alloc (.cells c0 t0)).alloc (.cells c1 t1)).heap[w.heap.size]? = some (.cells c0 t0 (0, 0))) ∧ Aside0 (((w.alloc (.cells c0 t0)).alloc (.cells c1 t1)).heap[w.heap.size + 1]? = some (.cells c1 t1 (0, 0))) := ⟨⟨(((BelN.zero w).alloc _).alloc _).less hk⟩, ⟨by have h := blk_new w (.cells c0 t0); exact blk_alloc (h) _⟩, ⟨by have h := blk_new (w.alloc (.cells c0 t0)) (.cells c1 t1); rw [size_alloc'] at h; exact h⟩⟩
theorem al3 (w : World) (k : Nat) (c0 : Array Value) (t0 : TypeId) (c1 : Array Value) (t1 : TypeId) (c2 : Array Value) (t2 : TypeId) (hk : k ≤ 3 := by decide) : Aside0 (BelN w k (((w.alloc (.cells c0 t0)).alloc (.cells c1 t1)).alloc (.cells c2 t2))) ∧ Aside0 ((((w.alloc (.cells c0 t0)).alloc (.cells c1 t1)).alloc (.cells c2 t2)).heap[w.heap.size]? = some (.cells c0 t0 (0, 0))) ∧ Aside0 ((((w.alloc (.cells c0 t0)).alloc (.cells c1 t1)).alloc (.cells c2 t2)).heap[w.heap.size + 1]? = some (.cells c1 t1 (0, 0))) ∧ Aside0 ((((w.alloc (.cells c0 t0)).alloc (.cells c1 t1)).alloc (.cells c2 t2)).heap[w.heap.size + 1 + 1]? = some (.cells c2 t2 (0, 0))) := ⟨⟨((((BelN.zero w).alloc _).alloc _).alloc _).less hk⟩, ⟨by have h := blk_new w (.cells c0 t0); exact blk_alloc (blk_alloc (h) _) _⟩, ⟨by have h := blk_new (w.alloc (.cells c0 t0)) (.cells c1 t1); rw [size_alloc'] at h; exact blk_alloc (h) _⟩, ⟨by have h := blk_new ((w.alloc (.cells c0 t0)).alloc (.cells c1 t1)) (.cells c2 t2); rw [size_alloc', size_alloc'] at h; exact h⟩⟩
theorem al4 (w : World) (k : Nat) (c0 : Array Value) (t0 : TypeId) (c1 : Array Value) (t1 : TypeId) (c2 : Array Value) (t2 : TypeId) (c3 : Array Value) (t3 : TypeId) (hk : k ≤ 4 := by decide) : Aside0 (BelN w k ((((w.alloc (.cells c0 t0)).alloc (.cells c1 t1)).alloc (.cells c2 t2)).alloc (.cells c3 t3))) ∧ Aside0 (((((w.alloc (.cells c0 t0)).alloc (.cells c1 t1)).alloc (.cells c2 t2)).alloc (.cells c3 t3)).heap[w.heap.size]? = some (.cells c0 t0 (0, 0))) ∧ Aside0 (((((w.alloc (.cells c0 t0)).alloc (.cells c1 t1)).alloc (.cells c2 t2)).alloc (.cells c3 t3)).heap[w.heap.size + 1]? = some (.cells c1 t1 (0, 0))) ∧ Aside0 (((((w.alloc (.cells c0 t0)).alloc (.cells c1 t1)).alloc (.cells c2 t2)).alloc (.cells c3 t3)).heap[w.heap.size + 1 + 1]? = some (.cells c2 t2 (0, 0))) ∧ Aside0 (((((w.alloc (.cells c0 t0)).alloc (.cells c1 t1)).alloc (.cells c2 t2)).alloc (.cells c3 t3)).heap[w.heap.size + 1 + 1 + 1]? = some (.cells c3 t3 (0, 0))) := ⟨⟨(((((BelN.zero w).alloc _).alloc _).alloc _).alloc _).less hk⟩, ⟨by have h := blk_new w (.cells c0 t0); exact blk_alloc (blk_alloc (blk_alloc (h) _) _) _⟩, ⟨by have h := blk_new (w.alloc (.cells c0 t0)) (.cells c1 t1); rw [size_alloc'] at h; exact blk_alloc (blk_alloc (h) _) _⟩, ⟨by have h := blk_new ((w.alloc (.cells c0 t0)).alloc (.cells c1 t1)) (.cells c2 t2); rw [size_alloc', size_alloc'] at h; exact blk_alloc (h) _⟩, ⟨by have h := blk_new (((w.alloc (.cells c0 t0)).alloc (.cells c1 t1)).alloc (.cells c2 t2)) (.cells c3 t3); rw [size_alloc', size_alloc', size_alloc'] at h; exact h⟩⟩
section
variable {P : Program} {ops : Array Oper} {Q : Exit → Act → World → Prop}

theorem wp_region_slotsV {id : Nat} {w : World} {fr : Array Value} (slots : List Nat) (hm : P.follows .mixedOrders = true) (hac : Acyclic ops = true) (G : (Nat → Prop) → (Nat → Value) → World → Prop) (hG : ∀ v, G (fun _ => False) v w.drew)
 (hstep : ∀ k o, ops[k]? = some o → ∀ (v : Nat → Value) (W : World) (L : Nat → Prop), G L v W → ¬ L k → (∀ e ∈ o.after, Region.binds .any e = true → L e.on) → (∀ j p, ops[j]? = some p → L j → ∀ e ∈ p.after, Region.binds .any e = true → L e.on) →
   ∀ K : Act → World → Prop, Shut (∀ x W', G (fun j => L j ∨ j = k) (upd v k x) W' → K { tmps := setAll slots 0 (upd v k x) fr, defers := [] } W') →
    if Region.wanted o (yielded ops (setAll slots 0 v fr)) = true then Oper.wp P o { tmps := setAll slots 0 v fr, defers := [] } W K Q else K (Act.put { tmps := setAll slots 0 v fr, defers := [] } o.dst undef) W)
 (hend : ∀ v W L, (∀ j, j < ops.size → L j) → G L v W → Q .normal { tmps := setAll slots 0 v fr, defers := [] } W) : (Code.region id ops true).wp P Q { tmps := fr, defers := [] } w := by
 have h0 := setAll_self fr slots 0 (fun k => fr.getD (slots.getD k 0) undef) (fun j s hj => by simp [List.getD_eq_getElem?_getD, hj])
 rw [← h0]
 refine wp_region_inv hm hac (I := fun L a W => L.size = ops.size ∧ ∃ v, a = { tmps := setAll slots 0 v fr, defers := [] } ∧ ∃ L' : Nat → Prop, (∀ j, L' j ↔ L.getD j false = true) ∧ G L' v W ∧ (∀ j p, ops[j]? = some p → L' j → ∀ e ∈ p.after, Region.binds .any e = true → L' e.on)) ?_ ?_ ?_
 · refine ⟨by simp, _, rfl, fun _ => False, ?_, hG _, fun _ _ _ h => h.elim⟩
   intro j
   by_cases hj2 : j < ops.size
   · simp [Array.getD, hj2]
   · simp [Array.getD, hj2]
 · intro k o ho L a W hs hl haft hI K hK
   obtain ⟨hsz, v, rfl, L', hL', hJW, hcl⟩ := hI
   have hk : k < ops.size := by
    refine Classical.byContradiction fun hc => ?_
    rw [Array.getElem?_eq_none (by omega)] at ho
    cases ho
   have hafter : ∀ e ∈ o.after, Region.binds .any e = true → L' e.on := by
    intro e he hb
    rw [Array.all_eq_true'] at haft
    have := haft e he
    rw [hb] at this
    rw [hL']
    simpa using this
   refine hstep k o ho v W L' hJW ?_ hafter hcl K ?_
   · have := not_listed hl
     rw [hL', this]; simp
   · intro x W' hJ'
     refine hK.out _ _ ⟨by simp [hsz], upd v k x, rfl, _, ?_, hJ', ?_⟩
     · intro j
       by_cases hjk : j = k
       · subst hjk
         rw [get_eq (by omega)]; simp
       · rw [get_ne (Ne.symm hjk), ← hL']; simp [hjk]
     · intro j p hp hLj e he hb
       rcases hLj with h | h
       · exact .inl (hcl j p hp h e he hb)
       · subst h
         rw [ho] at hp
         cases hp
         exact .inl (hafter e he hb)
 · intro L a W hall hI
   obtain ⟨hsz, v, rfl, L', hL', hJW, _⟩ := hI
   exact hend v W L' (fun j hj => (hL' j).2 (hall j hj)) hJW
end

/-- A dyad of the call's own is no struct's box. -/
theorem PL.grown_box {w w1 : World} {b g : Nat} {v : Value} {l : List Nat} {t : TypeId} {cells : Array Value} (h : PL w b v l) (hb : w.heap[g]? = some (.cells cells t (0, 0))) (ht : 23 ≠ t) (hg : w.grownBy w1 (some g)) : PL w1 b v l := by
 obtain ⟨A, n, c, c', l', h1, h2, h3, h4, hr⟩ := h
 refine ⟨A, n, c, c', l', h1, h2, h3, h4, Kd.R_mono (Kd.R_grown (Kd.R_types hr hb ?_) hg ?_) (fun _ _ => trivial)⟩
 · intro q hq
   rcases List.mem_cons.1 hq with rfl | hq
   · exact ht
   · cases hq
 · rintro k ⟨_, hk⟩ he
   cases he
   exact hk rfl
theorem PDy.grown_box {w w1 : World} {b g : Nat} {v : Value} {z e : Int} {t : TypeId} {cells : Array Value} (h : PDy w b v z e) (hb : w.heap[g]? = some (.cells cells t (0, 0))) (ht : 23 ≠ t) (hg : w.grownBy w1 (some g)) : PDy w1 b v z e := by
 obtain ⟨A, n, c, rfl, hr⟩ := h
 exact ⟨A, n, c, rfl, hr.grown_box hb ht hg⟩
theorem kv {L : Nat → Prop} {v : Nat → Value} {j k : Nat} {x c : Value} (f : L j → v j = c) (h : j ≠ k) : (L j ∨ j = k) → upd v k x j = c := fun q => (upd_ne v x h).trans (f (q.resolve_right h))
theorem kd {L : Nat → Prop} {v : Nat → Value} {j k b : Nat} {x : Value} {w w1 : World} {z e : Int} (f : L j → PDy w b (v j) z e) (h : j ≠ k) (hb : Below w.heap.size w w1) : (L j ∨ j = k) → PDy w1 b (upd v k x j) z e := fun q => by
 rw [upd_ne v x h]; exact (f (q.resolve_right h)).below hb
theorem kg {L : Nat → Prop} {v : Nat → Value} {j k b g : Nat} {x : Value} {w w1 : World} {z e : Int} {t : TypeId} {cells : Array Value} (f : L j → PDy w b (v j) z e) (h : j ≠ k) (hb : w.heap[g]? = some (.cells cells t (0, 0))) (ht : 23 ≠ t) (hg : w.grownBy w1 (some g)) : (L j ∨ j = k) → PDy w1 b (upd v k x j) z e := fun q => by
 rw [upd_ne v x h]; exact (f (q.resolve_right h)).grown_box hb ht hg
theorem PDy.ex {w : World} {b : Nat} {v : Value} {z e : Int} (h : PDy w b v z e) : ∃ bb A n c x, v = .agg #[.bool bb, .slice A n c, .int .i64 x] := by
 obtain ⟨A, n, c, rfl, hr⟩ := h
 exact ⟨_, _, _, _, _, rfl⟩
theorem CDy.ex {w : World} {v : Value} {z e : Int} (h : CDy w v z e) : ∃ bb A n c x, v = .agg #[.bool bb, .slice A n c, .int .i64 x] := by
 obtain ⟨A, n, c, rfl, hr⟩ := h
 exact ⟨_, _, _, _, _, rfl⟩
theorem CDy.parts {w : World} {z e : Int} {bb : Bool} {A : Option Addr} {n c : Nat} {x : Int} (h : CDy w (.agg #[.bool bb, .slice A n c, .int .i64 x]) z e) : bb = cneg z ∧ x = cexp z e ∧ kU.C w A n (limbs (cman z)) ∧ (limbs (cman z)).length = n ∧ n ≤ c := by
 obtain ⟨A', n', c', h1, h2, h3, h4⟩ := h
 obtain ⟨e1, e2, e3⟩ := agg_inj h1
 obtain ⟨rfl, rfl, rfl⟩ := slice_inj e2
 injection e1 with e1
 injection e3 with _ e3
 exact ⟨e1, e3, h2, h3, h4⟩
theorem info_told : (Tryz.prog.info? 40).map (·.size) = some 4 := by kernel_rfl
theorem info_spot : (Tryz.prog.info? 65).map (·.size) = some 4 := by kernel_rfl
theorem kV {L : Nat → Prop} {v : Nat → Value} {j k : Nat} {x c : Value} (f : L j → v j = c) (h : j ≠ k := by decide) : (L j ∨ j = k) → upd v k x j = c := kv f h
theorem kD {L : Nat → Prop} {v : Nat → Value} {j k b : Nat} {x : Value} {w w1 : World} {z e : Int} (f : L j → PDy w b (v j) z e) (hb : Below w.heap.size w w1) (h : j ≠ k := by decide) : (L j ∨ j = k) → PDy w1 b (upd v k x j) z e := kd f h hb
theorem kG {L : Nat → Prop} {v : Nat → Value} {j k b g : Nat} {x : Value} {w w1 : World} {z e : Int} {t : TypeId} {cells : Array Value} (f : L j → PDy w b (v j) z e) (hb : w.heap[g]? = some (.cells cells t (0, 0))) (hg : w.grownBy w1 (some g)) (h : j ≠ k := by decide) (ht : 23 ≠ t := by decide) : (L j ∨ j = k) → PDy w1 b (upd v k x j) z e := kg f h hb ht hg
theorem lw {B b k : Nat} (h : B + k ≤ b) : B ≤ b := Nat.le_trans (Nat.le_add_right _ _) h
def nearF (z : Int) (k : Nat) : Int := if ((z + 2 ^ k) / 2 ^ (k + 1)) % 2 ≠ 0 ∧ (z + 2 ^ k) / 2 ^ (k + 1) * 2 ^ (k + 1) - z = 2 ^ k then (z + 2 ^ k) / 2 ^ (k + 1) - 1 else (z + 2 ^ k) / 2 ^ (k + 1)
theorem sm_add {a b : Int} {n : Nat} (ha : a.natAbs < 2 ^ n) (hb : b.natAbs < 2 ^ n) : (a + b).natAbs < 2 ^ (n + 1) := by rw [Nat.pow_succ]; omega
theorem sm_sub {a b : Int} {n : Nat} (ha : a.natAbs < 2 ^ n) (hb : b.natAbs < 2 ^ n) : (a - b).natAbs < 2 ^ (n + 1) := by rw [Nat.pow_succ]; omega
theorem sm_mul {a : Int} {n k : Nat} (ha : a.natAbs < 2 ^ n) : (a * 2 ^ k).natAbs < 2 ^ (n + k) := by
 rw [natAbs_mul_pow, Nat.pow_add]; exact Nat.mul_lt_mul_of_pos_right ha (Nat.two_pow_pos k)
theorem sm_le {a : Int} {n m : Nat} (ha : a.natAbs < 2 ^ n) (h : n ≤ m) : a.natAbs < 2 ^ m := Nat.lt_of_lt_of_le ha (Nat.pow_le_pow_right (by decide) h)
theorem sm_pow (k : Nat) : ((2 : Int) ^ k).natAbs < 2 ^ (k + 1) := by
 rw [Int.natAbs_pow]; exact Nat.pow_lt_pow_right (by decide) (Nat.lt_succ_self _)
theorem sm_div {a : Int} {n k : Nat} (ha : a.natAbs < 2 ^ n) : (a / 2 ^ k).natAbs < 2 ^ (n + 1) := by
 have hp : (0 : Int) < 2 ^ k := Int.pow_pos (by decide)
 have h2 : (a / 2 ^ k).natAbs ≤ a.natAbs := by
  have := Int.natAbs_ediv_le_natAbs a (2 ^ k)
  exact this
 rw [Nat.pow_succ]
 have := Nat.two_pow_pos n
 omega
theorem cmpZ_zero (y z : Int) : (cmpZ y z == 0) = decide (y = z) := by
 unfold cmpZ
 by_cases h : y = z
 · subst h; simp
 · rw [decide_eq_false h]
   repeat' split
   all_goals first | rfl | omega
theorem odd_iff {n : Int} : (n % 2 ≠ 0) ↔ (cexp n 0 = 0 ∧ n ≠ 0) := by
 constructor
 · intro h
   refine ⟨?_, by rintro rfl; exact h rfl⟩
   unfold cexp
   split
   · rfl
   · rw [tz_odd (by omega)]; rfl
 · rintro ⟨h1, h2⟩
   obtain ⟨k, e1, e2, e3⟩ := of_form (e := 0) h2
   have hk : k = 0 := by omega
   subst hk
   have h3 := cman_odd h2
   have h4 : n.natAbs = cman n := by
    have := congrArg Int.natAbs e2
    rw [sgn_abs] at this; simpa using this
   omega

theorem near_ok {v : Value} {z : Int} {k : Nat} {w : World} (h : CDy w v z (-((k + 1 : Nat) : Int))) (hz : z.natAbs < 2 ^ 2200) (hk : k ≤ 2000) (hT : TabAt 0 Lib.deBruijn64tab w) :
 Calls Tryz.prog 110 #[v] w fun en w' => ∃ v', en = .returned v' ∧ PDy w' w.heap.size v' (nearF z k) 0 ∧ Below w.heap.size w w' := by
 have hk2 : ((2 : Int) ^ k).natAbs < 2 ^ 2200 := sm_le (m := 2200) (sm_pow k) (by omega)
 have hzk := sm_add hz hk2
 obtain ⟨e, he⟩ : ∃ e : Int, e = -((k + 1 : Nat) : Int) := ⟨_, rfl⟩
 have o1 : Ok z e := Ok.of 2200 hz (by decide) (by omega) (by omega)
 have o2 : Ok (2 ^ k) e := Ok.of 2200 hk2 (by decide) (by omega) (by omega)
 have o3 : Ok (z + 2 ^ k) e := Ok.of _ hzk (by decide) (by omega) (by omega)
 obtain ⟨m, hm⟩ : ∃ m, m = (z + 2 ^ k) / 2 ^ (k + 1) := ⟨_, rfl⟩
 have hms := sm_div (k := k + 1) hzk
 rw [← hm] at hms
 have hmk := sm_mul (k := k + 1) hms
 have o4 : Ok m 0 := Ok.of _ hms (by decide) (by decide) (by decide)
 have o5 : Ok (m * 2 ^ (k + 1)) e := Ok.of _ hmk (by omega) (by omega) (by omega)
 have o6 : Ok (m * 2 ^ (k + 1) - z) e := Ok.of _ (sm_sub hmk (sm_le hz (by omega))) (by omega) (by omega) (by omega)
 have o7 : Ok 1 0 := Ok.of 1 (by decide) (by decide) (by decide) (by decide)
 have HN : Aside0 (nearF z k = if m % 2 ≠ 0 ∧ m * 2 ^ (k + 1) - z = 2 ^ k then m - 1 else m) := ⟨by unfold nearF; rw [← hm]⟩
 have QP := yk (fun (n : Int) (W : World) => ppower_dy n W)
 have HP := yk (fun (v : Value) (b : Nat) (W : World) (h : PDy W b v 1 (-1)) => (by
  have q := PDy.scale (e := e) k (by rw [show e + (k : Int) = -1 by omega]; exact h)
  rw [Int.one_mul] at q; exact q : PDy W b v (2 ^ k) e))
 have HS := yk (fun (v : Value) (b : Nat) (W : World) (h : PDy W b v m 0) => (by
  exact PDy.scale (e := e) (k + 1) (by rw [show e + ((k + 1 : Nat) : Int) = 0 by omega]; exact h) : PDy W b v (m * 2 ^ (k + 1)) e))
 have QA := yk (fun (v2 : Value) (W : World) (hW : BelN w 2 W) (h2 : CDy W v2 (2 ^ k) e) => add_ok (h.below hW.1 |> (he ▸ ·)) h2 o1 o2 (tab_below hT hW.1))
 have QFl := yk (fun (v2 : Value) (W : World) (hW : BelN w 2 W) (h2 : CDy W v2 (z + 2 ^ k) e) => (by
  have q := floor_ok (he ▸ h2) (he ▸ o3) (tab_below hT hW.1)
  rw [← hm] at q; exact q : Calls Tryz.prog 118 #[v2] W fun en w' => ∃ v', en = .returned v' ∧ PDy w' W.heap.size v' m 0 ∧ Below W.heap.size W w'))
 have QZ := yk (fun (v2 : Value) (W : World) (h2 : CDy W v2 m 0) => zero_ok h2 o4)
 have QS := yk (fun (v2 : Value) (W : World) (hW : BelN w 2 W) (h2 : CDy W v2 (m * 2 ^ (k + 1)) e) => sub_ok h2 (h.below hW.1 |> (he ▸ ·)) o5 o1 (tab_below hT hW.1))
 have QC := yk (fun (u v2 : Value) (W : World) (hW : BelN w 2 W) (h1 : CDy W u (m * 2 ^ (k + 1) - z) e) (h2 : CDy W v2 (2 ^ k) e) => cmp_ok h1 h2 o6 o2 (tab_below hT hW.1))
 have QI := yk (fun (W : World) (hW : BelN w 2 W) => pint_dy 1 W (by decide) (by decide) (tab_below hT hW.1))
 have QT := yk (fun (u v2 : Value) (W : World) (hW : BelN w 2 W) (h1 : CDy W u m 0) (h2 : CDy W v2 1 0) => sub_ok h1 h2 o4 o7 (tab_below hT hW.1))
 have HC : Aside0 ((cmpZ (m * 2 ^ (k + 1) - z) (2 ^ k) == 0) = decide (m * 2 ^ (k + 1) - z = 2 ^ k)) := ⟨cmpZ_zero _ _⟩
 have HODD : Aside0 ((m % 2 ≠ 0) ↔ (cexp m 0 = 0 ∧ m ≠ 0)) := ⟨odd_iff⟩
 obtain ⟨b0, A, n, c, x0, rfl⟩ := h.ex
 have HCD := yk h
 have HT := yk hT
 clear h hT hz hk hk2 hzk he o1 o2 o3 hm hms hmk o4 o5 o6 o7
 go_enter Tryz.func110, Tryz.ntmps110
 go_upto_region 1 with fail
 obtain ⟨W0, hW0⟩ : ∃ W0, W0 = (w.alloc (.cells #[.bool b0, .slice A n c, .int .i64 x0] 27)).alloc (.cells #[.bool false, .slice none 0 0, .int .i64 0] 27) := ⟨_, rfl⟩
 obtain ⟨BEL, X0, XR⟩ := al2 w 2 #[.bool b0, .slice A n c, .int .i64 x0] 27 #[.bool false, .slice none 0 0, .int .i64 0] 27
 rw [← hW0] at BEL X0 XR ⊢
 clear hW0
 obtain ⟨GM, hGM⟩ : ∃ G : (Nat → Prop) → (Nat → Value) → World → Prop, G = fun L v W => BelN w 2 W ∧ W.heap[w.heap.size]? = some (.cells #[.bool b0, .slice A n c, .int .i64 x0] 27 (0, 0)) ∧ W.heap[w.heap.size + 1]? = some (.cells #[.bool false, .slice none 0 0, .int .i64 0] 27 (0, 0)) ∧ (L 0 → (v 0) = .agg #[.bool b0, .slice A n c, .int .i64 x0]) ∧ (L 1 → PDy W w.heap.size (v 1) 1 (-1)) ∧ (L 2 → PDy W w.heap.size (v 2) (z + 2 ^ k) e) ∧ (L 3 → PDy W w.heap.size (v 3) m 0) ∧ (L 4 → ∃ g : Nat, (v 4) = .pointer (some ⟨g, 0, none⟩) ∧ w.heap.size + 2 ≤ g ∧ (¬ L 5 → W.heap[g]? = some (.cells #[.bool false, .slice none 0 0, .int .i64 0] 27 (0, 0))) ∧ (L 5 → ∃ (bb : Bool) (A : Option Addr) (n c : Nat) (x : Int), (v 3) = .agg #[.bool bb, .slice A n c, .int .i64 x] ∧ W.heap[g]? = some (.cells #[.bool bb, .slice A n c, .int .i64 x] 27 (0, 0)))) ∧ True := ⟨_, rfl⟩
 refine wp_region_slotsV [4, 5, 6, 7, 3] (by kernel_rfl) (by kernel_rfl) (G := GM) ?h0M ?hstepM ?hendM
 case h0M =>
  intro v; rw [hGM]
  exact ⟨BEL.out.next (below_drew yr), blk_drew X0.out, blk_drew XR.out, fun h => h.elim, fun h => h.elim, fun h => h.elim, fun h => h.elim, fun h => h.elim, trivial⟩
 case hstepM =>
  intro k o ho v W L hGv hnk haft hcl K hK
  rw [hGM] at hGv
  obtain ⟨hB, hb0, hb1, f0, f1, f2, f3, f4, f5⟩ := hGv
  rcases k with _ | _ | _ | _ | _ | _ | k
  all_goals first
   | (cases ho; done)
   | (obtain rfl := (Option.some.inj ho).symm
      clear ho
      rw [if_pos (by rfl)]
      simp only [setAll, List.setIfInBounds_toArray, List.set_cons_zero, List.set_cons_succ, List.set_nil, List.getElem_toArray, List.getElem_cons_zero, List.getElem_cons_succ, Nat.reduceAdd] at haft hK ⊢)
  ·
   have cc0 := (box_cell (v := .bool b0) hb0 0 rfl).1
   have cc1 := (box_cell (v := .slice A n c) hb0 1 rfl).1
   have cc2 := (box_cell (v := .int .i64 x0) hb0 2 rfl).1
   have hb := yw W
   have key := hK.out (.agg #[.bool b0, .slice A n c, .int .i64 x0]) W (by rw [hGM]; exact ⟨hB.next hb, yb hb0 hb, yb hb1 hb, yu, (kD f1 hb), (kD f2 hb), (kD f3 hb), (fun h => by obtain ⟨g, e1, e2, e3, e4⟩ := f4 (yx h); rw [upd_ne v _ (by decide), upd_ne v _ (by decide)]; exact ⟨g, e1, e2, fun h2 => yb (e3 (fun h3 => h2 (.inl h3))) hb, fun h2 => by obtain ⟨bb, A, n, c, x, y1, y2⟩ := e4 (yx h2); exact ⟨bb, A, n, c, x, y1, yb y2 hb⟩⟩), trivial⟩)
   clear hb0 hb1 f0 f1 f2 f3 f4 f5 hb hK
   go_simp
   simpa [upd] using key
  ·
   have HALL := yk (ya hK (ya hB (ya hb0 ( ya hb1 ( ya f0 ( ya f1 ( ya f2 ( ya f3 ( ya f4 ( ya f5 (True.intro)))))))))))
   clear hK hb0 hb1 f0 f1 f2 f3 f4 f5
   go_simp
   go_at_call 67
   refine (QP.out (-1) W).mono ?_
   rintro en w4 ⟨v1, rfl, hr, hb⟩
   obtain ⟨hK, hB, hb0, hb1, f0, f1, f2, f3, f4, f5, _⟩ := HALL.out
   have key := hK.out (v1) w4 (by rw [hGM]; exact ⟨hB.next hb, yb hb0 hb, yb hb1 hb, (kV f0), fun _ => by rw [upd_eq]; exact hr.lower (lw hB.2), (kD f2 hb), (kD f3 hb), (fun h => by obtain ⟨g, e1, e2, e3, e4⟩ := f4 (yx h); rw [upd_ne v _ (by decide), upd_ne v _ (by decide)]; exact ⟨g, e1, e2, fun h2 => yb (e3 (fun h3 => h2 (.inl h3))) hb, fun h2 => by obtain ⟨bb, A, n, c, x, y1, y2⟩ := e4 (yx h2); exact ⟨bb, A, n, c, x, y1, yb y2 hb⟩⟩), trivial⟩)
   clear hb0 hb1 f0 f1 f2 f3 f4 f5 hK HALL
   simpa [upd] using key
  ·
   have d0 := f0 (haft ⟨0, .data⟩ (by simp) rfl)
   have D0 := d0
   have d1 := f1 (haft ⟨1, .data⟩ (by simp) rfl)
   have D1 := d1
   have HALL := yk (ya hK (ya hB (ya hb0 ( ya hb1 ( ya f0 ( ya f1 ( ya f2 ( ya f3 ( ya f4 ( ya f5 (True.intro)))))))))))
   clear hK hb0 hb1 f0 f1 f2 f3 f4 f5
   go_simp
   go_at_call 71
   refine (QA.out (v 1) W hB (HP.out _ _ _ d1).c).mono ?_
   rintro en w4 ⟨v1, rfl, hr, hb⟩
   obtain ⟨hK, hB, hb0, hb1, f0, f1, f2, f3, f4, f5, _⟩ := HALL.out
   have key := hK.out (v1) w4 (by rw [hGM]; exact ⟨hB.next hb, yb hb0 hb, yb hb1 hb, (kV f0), (kD f1 hb), fun _ => by rw [upd_eq]; exact hr.lower (lw hB.2), (kD f3 hb), (fun h => by obtain ⟨g, e1, e2, e3, e4⟩ := f4 (yx h); rw [upd_ne v _ (by decide), upd_ne v _ (by decide)]; exact ⟨g, e1, e2, fun h2 => yb (e3 (fun h3 => h2 (.inl h3))) hb, fun h2 => by obtain ⟨bb, A, n, c, x, y1, y2⟩ := e4 (yx h2); exact ⟨bb, A, n, c, x, y1, yb y2 hb⟩⟩), trivial⟩)
   clear hb0 hb1 f0 f1 f2 f3 f4 f5 hK HALL
   simpa [upd, D0] using key
  ·
   have hns5 : ¬ L 5 := fun hs => hnk (hcl 5 _ rfl hs ⟨3, .data⟩ (by simp) rfl)
   have d2 := f2 (haft ⟨2, .data⟩ (by simp) rfl)
   have D2 := d2
   have HALL := yk (ya hK (ya hB (ya hb0 ( ya hb1 ( ya f0 ( ya f1 ( ya f2 ( ya f3 ( ya f4 ( ya f5 (True.intro)))))))))))
   clear hK hb0 hb1 f0 f1 f2 f3 f4 f5
   go_simp
   go_at_call 118
   refine (QFl.out (v 2) W hB d2.c).mono ?_
   rintro en w4 ⟨v1, rfl, hr, hb⟩
   obtain ⟨hK, hB, hb0, hb1, f0, f1, f2, f3, f4, f5, _⟩ := HALL.out
   have key := hK.out (v1) w4 (by rw [hGM]; exact ⟨hB.next hb, yb hb0 hb, yb hb1 hb, (kV f0), (kD f1 hb), (kD f2 hb), fun _ => by rw [upd_eq]; exact hr.lower (lw hB.2), (fun h => by obtain ⟨g, e1, e2, e3, e4⟩ := f4 (yx h); rw [upd_ne v _ (by decide)]; exact ⟨g, e1, e2, fun h2 => yb (e3 (fun h3 => h2 (.inl h3))) hb, fun h2 => (hns5 (yx h2)).elim⟩), trivial⟩)
   clear hb0 hb1 f0 f1 f2 f3 f4 f5 hK HALL
   simpa [upd] using key
  ·
   have hns5 : ¬ L 5 := fun hs => hnk (hcl 5 _ rfl hs ⟨4, .data⟩ (by simp) rfl)
   have hb := below_alloc (yw W) (.cells #[.bool false, .slice none 0 0, .int .i64 0] 27)
   have key := hK.out (.pointer (some ⟨W.heap.size, 0, none⟩)) (W.alloc (.cells #[.bool false, .slice none 0 0, .int .i64 0] 27)) (by rw [hGM]; exact ⟨hB.next hb, yb hb0 hb, yb hb1 hb, (kV f0), (kD f1 hb), (kD f2 hb), (kD f3 hb), fun _ => by rw [upd_eq]; exact ⟨W.heap.size, rfl, hB.2, fun _ => blk_new W _, fun h2 => (hns5 (yx h2)).elim⟩, trivial⟩)
   clear hb0 hb1 f0 f1 f2 f3 f4 f5 hK hb hns5
   go_simp
   simpa [upd] using key
  ·
   obtain ⟨g, e1, e2, e3, -⟩ := f4 (haft ⟨4, .data⟩ (by simp) rfl)
   have hgb := e3 hnk
   have ds := f3 (haft ⟨3, .data⟩ (by simp) rfl)
   obtain ⟨bb, A, n, c, x, es⟩ := ds.ex
   refine wp_store_box 27 3 (.tmp 7) rfl rfl (g := g) (e := 27) (v 3) [.bool bb, .slice A n c, .int .i64 x] (by first | rfl | exact e1) rfl (by rw [es]; rfl) info_dyad ?_ hgb rfl ?_
   · intro q hq; simp at hq; rcases hq with rfl | rfl | rfl <;> rfl
   · intro w1 hw1 hg
     have key := hK.out undef w1 (by rw [hGM]; exact ⟨hB.grown hg (by omega), blk_grown hb0 hg (by omega), blk_grown hb1 hg (by omega), (kV f0), (kG f1 hgb hg), (kG f2 hgb hg), (kG f3 hgb hg), (fun h => by rw [upd_ne v _ (by decide), upd_ne v _ (by decide)]; exact ⟨g, e1, e2, fun h2 => (h2 (.inr rfl)).elim, fun _ => ⟨bb, A, n, c, x, es, hw1⟩⟩), trivial⟩)
     clear hb0 hb1 f0 f1 f2 f3 f4 f5 hK
     simpa [upd] using key
 case hendM =>
  intro v W L0 hall hGv
  rw [hGM] at hGv
  obtain ⟨hB, hb0, hb1, f0, f1, f2, f3, f4, _⟩ := hGv
  have BEL := yk hB
  have X0 := yk hb0
  have XR := yk hb1
  have d3 := f3 (hall 3 (by decide))
  obtain ⟨g, p4, hgs, _, hg5⟩ := f4 (hall 4 (by decide))
  obtain ⟨b7, A7, n7, c7, x7, p3, hx7⟩ := hg5 (hall 5 (by decide))
  rw [p3] at d3
  have X3 := yk hx7
  have P3 := yk d3
  obtain ⟨-, ex7, -⟩ := CDy.parts d3.c
  have HX7 := yk ex7
  have HGS := yk hgs
  clear hall f0 f1 f2 f3 f4 hB hb0 hb1 d3 hx7 hg5 hgs ex7
  simp only [setAll, List.setIfInBounds_toArray, List.set_cons_zero, List.set_cons_succ, Nat.reduceAdd, p3, p4]
  by_cases hx : x7 = 0
  case neg =>
   have hx0 : (x7 == 0) = false := by simpa using hx
   obtain ⟨q0, q0', q1, q1', q2, q2'⟩ := bc3 X3.out
   obtain ⟨q3, q3', q4, q4', q5, q5'⟩ := bc3 X0.out
   go_wp2_with (clear q0 q0' q1 q1' q2 q2' q3 q3' q4 q4' q5 q5'; ((with_reducible refine gate_store (p := 2) rfl ?_); go_must (refine sdy 2 (.tmp 27) rfl rfl rfl rfl rfl XR.out rfl ?_; intro wb HX HG)); replace P3 := yk (P3.out.grown_box XR.out (by decide) HG.out); replace BEL := yk (BEL.out.grown HG.out (by omega)); replace X0 := yk (blk_grown X0.out HG.out (by have h_g := HGS.out; omega)); replace X3 := yk (blk_grown X3.out HG.out (by have h_g := HGS.out; omega)); replace XR := HX; clear HG)
   refine bodyPost_ret (results_dyad rfl _ _ (w.heap.size + 1) _ rfl XR.out rfl) rfl ?_
   refine ⟨_, rfl, ?_, BEL.out.1⟩
   rw [HN.out, if_neg (fun h => hx (by rw [HX7.out]; exact (HODD.out.1 h.1).1))]
   exact P3.out
  by_cases hm0 : m = 0
  case pos =>
   subst hx
   obtain ⟨q0, q0', q1, q1', q2, q2'⟩ := bc3 X3.out
   obtain ⟨q3, q3', q4, q4', q5, q5'⟩ := bc3 X0.out
   go_wp2_with fail
   clear q0 q0' q1 q1' q2 q2' q3 q3' q4 q4' q5 q5'
   go_at_call 27
   refine (QZ.out _ _ P3.out.c).mono ?_
   rintro en11 w11 ⟨rfl, hb⟩
   replace BEL := yk (BEL.out.next hb)
   replace X0 := yk (yb X0.out hb)
   replace XR := yk (yb XR.out hb)
   replace X3 := yk (yb X3.out hb)
   replace P3 := yk (P3.out.below hb)
   clear hb
   have hd : decide (m = 0) = true := decide_eq_true hm0
   obtain ⟨q6, q6', q7, q7', q8, q8'⟩ := bc3 X3.out
   obtain ⟨q9, q9', q10, q10', q11, q11'⟩ := bc3 X0.out
   go_wp2_with (clear q6 q6' q7 q7' q8 q8' q9 q9' q10 q10' q11 q11'; ((with_reducible refine gate_store (p := 2) rfl ?_); go_must (refine sdy 2 (.tmp 27) rfl rfl rfl rfl rfl XR.out rfl ?_; intro wb HX HG)); replace P3 := yk (P3.out.grown_box XR.out (by decide) HG.out); replace BEL := yk (BEL.out.grown HG.out (by omega)); replace X0 := yk (blk_grown X0.out HG.out (by have h_g := HGS.out; omega)); replace X3 := yk (blk_grown X3.out HG.out (by have h_g := HGS.out; omega)); replace XR := HX; clear HG)
   refine bodyPost_ret (results_dyad rfl _ _ (w.heap.size + 1) _ rfl XR.out rfl) rfl ?_
   refine ⟨_, rfl, ?_, BEL.out.1⟩
   rw [HN.out, if_neg (fun h => (HODD.out.1 h.1).2 hm0)]
   exact P3.out
  case neg =>
   subst hx
   have hodd : m % 2 ≠ 0 := HODD.out.2 ⟨by rw [← HX7.out], hm0⟩
   have HOD := yk hodd
   clear hodd
   obtain ⟨q0, q0', q1, q1', q2, q2'⟩ := bc3 X3.out
   obtain ⟨q3, q3', q4, q4', q5, q5'⟩ := bc3 X0.out
   go_wp2_with fail
   clear q0 q0' q1 q1' q2 q2' q3 q3' q4 q4' q5 q5'
   go_at_call 27
   refine (QZ.out _ _ P3.out.c).mono ?_
   rintro en11 w11 ⟨rfl, hb⟩
   replace BEL := yk (BEL.out.next hb)
   replace X0 := yk (yb X0.out hb)
   replace XR := yk (yb XR.out hb)
   replace X3 := yk (yb X3.out hb)
   replace P3 := yk (P3.out.below hb)
   clear hb
   have hd : decide (m = 0) = false := decide_eq_false hm0
   obtain ⟨q6, q6', q7, q7', q8, q8'⟩ := bc3 X3.out
   obtain ⟨q9, q9', q10, q10', q11, q11'⟩ := bc3 X0.out
   go_wp2_with fail
   clear q6 q6' q7 q7' q8 q8' q9 q9' q10 q10' q11 q11'
   go_at_call 69
   refine (QS.out _ _ BEL.out (HS.out _ _ _ P3.out).c).mono ?_
   rintro en12 w12 ⟨v12, rfl, hr, hb⟩
   replace BEL := yk (BEL.out.next hb)
   replace X0 := yk (yb X0.out hb)
   replace XR := yk (yb XR.out hb)
   replace X3 := yk (yb X3.out hb)
   replace P3 := yk (P3.out.below hb)
   have PS := yk hr
   obtain ⟨b12, A12, n12, c12, x12, rfl⟩ := hr.ex
   clear hr hb
   go_wp2_with fail
   go_at_call 67
   refine (QP.out (-1) _).mono ?_
   rintro en13 w13 ⟨v13, rfl, hr, hb⟩
   replace BEL := yk (BEL.out.next hb)
   replace X0 := yk (yb X0.out hb)
   replace XR := yk (yb XR.out hb)
   replace X3 := yk (yb X3.out hb)
   replace P3 := yk (P3.out.below hb)
   replace PS := yk (PS.out.below hb)
   have PH := yk hr
   obtain ⟨b13, A13, n13, c13, x13, rfl⟩ := hr.ex
   clear hr hb
   go_wp2_with fail
   go_at_call 51
   refine (QC.out _ _ _ BEL.out PS.out.c (HP.out _ _ _ PH.out).c).mono ?_
   rintro en14 w14 ⟨rfl, hb⟩
   replace BEL := yk (BEL.out.next hb)
   replace X0 := yk (yb X0.out hb)
   replace XR := yk (yb XR.out hb)
   replace X3 := yk (yb X3.out hb)
   replace P3 := yk (P3.out.below hb)
   replace PS := yk (PS.out.below hb)
   replace PH := yk (PH.out.below hb)
   clear hb
   by_cases hcc : m * 2 ^ (k + 1) - z = 2 ^ k
   case neg =>
    have HCE := yk hcc
    have hcz : (cmpZ (m * 2 ^ (k + 1) - z) (2 ^ k) == 0) = false := HC.out.trans (decide_eq_false hcc)
    clear hcc
    obtain ⟨q12, q12', q13, q13', q14, q14'⟩ := bc3 X3.out
    obtain ⟨q15, q15', q16, q16', q17, q17'⟩ := bc3 X0.out
    go_wp2_with (clear q12 q12' q13 q13' q14 q14' q15 q15' q16 q16' q17 q17'; ((with_reducible refine gate_store (p := 2) rfl ?_); go_must (refine sdy 2 (.tmp 27) rfl rfl rfl rfl rfl XR.out rfl ?_; intro wb HX HG)); replace P3 := yk (P3.out.grown_box XR.out (by decide) HG.out); replace PS := yk (PS.out.grown_box XR.out (by decide) HG.out); replace PH := yk (PH.out.grown_box XR.out (by decide) HG.out); replace BEL := yk (BEL.out.grown HG.out (by omega)); replace X0 := yk (blk_grown X0.out HG.out (by have h_g := HGS.out; omega)); replace X3 := yk (blk_grown X3.out HG.out (by have h_g := HGS.out; omega)); replace XR := HX; clear HG)
    refine bodyPost_ret (results_dyad rfl _ _ (w.heap.size + 1) _ rfl XR.out rfl) rfl ?_
    refine ⟨_, rfl, ?_, BEL.out.1⟩
    rw [HN.out, if_neg (fun h => HCE.out h.2)]
    exact P3.out
   case pos =>
    have HCE := yk hcc
    have hcz : (cmpZ (m * 2 ^ (k + 1) - z) (2 ^ k) == 0) = true := HC.out.trans (decide_eq_true hcc)
    clear hcc
    obtain ⟨q12, q12', q13, q13', q14, q14'⟩ := bc3 X3.out
    obtain ⟨q15, q15', q16, q16', q17, q17'⟩ := bc3 X0.out
    go_upto_region 3 with fail
    clear q12 q12' q13 q13' q14 q14' q15 q15' q16 q16' q17 q17'
    obtain ⟨wz, hwz⟩ : ∃ wz, wz = w13 := ⟨_, rfl⟩
    obtain ⟨GN, hGN⟩ : ∃ G : (Nat → Prop) → (Nat → Value) → World → Prop, G = fun L v W => BelN w 2 W ∧ W.heap[w.heap.size]? = some (.cells #[.bool b0, .slice A n c, .int .i64 x0] 27 (0, 0)) ∧ W.heap[g]? = some (.cells #[.bool b7, .slice A7 n7 c7, .int .i64 0] 27 (0, 0)) ∧ PDy W w.heap.size (.agg #[.bool b7, .slice A7 n7 c7, .int .i64 0]) m 0 ∧ (L 0 → (v 0) = .agg #[.bool b7, .slice A7 n7 c7, .int .i64 0]) ∧ (L 1 → PDy W w.heap.size (v 1) 1 0) ∧ (L 2 → PDy W w.heap.size (v 2) (m - 1) 0) ∧ ((¬ L 3 → W.heap[w.heap.size + 1]? = some (.cells #[.bool false, .slice none 0 0, .int .i64 0] 27 (0, 0))) ∧ (L 3 → ∃ (bb : Bool) (A : Option Addr) (n c : Nat) (x : Int), (v 2) = .agg #[.bool bb, .slice A n c, .int .i64 x] ∧ W.heap[w.heap.size + 1]? = some (.cells #[.bool bb, .slice A n c, .int .i64 x] 27 (0, 0)))) := ⟨_, rfl⟩
    refine wp_region_slotsV [24, 25, 26] (by kernel_rfl) (by kernel_rfl) (G := GN) ?h0N ?hstepN ?hendN
    case h0N =>
     intro v; rw [hGN]
     exact ⟨BEL.out.next (below_drew yr), blk_drew X0.out, blk_drew X3.out, P3.out.below (below_drew yr), fun h => h.elim, fun h => h.elim, fun h => h.elim, ⟨fun _ => blk_drew XR.out, fun h => h.elim⟩⟩
    case hstepN =>
     intro k o ho v W L hGv hnk haft hcl K hK
     rw [hGN] at hGv
     obtain ⟨hB, hb0, hb1, hk0, f0, f1, f2, f3⟩ := hGv
     rcases k with _ | _ | _ | _ | k
     all_goals first
      | (cases ho; done)
      | (obtain rfl := (Option.some.inj ho).symm
         clear ho
         rw [if_pos (by rfl)]
         simp only [setAll, List.setIfInBounds_toArray, List.set_cons_zero, List.set_cons_succ, List.set_nil, List.getElem_toArray, List.getElem_cons_zero, List.getElem_cons_succ, Nat.reduceAdd] at haft hK ⊢)
     ·
      have cc0 := (box_cell (v := .bool b7) hb1 0 rfl).1
      have cc1 := (box_cell (v := .slice A7 n7 c7) hb1 1 rfl).1
      have cc2 := (box_cell (v := .int .i64 0) hb1 2 rfl).1
      have hb := yw W
      have key := hK.out (.agg #[.bool b7, .slice A7 n7 c7, .int .i64 0]) W (by rw [hGN]; exact ⟨hB.next hb, yb hb0 hb, yb hb1 hb, hk0.below hb, yu, (kD f1 hb), (kD f2 hb), (⟨fun h2 => yb (f3.1 (fun h3 => h2 (.inl h3))) hb, fun h2 => by rw [upd_ne v _ (by decide)]; obtain ⟨bb, A, n, c, x, y1, y2⟩ := f3.2 (yx h2); exact ⟨bb, A, n, c, x, y1, yb y2 hb⟩⟩)⟩)
      clear hb0 hb1 hk0 f0 f1 f2 f3 hb hK
      go_simp
      simpa [upd] using key
     ·
      have HALL := yk (ya hK (ya hB (ya hb0 ( ya hb1 ( ya hk0 ( ya f0 ( ya f1 ( ya f2 ( ya f3 (True.intro))))))))))
      clear hK hb0 hb1 hk0 f0 f1 f2 f3
      go_simp
      go_at_call 52
      refine (QI.out W hB).mono ?_
      rintro en w4 ⟨v1, rfl, hr, hb⟩
      obtain ⟨hK, hB, hb0, hb1, hk0, f0, f1, f2, f3, _⟩ := HALL.out
      have key := hK.out (v1) w4 (by rw [hGN]; exact ⟨hB.next hb, yb hb0 hb, yb hb1 hb, hk0.below hb, (kV f0), fun _ => by rw [upd_eq]; exact hr.lower (lw hB.2), (kD f2 hb), (⟨fun h2 => yb (f3.1 (fun h3 => h2 (.inl h3))) hb, fun h2 => by rw [upd_ne v _ (by decide)]; obtain ⟨bb, A, n, c, x, y1, y2⟩ := f3.2 (yx h2); exact ⟨bb, A, n, c, x, y1, yb y2 hb⟩⟩)⟩)
      clear hb0 hb1 hk0 f0 f1 f2 f3 hK HALL
      simpa [upd] using key
     ·
      have hns3 : ¬ L 3 := fun hs => hnk (hcl 3 _ rfl hs ⟨2, .data⟩ (by simp) rfl)
      have d0 := f0 (haft ⟨0, .data⟩ (by simp) rfl)
      have D0 := d0
      have d1 := f1 (haft ⟨1, .data⟩ (by simp) rfl)
      have D1 := d1
      have K0 := hk0
      have HALL := yk (ya hK (ya hB (ya hb0 ( ya hb1 ( ya hk0 ( ya f0 ( ya f1 ( ya f2 ( ya f3 (True.intro))))))))))
      clear hK hb0 hb1 hk0 f0 f1 f2 f3
      go_simp
      go_at_call 69
      refine (QT.out _ (v 1) W hB K0.c d1.c).mono ?_
      rintro en w4 ⟨v1, rfl, hr, hb⟩
      obtain ⟨hK, hB, hb0, hb1, hk0, f0, f1, f2, f3, _⟩ := HALL.out
      have key := hK.out (v1) w4 (by rw [hGN]; exact ⟨hB.next hb, yb hb0 hb, yb hb1 hb, hk0.below hb, (kV f0), (kD f1 hb), fun _ => by rw [upd_eq]; exact hr.lower (lw hB.2), (⟨fun h2 => yb (f3.1 (fun h3 => h2 (.inl h3))) hb, fun h2 => (hns3 (yx h2)).elim⟩)⟩)
      clear hb0 hb1 hk0 f0 f1 f2 f3 hK HALL
      simpa [upd, D0] using key
     ·
      have h_g := HGS.out
      have hgb := f3.1 hnk
      have ds := f2 (haft ⟨2, .data⟩ (by simp) rfl)
      obtain ⟨bb, A, n, c, x, es⟩ := ds.ex
      refine wp_store_box 27 2 (.tmp 26) rfl rfl (g := w.heap.size + 1) (e := 27) (v 2) [.bool bb, .slice A n c, .int .i64 x] (by first | rfl | exact rfl) rfl (by rw [es]; rfl) info_dyad ?_ hgb rfl ?_
      · intro q hq; simp at hq; rcases hq with rfl | rfl | rfl <;> rfl
      · intro w1 hw1 hg
        have key := hK.out undef w1 (by rw [hGN]; exact ⟨hB.grown hg (by omega), blk_grown hb0 hg (by omega), blk_grown hb1 hg (by omega), hk0.grown_box hgb (by decide) hg, (kV f0), (kG f1 hgb hg), (kG f2 hgb hg), ⟨fun h => (h (.inr rfl)).elim, fun _ => by rw [upd_ne v _ (by decide)]; exact ⟨bb, A, n, c, x, es, hw1⟩⟩⟩)
        clear hb0 hb1 hk0 f0 f1 f2 f3 hK
        simpa [upd] using key
    case hendN =>
     intro v W L0 hall hGv
     rw [hGN] at hGv
     obtain ⟨hB, _, _, _, _, _, f2, f3⟩ := hGv
     have d2 := f2 (hall 2 (by decide))
     obtain ⟨b8, A8, n8, c8, x8, p8, hx8⟩ := f3.2 (hall 3 (by decide))
     rw [p8] at d2
     have BEL := yk hB
     have XR := yk hx8
     have P8 := yk d2
     clear hall f2 f3 hB hx8 d2
     simp only [setAll, List.setIfInBounds_toArray, List.set_cons_zero, List.set_cons_succ, Nat.reduceAdd, p8]
     go_wp2
     refine bodyPost_ret (results_dyad rfl _ _ (w.heap.size + 1) _ rfl XR.out rfl) rfl ?_
     refine ⟨_, rfl, ?_, BEL.out.1⟩
     rw [HN.out, if_pos ⟨HOD.out, HCE.out⟩]
     exact P8.out
theorem at_two {n : Int} (h : 1 < cexp n 0) : n % 4 = 0 := by
 have h0 : n ≠ 0 := by rintro rfl; rw [cexp_zero] at h; omega
 obtain ⟨k, e1, e2, e3⟩ := of_form (e := 0) h0
 have hk : ∃ j, k = j + 2 := ⟨k - 2, by omega⟩
 obtain ⟨j, rfl⟩ := hk
 have h1 : n.natAbs = cman n * 2 ^ j * 4 := by
  have := congrArg Int.natAbs e2
  rw [sgn_abs, Nat.pow_add, ← Nat.mul_assoc] at this
  exact this
 generalize cman n * 2 ^ j = q at h1
 omega
theorem at_exp {n : Int} (h : ¬ 1 < cexp n 0) : ∃ s : Nat, (s = 0 ∨ s = 1) ∧ cexp n 0 = (s : Int) ∧ n.natAbs = cman n * 2 ^ s := by
 by_cases h0 : n = 0
 · subst h0; exact ⟨0, .inl rfl, by rw [cexp_zero]; rfl, by rw [cman_zero]; rfl⟩
 · obtain ⟨k, e1, e2, e3⟩ := of_form (e := 0) h0
   refine ⟨k, by omega, by omega, ?_⟩
   have := congrArg Int.natAbs e2
   rw [sgn_abs] at this
   exact this
theorem cman_ne {n : Int} (h : n ≠ 0) : cman n ≠ 0 := fun h1 => h (cman_eq_zero.1 h1)
theorem limbs_len_pos {m : Nat} (h : m ≠ 0) : 0 < (limbs m).length := by rw [limbs_pos h]; exact Nat.succ_pos _
theorem limbs_zeroth {m x : Nat} (h0 : m ≠ 0) (h : (limbs m)[0]? = some x) : x = m % 2 ^ 64 := by
 rw [limbs_pos h0] at h
 exact (Option.some.inj h).symm

theorem i64_and3 (n : Int) : bits .and .i64 n 3 = n % 4 := by
 have h3 : (BitVec.ofInt 64 3).toNat = 2 ^ 2 - 1 := by decide
 have key : (BitVec.ofInt 64 n &&& BitVec.ofInt 64 3).toNat = (n % ((2 ^ 64 : Nat) : Int)).toNat % 2 ^ 2 := by
  rw [BitVec.toNat_and, BitVec.toNat_ofInt, h3, Nat.and_two_pow_sub_one_eq_mod]
 show IntKind.i64.wrap ((BitVec.ofInt 64 n &&& BitVec.ofInt 64 3).toNat : Nat) = n % 4
 rw [key, IntKind.wrap_i64]
 omega
theorem u64_wrap (n : Int) : IntKind.u64.wrap n = n % 18446744073709551616 := by simp [IntKind.wrap, IntKind.bits, IntKind.signed]
theorem by4_pos {n t : Int} {x s : Nat} (hx : x = cman n % 2 ^ 64) (h : n.natAbs = cman n * 2 ^ s) (hs : s = 0 ∨ s = 1) (hb : false = cneg n) (ht : t = (x : Int) * 2 ^ s) : bits .and .i64 (wrap64 (IntKind.u64.wrap t)) 3 = n % 4 := by
 have hn : 0 ≤ n := by
  have := of_decide_eq_false hb.symm
  omega
 rw [i64_and3, u64_wrap]
 unfold wrap64
 generalize cman n = m at hx h
 rcases hs with rfl | rfl
 · simp at ht h; omega
 · simp at ht h; omega
theorem by4_neg {n t : Int} {x s : Nat} (hx : x = cman n % 2 ^ 64) (h : n.natAbs = cman n * 2 ^ s) (hs : s = 0 ∨ s = 1) (hb : true = cneg n) (ht : t = (x : Int) * 2 ^ s) : bits .and .i64 (wrap64 (-bits .and .i64 (wrap64 (IntKind.u64.wrap t)) 3)) 3 = n % 4 := by
 have hn : n < 0 := of_decide_eq_true hb.symm
 rw [i64_and3, i64_and3, u64_wrap]
 unfold wrap64
 generalize cman n = m at hx h
 rcases hs with rfl | rfl
 · simp at ht h; omega
 · simp at ht h; omega

theorem by4_ok {v : Value} {n : Int} {w : World} (h : CDy w v n 0) (o : Ok n 0) (hT : TabAt 0 Lib.deBruijn64tab w) :
 Calls Tryz.prog 111 #[v] w fun en w' => en = .returned (.int .i64 (n % 4)) ∧ Below w.heap.size w w' := by
 obtain ⟨b0, A, n0, c, x0, rfl⟩ := h.ex
 have HCD := yk h
 have HT := yk hT
 have OO := yk o
 clear h hT o
 go_enter Tryz.func111, Tryz.ntmps111
 obtain ⟨BEL, X0⟩ := al1 w 1 #[.bool b0, .slice A n0 c, .int .i64 x0] 27
 obtain ⟨q0, q0', q1, q1', q2, q2'⟩ := bc3 X0.out
 go_wp2_with fail
 clear q0 q0' q1 q1' q2 q2'
 go_at_call 87
 refine (one_ok (HCD.out.below BEL.out.1) OO.out (tab_below HT.out BEL.out.1)).mono ?_
 rintro en1 w1 ⟨v1, rfl, hr, hb⟩
 replace BEL := yk (BEL.out.next hb)
 replace X0 := yk (yb X0.out hb)
 have P1 := yk hr
 obtain ⟨b1, A1, n1, c1, x1, rfl⟩ := hr.ex
 clear hr hb
 obtain ⟨eb, ex, -⟩ := CDy.parts P1.out.c
 have HXE := yk ex
 have HBE := yk eb
 clear eb ex
 go_wp2_with (((with_reducible refine gate_store (p := 1) rfl ?_); go_must (refine sdy 1 (.tmp 5) rfl rfl rfl rfl rfl X0.out rfl ?_; intro wb HX HG)); replace P1 := yk (P1.out.grown_box X0.out (by decide) HG.out); replace BEL := yk (BEL.out.grown HG.out (by omega)); replace X0 := HX; clear HG; obtain ⟨q3, q3', q4, q4', q5, q5'⟩ := bc3 X0.out)
 clear q3 q3' q4 q4' q5 q5'
 go_at_call 27
 refine (zero_ok P1.out.c OO.out).mono ?_
 rintro en2 w2 ⟨rfl, hb⟩
 replace BEL := yk (BEL.out.next hb)
 replace X0 := yk (yb X0.out hb)
 replace P1 := yk (P1.out.below hb)
 clear hb
 by_cases hn0 : n = 0
 · have hd : decide (n = 0) = true := decide_eq_true hn0
   have HN0 := yk hn0
   clear hn0
   obtain ⟨q6, q6', q7, q7', q8, q8'⟩ := bc3 X0.out
   go_wp2_with fail
   go_ret
   exact ⟨ret_int (by rw [HN0.out]; rfl), BEL.out.1⟩
 · have hd : decide (n = 0) = false := decide_eq_false hn0
   have HN0 := yk hn0
   clear hn0
   by_cases hx1 : 1 < x1
   · have hd1 : decide (1 < x1) = true := decide_eq_true hx1
     have HX1 := yk hx1
     obtain ⟨q6, q6', q7, q7', q8, q8'⟩ := bc3 X0.out
     go_wp2_with fail
     go_ret
     exact ⟨ret_int (by rw [at_two (by rw [← HXE.out]; exact HX1.out)]), BEL.out.1⟩
   · have hd1 : decide (1 < x1) = false := decide_eq_false hx1
     obtain ⟨s, hs, es, en⟩ := at_exp (n := n) (by rw [← HXE.out]; exact hx1)
     rw [← HXE.out] at es
     have HES := yk en
     obtain ⟨-, -, hC1, hC2, -⟩ := CDy.parts P1.out.c
     have hp1 : 0 < n1 := by rw [← hC2]; exact limbs_len_pos (cman_ne HN0.out)
     obtain ⟨ad, x, hA, hx0, hcell⟩ := at_word hC1 hC2 0 hp1
     subst hA
     have hz0 : ad.add 0 = ad := by simp [Addr.add]
     rw [hz0] at hcell
     clear hz0
     have HXW := yk (limbs_zeroth (cman_ne HN0.out) hx0)
     clear en hC1 hC2 hx0 hx1
     rcases hs with rfl | rfl
     · replace es : x1 = 0 := es
       subst es
       obtain ⟨q6, q6', q7, q7', q8, q8'⟩ := bc3 X0.out
       go_wp2_with fail
       go_quiet (fail)
       clear q6 q6' q7 q7' q8 q8'
       replace BEL := yk (BEL.out.next (quiet_below ⟨nq, rfl⟩))
       replace X0 := yk (yb X0.out (quiet_below ⟨nq, rfl⟩))
       replace P1 := yk (P1.out.below (quiet_below ⟨nq, rfl⟩))
       cases b1
       case false =>
        obtain ⟨q9, q9', q10, q10', q11, q11'⟩ := bc3 X0.out
        go_wp2_with fail
        go_ret
        exact ⟨ret_int (by4_pos HXW.out HES.out (.inl rfl) HBE.out (by simp)), BEL.out.1⟩
       case true =>
        obtain ⟨q9, q9', q10, q10', q11, q11'⟩ := bc3 X0.out
        go_wp2_with fail
        go_ret
        exact ⟨ret_int (by4_neg HXW.out HES.out (.inl rfl) HBE.out (by simp)), BEL.out.1⟩
     · replace es : x1 = 1 := es
       subst es
       obtain ⟨q6, q6', q7, q7', q8, q8'⟩ := bc3 X0.out
       go_wp2_with fail
       go_quiet (fail)
       clear q6 q6' q7 q7' q8 q8'
       replace BEL := yk (BEL.out.next (quiet_below ⟨nq, rfl⟩))
       replace X0 := yk (yb X0.out (quiet_below ⟨nq, rfl⟩))
       replace P1 := yk (P1.out.below (quiet_below ⟨nq, rfl⟩))
       cases b1
       case false =>
        obtain ⟨q9, q9', q10, q10', q11, q11'⟩ := bc3 X0.out
        go_wp2_with fail
        go_ret
        exact ⟨ret_int (by4_pos HXW.out HES.out (.inr rfl) HBE.out (by simp)), BEL.out.1⟩
       case true =>
        obtain ⟨q9, q9', q10, q10', q11, q11'⟩ := bc3 X0.out
        go_wp2_with fail
        go_ret
        exact ⟨ret_int (by4_neg HXW.out HES.out (.inr rfl) HBE.out (by simp)), BEL.out.1⟩
theorem lt_blk {w : World} {g : Nat} {o : Obj} (h : w.heap[g]? = some o) : g < w.heap.size := by
 refine Classical.byContradiction fun hc => ?_
 rw [Array.getElem?_eq_none (by omega)] at h
 cases h
/-- A value that is told: z * 2^e, and whether it is told at all. -/
def PT (w : World) (b : Nat) (v : Value) (z e : Int) (s : Bool) : Prop :=
 ∃ bb A n c x, v = .agg #[.bool bb, .slice A n c, .int .i64 x, .bool s] ∧ PDy w b (.agg #[.bool bb, .slice A n c, .int .i64 x]) z e
section
variable {w w1 : World} {b b' g : Nat} {v : Value} {z e : Int} {s : Bool}
theorem PT.ex5 (h : PT w b v z e s) : ∃ bb A n c x, v = .agg #[.bool bb, .slice A n c, .int .i64 x, .bool s] := by
 obtain ⟨bb, A, n, c, x, rfl, _⟩ := h; exact ⟨_, _, _, _, _, rfl⟩
theorem PT.ex (h : PT w b v z e s) : ∃ bb A n c x b2, v = .agg #[.bool bb, .slice A n c, .int .i64 x, .bool b2] := by
 obtain ⟨bb, A, n, c, x, rfl, _⟩ := h; exact ⟨_, _, _, _, _, _, rfl⟩
theorem PT.below (h : PT w b v z e s) (hb : Below w.heap.size w w1) : PT w1 b v z e s := by
 obtain ⟨bb, A, n, c, x, rfl, h⟩ := h; exact ⟨_, _, _, _, _, rfl, h.below hb⟩
theorem PT.lower (h : PT w b v z e s) (hb : b' ≤ b) : PT w b' v z e s := by
 obtain ⟨bb, A, n, c, x, rfl, h⟩ := h; exact ⟨_, _, _, _, _, rfl, h.lower hb⟩
theorem PT.grown_box {t : TypeId} {cells : Array Value} (h : PT w b v z e s) (hb : w.heap[g]? = some (.cells cells t (0, 0))) (ht : 23 ≠ t) (hg : w.grownBy w1 (some g)) : PT w1 b v z e s := by
 obtain ⟨bb, A, n, c, x, rfl, h⟩ := h; exact ⟨_, _, _, _, _, rfl, h.grown_box hb ht hg⟩
theorem agg4_inj {a1 a2 a3 a4 b1 b2 b3 b4 : Value} (h : Value.agg #[a1, a2, a3, a4] = .agg #[b1, b2, b3, b4]) : a1 = b1 ∧ a2 = b2 ∧ a3 = b3 ∧ a4 = b4 := by
 injection h with h
 simp at h
 exact h
theorem PT.d {bb : Bool} {A : Option Addr} {n c : Nat} {x : Int} {s' : Bool} (h : PT w b (.agg #[.bool bb, .slice A n c, .int .i64 x, .bool s']) z e s) : PDy w b (.agg #[.bool bb, .slice A n c, .int .i64 x]) z e ∧ s' = s := by
 obtain ⟨bb', A', n', c', x', h1, h2⟩ := h
 obtain ⟨e1, e2, e3, e4⟩ := agg4_inj h1
 rw [e1, e2, e3]
 injection e4 with e4
 exact ⟨h2, e4⟩
theorem PT.of {bb : Bool} {A : Option Addr} {n c : Nat} {x : Int} (h : PDy w b (.agg #[.bool bb, .slice A n c, .int .i64 x]) z e) (s : Bool) : PT w b (.agg #[.bool bb, .slice A n c, .int .i64 x, .bool s]) z e s := ⟨_, _, _, _, _, rfl, h⟩
theorem PT.none (w : World) (b : Nat) (e : Int) : PT w b (.agg #[.bool false, .slice none 0 0, .int .i64 0, .bool false]) 0 e false := PT.of (PDy.zero w b e) false
/-- A place on the circle: k quarters, and what is left. -/
def PS (w : World) (b : Nat) (v : Value) (k z e : Int) : Prop :=
 ∃ bb A n c x, v = .agg #[.int .i64 k, .bool bb, .slice A n c, .int .i64 x] ∧ PDy w b (.agg #[.bool bb, .slice A n c, .int .i64 x]) z e
theorem PS.ex5 {k : Int} (h : PS w b v k z e) : ∃ bb A n c x, v = .agg #[.int .i64 k, .bool bb, .slice A n c, .int .i64 x] := by
 obtain ⟨bb, A, n, c, x, rfl, _⟩ := h; exact ⟨_, _, _, _, _, rfl⟩
theorem PS.below {k : Int} (h : PS w b v k z e) (hb : Below w.heap.size w w1) : PS w1 b v k z e := by
 obtain ⟨bb, A, n, c, x, rfl, h⟩ := h; exact ⟨_, _, _, _, _, rfl, h.below hb⟩
theorem PS.lower {k : Int} (h : PS w b v k z e) (hb : b' ≤ b) : PS w b' v k z e := by
 obtain ⟨bb, A, n, c, x, rfl, h⟩ := h; exact ⟨_, _, _, _, _, rfl, h.lower hb⟩
theorem PS.grown_box {k : Int} {t : TypeId} {cells : Array Value} (h : PS w b v k z e) (hb : w.heap[g]? = some (.cells cells t (0, 0))) (ht : 23 ≠ t) (hg : w.grownBy w1 (some g)) : PS w1 b v k z e := by
 obtain ⟨bb, A, n, c, x, rfl, h⟩ := h; exact ⟨_, _, _, _, _, rfl, h.grown_box hb ht hg⟩
theorem PS.d {k k' : Int} {bb : Bool} {A : Option Addr} {n c : Nat} {x : Int} (h : PS w b (.agg #[.int .i64 k', .bool bb, .slice A n c, .int .i64 x]) k z e) : PDy w b (.agg #[.bool bb, .slice A n c, .int .i64 x]) z e ∧ k' = k := by
 obtain ⟨bb', A', n', c', x', h1, h2⟩ := h
 obtain ⟨e1, e2, e3, e4⟩ := agg4_inj h1
 rw [e2, e3, e4]
 injection e1 with _ e1
 exact ⟨h2, e1⟩
theorem PS.of {k : Int} {bb : Bool} {A : Option Addr} {n c : Nat} {x : Int} (h : PDy w b (.agg #[.bool bb, .slice A n c, .int .i64 x]) z e) : PS w b (.agg #[.int .i64 k, .bool bb, .slice A n c, .int .i64 x]) k z e := ⟨_, _, _, _, _, rfl, h⟩
end
/-- The value of a struct's cells among results. -/
theorem Vals.box {P : Program} {tmps : Array Value} {w : World} {p : Tmp} {t : TypeId} {rs : List ResultVar} {vs : List Value} {n g : Nat} {cs : Array Value} (hany : (P.underlying t).any (fun d => match d with | .struct _ | .array _ _ => true | _ => false) = true) (hi : (P.info? t).map (·.size) = some n)
 (hp : tmps.getD p undef = .pointer (some ⟨g, 0, none⟩)) (hg : w.heap[g]? = some (.cells cs t (0, 0))) (hs : cs.size = n) (h : Vals P tmps w rs vs) : Vals P tmps w (.cell p t :: rs) (.agg cs :: vs) := by
 obtain ⟨d, hu, hd⟩ : ∃ d, P.underlying t = some d ∧ (match d with | .struct _ | .array _ _ => true | _ => false) = true := by
  cases hd : P.underlying t with
  | none => rw [hd] at hany; cases hany
  | some d => rw [hd] at hany; exact ⟨d, rfl, hany⟩
 refine .cell g t cs (0, 0) d hp hg hu ?_ (by rw [hs]; exact hi) h
 revert hu hd
 cases d <;> intro hu hd <;> first | rfl | cases hd
theorem any_told : (Tryz.prog.underlying 40).any (fun d => match d with | .struct _ | .array _ _ => true | _ => false) = true := by kernel_rfl
theorem any_spot : (Tryz.prog.underlying 65).any (fun d => match d with | .struct _ | .array _ _ => true | _ => false) = true := by kernel_rfl
theorem results_told {fn : Func} {p : Tmp} (h : fn.results = #[.cell p 40]) (tmps : Array Value) (w : World) (g : Nat) (cs : Array Value) (hp : tmps.getD p undef = .pointer (some ⟨g, 0, none⟩)) (hg : w.heap[g]? = some (.cells cs 40 (0, 0))) (hs : cs.size = 4) :
 (results fn tmps).run Tryz.prog w = .ok (.agg cs) w := results_single h (Vals.box any_told info_told hp hg hs .nil)
theorem results_spot {fn : Func} {p : Tmp} (h : fn.results = #[.cell p 65]) (tmps : Array Value) (w : World) (g : Nat) (cs : Array Value) (hp : tmps.getD p undef = .pointer (some ⟨g, 0, none⟩)) (hg : w.heap[g]? = some (.cells cs 65 (0, 0))) (hs : cs.size = 4) :
 (results fn tmps).run Tryz.prog w = .ok (.agg cs) w := results_single h (Vals.box any_spot info_spot hp hg hs .nil)

theorem number_any {w : World} {b : Nat} {v : Value} {z e : Int} (h : PDy w b v z e) :
 Calls Tryz.prog 64 #[v] w fun en w' => ∃ v', en = .returned v' ∧ PT w' b v' z e true ∧ Below w.heap.size w w' := by
 obtain ⟨b0, A, n, c, x0, rfl⟩ := h.ex
 have P0 := yk (h.below (below_alloc (below_alloc yr (.cells #[.bool b0, .slice A n c, .int .i64 x0] 27)) (.cells #[.bool false, .slice none 0 0, .int .i64 0, .bool false] 40)))
 clear h
 go_enter Tryz.func64, Tryz.ntmps64
 obtain ⟨BEL, X0, XR⟩ := al2 w 2 #[.bool b0, .slice A n c, .int .i64 x0] 27 #[.bool false, .slice none 0 0, .int .i64 0, .bool false] 40
 obtain ⟨q0, q0', q1, q1', q2, q2'⟩ := bc3 X0.out
 go_wp2_with (clear q0 q0' q1 q1' q2 q2'; ((with_reducible refine gate_store (p := 2) rfl ?_); go_must (refine store_box 40 2 (.tmp 4) rfl rfl rfl (g := w.heap.size + 1) (e := 40) (.agg #[.bool b0, .slice A n c, .int .i64 x0, .bool true]) ([.bool b0, .slice A n c, .int .i64 x0, .bool true]) rfl rfl rfl info_told ?b1 XR.out rfl ?_; (case b1 => intro q hq; simp at hq; rcases hq with rfl | rfl | rfl | rfl <;> rfl); intro wb hbx hgx; have HX := yk hbx; have HG := yk hgx; clear hbx hgx)); replace P0 := yk (P0.out.grown_box XR.out (by decide) HG.out); replace BEL := yk (BEL.out.grown HG.out (by omega)); replace X0 := yk (blk_grown X0.out HG.out (by omega)); replace XR := HX; clear HG)
 refine bodyPost_ret (results_told rfl _ _ (w.heap.size + 1) _ rfl XR.out rfl) rfl ?_
 exact ⟨_, rfl, PT.of P0.out true, BEL.out.1⟩

theorem whole_any (n : Int) (w : World) (h1 : -9223372036854775808 ≤ n) (h2 : n < 9223372036854775808) (hT : TabAt 0 Lib.deBruijn64tab w) :
 Calls Tryz.prog 32 #[.int .i64 n] w fun en w' => ∃ v', en = .returned v' ∧ PT w' w.heap.size v' n 0 true ∧ Below w.heap.size w w' := by
 have H1 := yk h1
 have H2 := yk h2
 have HT := yk hT
 clear h1 h2 hT
 go_enter Tryz.func32, Tryz.ntmps32
 obtain ⟨BEL, XR⟩ := al1 w 1 #[.bool false, .slice none 0 0, .int .i64 0, .bool false] 40
 go_wp2_with fail
 go_at_call 52
 refine (pint_dy n _ H1.out H2.out (tab_below HT.out BEL.out.1)).mono ?_
 rintro en1 w1 ⟨v1, rfl, hr, hb⟩
 replace BEL := yk (BEL.out.next hb)
 replace XR := yk (yb XR.out hb)
 have P1 := yk hr
 obtain ⟨b1, A1, n1, c1, x1, rfl⟩ := hr.ex
 clear hr hb
 go_wp2_with fail
 go_at_call 64
 refine (number_any P1.out).mono ?_
 rintro en2 w2 ⟨v2, rfl, hr, hb⟩
 replace BEL := yk (BEL.out.next hb)
 replace XR := yk (yb XR.out hb)
 replace P1 := yk (P1.out.below hb)
 have P2 := yk hr
 obtain ⟨b2, A2, n2, c2, x2, rfl⟩ := hr.ex5
 clear hr hb
 go_wp2_with (((with_reducible refine gate_store (p := 2) rfl ?_); go_must (refine store_box 40 2 (.tmp 5) rfl rfl rfl (g := w.heap.size) (e := 40) (.agg #[.bool b2, .slice A2 n2 c2, .int .i64 x2, .bool true]) ([.bool b2, .slice A2 n2 c2, .int .i64 x2, .bool true]) rfl rfl rfl info_told ?b1 XR.out rfl ?_; (case b1 => intro q hq; simp at hq; rcases hq with rfl | rfl | rfl | rfl <;> rfl); intro wb hbx hgx; have HX := yk hbx; have HG := yk hgx; clear hbx hgx)); replace P1 := yk (P1.out.grown_box XR.out (by decide) HG.out); replace P2 := yk (P2.out.grown_box XR.out (by decide) HG.out); replace BEL := yk (BEL.out.grown HG.out (by omega)); replace XR := HX; clear HG)
 refine bodyPost_ret (results_told rfl _ _ (w.heap.size) _ rfl XR.out rfl) rfl ?_
 exact ⟨_, rfl, P2.out.lower (by rw [size_alloc']; omega), BEL.out.1⟩

theorem part_any (n k : Int) (w : World) (h1 : n.natAbs < 2 ^ 62) (h2 : 0 ≤ k) (h3 : k ≤ 60000) (hT : TabAt 0 Lib.deBruijn64tab w) :
 Calls Tryz.prog 40 #[.int .i64 n, .int .i64 k] w fun en w' => ∃ v', en = .returned v' ∧ PT w' w.heap.size v' n (0 + -k) true ∧ Below w.heap.size w w' := by
 have O1 := yk (Ok.of (e := 0) 62 h1 (by decide) (by decide) (by decide))
 have H1 := yk (show -9223372036854775808 ≤ n by omega)
 have H2 := yk (show n < 9223372036854775808 by omega)
 have HK := yk (ya h2 h3)
 have hw : wrap64 (-k) = -k := by unfold wrap64; omega
 have HT := yk hT
 clear h1 h2 h3 hT
 go_enter Tryz.func40, Tryz.ntmps40
 obtain ⟨BEL, XR⟩ := al1 w 1 #[.bool false, .slice none 0 0, .int .i64 0, .bool false] 40
 go_wp2_with fail
 go_at_call 52
 refine (pint_dy n _ H1.out H2.out (tab_below HT.out BEL.out.1)).mono ?_
 rintro en1 w1 ⟨v1, rfl, hr, hb⟩
 replace BEL := yk (BEL.out.next hb)
 replace XR := yk (yb XR.out hb)
 have P1 := yk hr
 obtain ⟨b1, A1, n1, c1, x1, rfl⟩ := hr.ex
 clear hr hb
 go_wp2_with fail
 go_at_call 75
 refine (shift_ok (-k) P1.out.c O1.out (by have := HK.out; omega) (by have := HK.out; omega) (tab_below HT.out BEL.out.1)).mono ?_
 have BL2 := BEL
 rintro en2 w2 ⟨v2, rfl, hr, hb⟩
 replace BEL := yk (BEL.out.next hb)
 replace XR := yk (yb XR.out hb)
 replace P1 := yk (P1.out.below hb)
 have P2 := yk hr
 obtain ⟨b2, A2, n2, c2, x2, rfl⟩ := hr.ex
 clear hr hb
 go_wp2_with fail
 go_at_call 64
 refine (number_any P2.out).mono ?_
 rintro en3 w3 ⟨v3, rfl, hr, hb⟩
 replace BEL := yk (BEL.out.next hb)
 replace XR := yk (yb XR.out hb)
 replace P1 := yk (P1.out.below hb)
 replace P2 := yk (P2.out.below hb)
 have P3 := yk hr
 obtain ⟨b3, A3, n3, c3, x3, rfl⟩ := hr.ex5
 clear hr hb
 go_wp2_with (((with_reducible refine gate_store (p := 4) rfl ?_); go_must (refine store_box 40 4 (.tmp 10) rfl rfl rfl (g := w.heap.size) (e := 40) (.agg #[.bool b3, .slice A3 n3 c3, .int .i64 x3, .bool true]) ([.bool b3, .slice A3 n3 c3, .int .i64 x3, .bool true]) rfl rfl rfl info_told ?b1 XR.out rfl ?_; (case b1 => intro q hq; simp at hq; rcases hq with rfl | rfl | rfl | rfl <;> rfl); intro wb hbx hgx; have HX := yk hbx; have HG := yk hgx; clear hbx hgx)); replace P1 := yk (P1.out.grown_box XR.out (by decide) HG.out); replace P2 := yk (P2.out.grown_box XR.out (by decide) HG.out); replace P3 := yk (P3.out.grown_box XR.out (by decide) HG.out); replace BEL := yk (BEL.out.grown HG.out (by omega)); replace XR := HX; clear HG)
 refine bodyPost_ret (results_told rfl _ _ (w.heap.size) _ rfl XR.out rfl) rfl ?_
 exact ⟨_, rfl, P3.out.lower (Nat.le_trans (Nat.le_add_right _ _) BL2.out.2), BEL.out.1⟩

theorem is_any {v : Value} {z : Int} {w : World} (n : Int) (h : CDy w v z (-1074)) (o : Ok z (-1074)) (hn : n.natAbs < 2 ^ 62) (hT : TabAt 0 Lib.deBruijn64tab w) :
 Calls Tryz.prog 63 #[v, .int .i64 n] w fun en w' => en = .returned (.bool (decide (z = n * 2 ^ 1074))) ∧ Below w.heap.size w w' := by
 obtain ⟨b0, A, n0, c, x0, rfl⟩ := h.ex
 have HCD := yk h
 have OO := yk o
 have O2 := yk (Ok.of (e := -1074) _ (sm_mul (k := 1074) hn) (by decide) (by decide) (by decide))
 have H1 := yk (show -9223372036854775808 ≤ n by omega)
 have H2 := yk (show n < 9223372036854775808 by omega)
 have HT := yk hT
 obtain ⟨u, hu⟩ : ∃ u : Int, u = n * 2 ^ 1074 := ⟨_, rfl⟩
 have HP := yk (fun (v : Value) (b : Nat) (W : World) (h : PDy W b v n 0) => (by
  have q := PDy.scale (e := -1074) 1074 h
  rw [← hu] at q; exact q : PDy W b v u (-1074)))
 have HC : Aside0 ((cmpZ z u == 0) = decide (z = u)) := ⟨cmpZ_zero _ _⟩
 rw [← hu] at O2 ⊢
 clear h o hn hT hu
 go_enter Tryz.func63, Tryz.ntmps63
 go_upto_region 1 with fail
 obtain ⟨BEL, X0⟩ := al1 w 1 #[.bool b0, .slice A n0 c, .int .i64 x0] 27
 obtain ⟨GM, hGM⟩ : ∃ G : (Nat → Prop) → (Nat → Value) → World → Prop, G = fun L v W => BelN w 1 W ∧ W.heap[w.heap.size]? = some (.cells #[.bool b0, .slice A n0 c, .int .i64 x0] 27 (0, 0)) ∧ (L 0 → (v 0) = .agg #[.bool b0, .slice A n0 c, .int .i64 x0]) ∧ (L 1 → (v 1) = .int .i64 n) ∧ (L 2 → PDy W w.heap.size (v 2) u (-1074)) ∧ (L 3 → (v 3) = .int .i64 (cmpZ z u)) ∧ (L 4 → (v 4) = .bool (decide (z = u))) ∧ (L 5 → (v 5) = .bool (decide (z = u))) := ⟨_, rfl⟩
 refine wp_region_slotsV [5, 6, 7, 8, 9, 4] (by kernel_rfl) (by kernel_rfl) (G := GM) ?h0M ?hstepM ?hendM
 case h0M =>
  intro v; rw [hGM]
  exact ⟨BEL.out.next (below_drew yr), blk_drew X0.out, fun h => h.elim, fun h => h.elim, fun h => h.elim, fun h => h.elim, fun h => h.elim, fun h => h.elim⟩
 case hstepM =>
  intro k o ho v W L hGv hnk haft hcl K hK
  rw [hGM] at hGv
  obtain ⟨hB, hb0, f0, f1, f2, f3, f4, f5⟩ := hGv
  rcases k with _ | _ | _ | _ | _ | _ | k
  all_goals first
   | (cases ho; done)
   | (obtain rfl := (Option.some.inj ho).symm
      clear ho
      rw [if_pos (by rfl)]
      simp only [setAll, List.setIfInBounds_toArray, List.set_cons_zero, List.set_cons_succ, List.set_nil, List.getElem_toArray, List.getElem_cons_zero, List.getElem_cons_succ, Nat.reduceAdd] at haft hK ⊢)
  ·
   have cc0 := (box_cell (v := .bool b0) hb0 0 rfl).1
   have cc1 := (box_cell (v := .slice A n0 c) hb0 1 rfl).1
   have cc2 := (box_cell (v := .int .i64 x0) hb0 2 rfl).1
   have hb := yw W
   have key := hK.out (.agg #[.bool b0, .slice A n0 c, .int .i64 x0]) W (by rw [hGM]; exact ⟨hB.next hb, yb hb0 hb, yu, (kV f1), (kD f2 hb), (kV f3), (kV f4), (kV f5)⟩)
   clear hb0 f0 f1 f2 f3 f4 f5 hb hK
   go_simp
   simpa [upd] using key
  ·
   have hb := yw W
   have key := hK.out (.int .i64 n) W (by rw [hGM]; exact ⟨hB.next hb, yb hb0 hb, (kV f0), yu, (kD f2 hb), (kV f3), (kV f4), (kV f5)⟩)
   clear hb0 f0 f1 f2 f3 f4 f5 hb hK
   go_simp
   simpa [upd] using key
  ·
   have d1 := f1 (haft ⟨1, .data⟩ (by simp) rfl)
   have D1 := d1
   have HALL := yk (ya hK (ya hB (ya hb0 ( ya f0 ( ya f1 ( ya f2 ( ya f3 ( ya f4 ( ya f5 (True.intro))))))))))
   clear hK hb0 f0 f1 f2 f3 f4 f5
   go_simp
   go_at_call 52
   refine (pint_dy n _ H1.out H2.out (tab_below HT.out hB.1)).mono ?_
   rintro en w4 ⟨v1, rfl, hr, hb⟩
   obtain ⟨hK, hB, hb0, f0, f1, f2, f3, f4, f5, _⟩ := HALL.out
   have key := hK.out (v1) w4 (by rw [hGM]; exact ⟨hB.next hb, yb hb0 hb, (kV f0), (kV f1), fun _ => by rw [upd_eq]; exact (HP.out _ _ _ hr).lower (lw hB.2), (kV f3), (kV f4), (kV f5)⟩)
   clear hb0 f0 f1 f2 f3 f4 f5 hK HALL
   simpa [upd, D1] using key
  ·
   have d0 := f0 (haft ⟨0, .data⟩ (by simp) rfl)
   have D0 := d0
   have d2 := f2 (haft ⟨2, .data⟩ (by simp) rfl)
   have D2 := d2
   have HALL := yk (ya hK (ya hB (ya hb0 ( ya f0 ( ya f1 ( ya f2 ( ya f3 ( ya f4 ( ya f5 (True.intro))))))))))
   clear hK hb0 f0 f1 f2 f3 f4 f5
   go_simp
   go_at_call 51
   refine (cmp_ok (HCD.out.below hB.1) d2.c OO.out O2.out (tab_below HT.out hB.1)).mono ?_
   rintro en w4 ⟨rfl, hb⟩
   obtain ⟨hK, hB, hb0, f0, f1, f2, f3, f4, f5, _⟩ := HALL.out
   have key := hK.out (.int .i64 (cmpZ z u)) w4 (by rw [hGM]; exact ⟨hB.next hb, yb hb0 hb, (kV f0), (kV f1), (kD f2 hb), yu, (kV f4), (kV f5)⟩)
   clear hb0 f0 f1 f2 f3 f4 f5 hK HALL
   simpa [upd, D0] using key
  ·
   have d3 := f3 (haft ⟨3, .data⟩ (by simp) rfl)
   have D3 := d3
   have hcz := HC.out
   have hb := yw W
   have key := hK.out (.bool (decide (z = u))) W (by rw [hGM]; exact ⟨hB.next hb, yb hb0 hb, (kV f0), (kV f1), (kD f2 hb), (kV f3), yu, (kV f5)⟩)
   clear hb0 f0 f1 f2 f3 f4 f5 hb hK
   go_simp
   simpa [upd, D3] using key
  ·
   have d4 := f4 (haft ⟨4, .data⟩ (by simp) rfl)
   have D4 := d4
   have hb := yw W
   have key := hK.out (.bool (decide (z = u))) W (by rw [hGM]; exact ⟨hB.next hb, yb hb0 hb, (kV f0), (kV f1), (kD f2 hb), (kV f3), (kV f4), yu⟩)
   clear hb0 f0 f1 f2 f3 f4 f5 hb hK
   go_simp
   simpa [upd, D4] using key
 case hendM =>
  intro v W L0 hall hGv
  rw [hGM] at hGv
  obtain ⟨hB, hb0, f0, f1, f2, f3, f4, f5⟩ := hGv
  have d5 := f5 (hall 5 (by decide))
  have BEL := yk hB
  clear hall f0 f1 f2 f3 f4 f5 hB hb0
  simp only [setAll, List.setIfInBounds_toArray, List.set_cons_zero, List.set_cons_succ, Nat.reduceAdd, d5]
  go_wp2
  go_ret
  exact ⟨rfl, BEL.out.1⟩

theorem is_fn (f : Nat) (hf : f < 256) (w : World) :
 Calls Tryz.prog 9 #[.int .u8 f] w fun en w' => en = .returned (.bool (decide (1 ≤ f ∧ f ≤ 30))) ∧ Below w.heap.size w w' := by
 have hb0 := yk (Below.refl w.heap.size w)
 by_cases h1 : 1 ≤ f
 · by_cases h2 : f ≤ 30
   · have d1 : decide ((1 : Int) ≤ f) = true := decide_eq_true (by omega)
     have d2 : decide ((f : Int) ≤ 30) = true := decide_eq_true (by omega)
     go_enter Tryz.func9, Tryz.ntmps9
     go_wp2
     go_ret
     exact ⟨ret_bool (decide_eq_true ⟨h1, h2⟩).symm, hb0.out⟩
   · have d1 : decide ((1 : Int) ≤ f) = true := decide_eq_true (by omega)
     have d2 : decide ((f : Int) ≤ 30) = false := decide_eq_false (by omega)
     go_enter Tryz.func9, Tryz.ntmps9
     go_wp2
     go_ret
     exact ⟨ret_bool (decide_eq_false (fun h => h2 h.2)).symm, hb0.out⟩
 · have d1 : decide ((1 : Int) ≤ f) = false := decide_eq_false (by omega)
   go_enter Tryz.func9, Tryz.ntmps9
   go_wp2
   go_ret
   exact ⟨ret_bool (decide_eq_false (fun h => h1 h.1)).symm, hb0.out⟩
theorem nearF_small {z : Int} {k n : Nat} (hz : z.natAbs < 2 ^ n) (hk : k + 1 ≤ n) : (nearF z k).natAbs < 2 ^ (n + 3) := by
 have h1 : ((2 : Int) ^ k).natAbs < 2 ^ n := sm_le (sm_pow k) hk
 have h2 := sm_div (k := k + 1) (sm_add hz h1)
 have h3 : (2 : Nat) ^ (n + 3) = 2 ^ (n + 1 + 1) * 2 := rfl
 have h4 := Nat.two_pow_pos (n + 1 + 1)
 unfold nearF
 generalize (z + 2 ^ k) / 2 ^ (k + 1) = m at *
 split <;> omega
theorem fits_lo {z : Int} {e : Int} (he : -2000 ≤ e) : -32768 ≤ cexp z e := by
 by_cases h0 : z = 0
 · subst h0; rw [cexp_zero]; decide
 · obtain ⟨k, h1, _⟩ := of_form (e := e) h0
   omega
theorem fits_hi {z : Int} {e : Int} {n : Nat} (hz : z.natAbs < 2 ^ n) (he : e ≤ 2000) (hn : n ≤ 30000) : cexp z e ≤ 32768 := by
 by_cases h0 : z = 0
 · subst h0; rw [cexp_zero]; decide
 · obtain ⟨k, h1, _, h3⟩ := of_form (e := e) h0
   have h4 := tz_lt_bl (show z.natAbs ≠ 0 by omega)
   have h5 := bl_le_iff.2 hz
   omega

theorem turns_ok {v : Value} {z : Int} {w : World} (h : CDy w v z (-1074)) (hz : z.natAbs < 2 ^ 2098) (hT : TabAt 0 Lib.deBruijn64tab w) :
 Calls Tryz.prog 90 #[v] w fun en w' => ∃ v', en = .returned (.tuple #[.int .i64 (nearF z 1072 % 4), v', .int .i64 0]) ∧ PDy w' w.heap.size v' (z - nearF z 1072 * 2 ^ 1073) (-1074) ∧ Below w.heap.size w w' := by
 obtain ⟨b0, A, n0, c, x0, rfl⟩ := h.ex
 have O1 := yk (Ok.of (e := -1074) _ hz (by decide) (by decide) (by decide))
 have F1 := yk (ya (fits_lo (z := z) (e := -1074) (by decide)) (fits_hi (e := -1074) hz (by decide) (by decide)))
 have HZ := yk (sm_le (m := 2200) hz (by decide))
 have hs := nearF_small (k := 1072) hz (by decide)
 obtain ⟨n, hn⟩ : ∃ n, n = nearF z 1072 := ⟨_, rfl⟩
 rw [← hn] at hs ⊢
 have ON := yk (Ok.of (e := 0) _ hs (by decide) (by decide) (by decide))
 have hns := sm_mul (k := 1073) hs
 have O2 := yk (Ok.of (e := -1074) _ hns (by decide) (by decide) (by decide))
 have hrs := sm_sub (sm_le (m := 2098 + 3 + 1073) hz (by decide)) hns
 have OR := yk (Ok.of (e := -1074) _ hrs (by decide) (by decide) (by decide))
 have FR := yk (ya (fits_lo (z := z - n * 2 ^ 1073) (e := -1074) (by decide)) (fits_hi (e := -1074) hrs (by decide) (by decide)))
 have QN := yk (fun (v : Value) (W : World) (hc : CDy W v z (-1074 + 1)) (ht : TabAt 0 Lib.deBruijn64tab W) => (by
  have q := near_ok (k := 1072) hc HZ.out (by decide) ht
  rw [← hn] at q; exact q : Calls Tryz.prog 110 #[v] W fun en w' => ∃ v', en = .returned v' ∧ PDy w' W.heap.size v' n 0 ∧ Below W.heap.size W w'))
 have QS := yk (fun (v : Value) (b : Nat) (W : World) (hc : PDy W b v n (0 + -1)) => (PDy.scale (e := -1074) 1073 hc : PDy W b v (n * 2 ^ 1073) (-1074)))
 have HCD := yk h
 have HT := yk hT
 have h1073 : Aside0 ((2 : Int) ^ 1073 = 2 ^ 1073) := ⟨rfl⟩
 clear h hz hT hs hn hns hrs HZ
 generalize (2 : Int) ^ 1073 = M at *
 go_enter Tryz.func90, Tryz.ntmps90
 obtain ⟨BEL, X0, XR⟩ := al2 w 2 #[.bool b0, .slice A n0 c, .int .i64 x0] 27 #[.bool false, .slice none 0 0, .int .i64 0] 27
 obtain ⟨q0, q0', q1, q1', q2, q2'⟩ := bc3 X0.out
 go_wp2_with fail
 clear q0 q0' q1 q1' q2 q2'
 go_at_call 109
 refine (fits_ok (HCD.out.below BEL.out.1) O1.out F1.out.1 F1.out.2).mono ?_
 rintro en1 w1 ⟨rfl, hb⟩
 replace BEL := yk (BEL.out.next hb)
 replace X0 := yk (yb X0.out hb)
 replace XR := yk (yb XR.out hb)
 clear hb
 obtain ⟨q3, q3', q4, q4', q5, q5'⟩ := bc3 X0.out
 go_wp2_with fail
 clear q3 q3' q4 q4' q5 q5'
 go_at_call 87
 refine (one_ok (HCD.out.below BEL.out.1) O1.out (tab_below HT.out BEL.out.1)).mono ?_
 have HLO1 := yk BEL.out.2
 rintro en2 w2 ⟨v2, rfl, hr, hb⟩
 replace BEL := yk (BEL.out.next hb)
 replace X0 := yk (yb X0.out hb)
 replace XR := yk (yb XR.out hb)
 have P1 := yk hr
 obtain ⟨b2, A2, n2, c2, x2, rfl⟩ := hr.ex
 clear hr hb
 go_wp2_with (((with_reducible refine gate_store (p := 1) rfl ?_); go_must (refine sdy 1 (.tmp 12) rfl rfl rfl rfl rfl X0.out rfl ?_; intro wb HX HG)); replace P1 := yk (P1.out.grown_box X0.out (by decide) HG.out); replace BEL := yk (BEL.out.grown HG.out (by omega)); replace XR := yk (blk_grown XR.out HG.out (by omega)); replace X0 := HX; clear HG; obtain ⟨q6, q6', q7, q7', q8, q8'⟩ := bc3 X0.out)
 clear q6 q6' q7 q7' q8 q8'
 go_at_call 75
 refine (shift_ok 1 P1.out.c O1.out (by decide) (by decide) (tab_below HT.out BEL.out.1)).mono ?_
 rintro en3 w3 ⟨v3, rfl, hr, hb⟩
 replace BEL := yk (BEL.out.next hb)
 replace X0 := yk (yb X0.out hb)
 replace XR := yk (yb XR.out hb)
 replace P1 := yk (P1.out.below hb)
 have P2 := yk hr
 obtain ⟨b3, A3, n3, c3, x3, rfl⟩ := hr.ex
 clear hr hb
 go_wp2_with fail
 go_at_call 110
 refine (QN.out _ _ P2.out.c (tab_below HT.out BEL.out.1)).mono ?_
 have HLO3 := yk BEL.out.2
 rintro en4 w4 ⟨v4, rfl, hr, hb⟩
 replace BEL := yk (BEL.out.next hb)
 replace X0 := yk (yb X0.out hb)
 replace XR := yk (yb XR.out hb)
 replace P1 := yk (P1.out.below hb)
 replace P2 := yk (P2.out.below hb)
 have P3 := yk hr
 obtain ⟨b4, A4, n4, c4, x4, rfl⟩ := hr.ex
 clear hr hb
 have BL := BEL
 have BELo := BEL
 go_wp2_with (replace BEL := yk ((BEL.out.alloc (.cells #[.bool false, .slice none 0 0, .int .i64 0] 27)).less (j := 2) (by omega)); have HN := yk (blk_new w4 (.cells #[.bool false, .slice none 0 0, .int .i64 0] 27)); have L_X0 := lt_blk X0.out; replace X0 := yk (blk_alloc X0.out (.cells #[.bool false, .slice none 0 0, .int .i64 0] 27)); have L_XR := lt_blk XR.out; replace XR := yk (blk_alloc XR.out (.cells #[.bool false, .slice none 0 0, .int .i64 0] 27)); replace P1 := yk (P1.out.below (below_alloc yr (.cells #[.bool false, .slice none 0 0, .int .i64 0] 27))); replace P2 := yk (P2.out.below (below_alloc yr (.cells #[.bool false, .slice none 0 0, .int .i64 0] 27))); replace P3 := yk (P3.out.below (below_alloc yr (.cells #[.bool false, .slice none 0 0, .int .i64 0] 27))); ((with_reducible refine gate_store (p := 5) rfl ?_); go_must (refine sdy 5 (.tmp 15) rfl rfl rfl rfl rfl HN.out rfl ?_; intro wb HX HG)); replace P1 := yk (P1.out.grown_box HN.out (by decide) HG.out); replace P2 := yk (P2.out.grown_box HN.out (by decide) HG.out); replace P3 := yk (P3.out.grown_box HN.out (by decide) HG.out); have LB_XN := BELo.out.2; replace BEL := yk (BEL.out.grown HG.out (Nat.le_trans (Nat.le_add_right _ _) LB_XN)); replace X0 := yk (blk_grown X0.out HG.out (Nat.ne_of_lt L_X0)); replace XR := yk (blk_grown XR.out HG.out (Nat.ne_of_lt L_XR)); have NE_X0_XN := yk (Nat.ne_of_lt L_X0); have NE_XR_XN := yk (Nat.ne_of_lt L_XR); clear L_X0; clear L_XR; have LL_XN := yk LB_XN; clear LB_XN; have XN := HX; clear HG HN HX)
 obtain ⟨GM, hGM⟩ : ∃ G : (Nat → Prop) → (Nat → Value) → World → Prop, G = fun L v W => BelN wb 0 W ∧ W.heap[w.heap.size]? = some (.cells #[.bool b2, .slice A2 n2 c2, .int .i64 x2] 27 (0, 0)) ∧ W.heap[w.heap.size + 1]? = some (.cells #[.bool false, .slice none 0 0, .int .i64 0] 27 (0, 0)) ∧ W.heap[w4.heap.size]? = some (.cells #[.bool b4, .slice A4 n4 c4, .int .i64 x4] 27 (0, 0)) ∧ PDy W (w.heap.size + 2) (.agg #[.bool b2, .slice A2 n2 c2, .int .i64 x2]) z (-1074) ∧ PDy W (w.heap.size + 2) (.agg #[.bool b4, .slice A4 n4 c4, .int .i64 x4]) n 0 ∧ (L 0 → (v 0) = .agg #[.bool b2, .slice A2 n2 c2, .int .i64 x2]) ∧ (L 1 → (v 1) = .agg #[.bool b4, .slice A4 n4 c4, .int .i64 x4]) ∧ (L 2 → PDy W wb.heap.size (v 2) (n * M) (-1074)) ∧ (L 3 → PDy W wb.heap.size (v 3) (z - n * M) (-1074)) ∧ (L 4 → ∃ g : Nat, (v 4) = .pointer (some ⟨g, 0, none⟩) ∧ wb.heap.size + 0 ≤ g ∧ (¬ L 5 → W.heap[g]? = some (.cells #[.bool false, .slice none 0 0, .int .i64 0] 27 (0, 0))) ∧ (L 5 → ∃ (bb : Bool) (A : Option Addr) (n c : Nat) (x : Int), (v 3) = .agg #[.bool bb, .slice A n c, .int .i64 x] ∧ W.heap[g]? = some (.cells #[.bool bb, .slice A n c, .int .i64 x] 27 (0, 0)))) ∧ True := ⟨_, rfl⟩
 refine wp_region_slotsV [16, 17, 18, 19, 6] (by kernel_rfl) (by kernel_rfl) (G := GM) ?h0M ?hstepM ?hendM
 case h0M =>
  intro v; rw [hGM]
  exact ⟨(BelN.zero wb).next (below_drew yr), blk_drew X0.out, blk_drew XR.out, blk_drew XN.out, (P1.out.below (below_drew yr)).lower HLO1.out, (P3.out.below (below_drew yr)).lower HLO3.out, fun h => h.elim, fun h => h.elim, fun h => h.elim, fun h => h.elim, fun h => h.elim, trivial⟩
 case hstepM =>
  intro k o ho v W L hGv hnk haft hcl K hK
  rw [hGM] at hGv
  obtain ⟨hB, hb0, hb1, hb2, hk0, hk1, f0, f1, f2, f3, f4, f5⟩ := hGv
  rcases k with _ | _ | _ | _ | _ | _ | k
  all_goals first
   | (cases ho; done)
   | (obtain rfl := (Option.some.inj ho).symm
      clear ho
      rw [if_pos (by rfl)]
      simp only [setAll, List.setIfInBounds_toArray, List.set_cons_zero, List.set_cons_succ, List.set_nil, List.getElem_toArray, List.getElem_cons_zero, List.getElem_cons_succ, Nat.reduceAdd] at haft hK ⊢)
  ·
   have cc0 := (box_cell (v := .bool b2) hb0 0 rfl).1
   have cc1 := (box_cell (v := .slice A2 n2 c2) hb0 1 rfl).1
   have cc2 := (box_cell (v := .int .i64 x2) hb0 2 rfl).1
   have hb := yw W
   have key := hK.out (.agg #[.bool b2, .slice A2 n2 c2, .int .i64 x2]) W (by rw [hGM]; exact ⟨hB.next hb, yb hb0 hb, yb hb1 hb, yb hb2 hb, hk0.below hb, hk1.below hb, yu, (kV f1), (kD f2 hb), (kD f3 hb), (fun h => by obtain ⟨g, e1, e2, e3, e4⟩ := f4 (yx h); rw [upd_ne v _ (by decide), upd_ne v _ (by decide)]; exact ⟨g, e1, e2, fun h2 => yb (e3 (fun h3 => h2 (.inl h3))) hb, fun h2 => by obtain ⟨bb, A, n, c, x, y1, y2⟩ := e4 (yx h2); exact ⟨bb, A, n, c, x, y1, yb y2 hb⟩⟩), trivial⟩)
   clear hb0 hb1 hb2 hk0 hk1 f0 f1 f2 f3 f4 f5 hb hK
   go_simp
   simpa [upd] using key
  ·
   have cc0 := (box_cell (v := .bool b4) hb2 0 rfl).1
   have cc1 := (box_cell (v := .slice A4 n4 c4) hb2 1 rfl).1
   have cc2 := (box_cell (v := .int .i64 x4) hb2 2 rfl).1
   have hb := yw W
   have key := hK.out (.agg #[.bool b4, .slice A4 n4 c4, .int .i64 x4]) W (by rw [hGM]; exact ⟨hB.next hb, yb hb0 hb, yb hb1 hb, yb hb2 hb, hk0.below hb, hk1.below hb, (kV f0), yu, (kD f2 hb), (kD f3 hb), (fun h => by obtain ⟨g, e1, e2, e3, e4⟩ := f4 (yx h); rw [upd_ne v _ (by decide), upd_ne v _ (by decide)]; exact ⟨g, e1, e2, fun h2 => yb (e3 (fun h3 => h2 (.inl h3))) hb, fun h2 => by obtain ⟨bb, A, n, c, x, y1, y2⟩ := e4 (yx h2); exact ⟨bb, A, n, c, x, y1, yb y2 hb⟩⟩), trivial⟩)
   clear hb0 hb1 hb2 hk0 hk1 f0 f1 f2 f3 f4 f5 hb hK
   go_simp
   simpa [upd] using key
  ·
   have d1 := f1 (haft ⟨1, .data⟩ (by simp) rfl)
   have D1 := d1
   have K3 := hk1
   have HALL := yk (ya hK (ya hB (ya hb0 ( ya hb1 ( ya hb2 ( ya hk0 ( ya hk1 ( ya f0 ( ya f1 ( ya f2 ( ya f3 ( ya f4 ( ya f5 (True.intro))))))))))))))
   clear hK hb0 hb1 hb2 hk0 hk1 f0 f1 f2 f3 f4 f5
   go_simp
   go_at_call 75
   refine (shift_ok (-1) K3.c ON.out (by decide) (by decide) (tab_below HT.out (BEL.out.next hB.1).1)).mono ?_
   rintro en w4 ⟨v1, rfl, hr, hb⟩
   obtain ⟨hK, hB, hb0, hb1, hb2, hk0, hk1, f0, f1, f2, f3, f4, f5, _⟩ := HALL.out
   have key := hK.out (v1) w4 (by rw [hGM]; exact ⟨hB.next hb, yb hb0 hb, yb hb1 hb, yb hb2 hb, hk0.below hb, hk1.below hb, (kV f0), (kV f1), fun _ => by rw [upd_eq]; exact (QS.out _ _ _ hr).lower (lw hB.2), (kD f3 hb), (fun h => by obtain ⟨g, e1, e2, e3, e4⟩ := f4 (yx h); rw [upd_ne v _ (by decide), upd_ne v _ (by decide)]; exact ⟨g, e1, e2, fun h2 => yb (e3 (fun h3 => h2 (.inl h3))) hb, fun h2 => by obtain ⟨bb, A, n, c, x, y1, y2⟩ := e4 (yx h2); exact ⟨bb, A, n, c, x, y1, yb y2 hb⟩⟩), trivial⟩)
   clear hb0 hb1 hb2 hk0 hk1 f0 f1 f2 f3 f4 f5 hK HALL
   simpa [upd, D1] using key
  ·
   have hns5 : ¬ L 5 := fun hs => hnk (hcl 5 _ rfl hs ⟨3, .data⟩ (by simp) rfl)
   have d0 := f0 (haft ⟨0, .data⟩ (by simp) rfl)
   have D0 := d0
   have d2 := f2 (haft ⟨2, .data⟩ (by simp) rfl)
   have D2 := d2
   have K1 := hk0
   have HALL := yk (ya hK (ya hB (ya hb0 ( ya hb1 ( ya hb2 ( ya hk0 ( ya hk1 ( ya f0 ( ya f1 ( ya f2 ( ya f3 ( ya f4 ( ya f5 (True.intro))))))))))))))
   clear hK hb0 hb1 hb2 hk0 hk1 f0 f1 f2 f3 f4 f5
   go_simp
   go_at_call 69
   refine (sub_ok K1.c d2.c O1.out O2.out (tab_below HT.out (BEL.out.next hB.1).1)).mono ?_
   rintro en w4 ⟨v1, rfl, hr, hb⟩
   obtain ⟨hK, hB, hb0, hb1, hb2, hk0, hk1, f0, f1, f2, f3, f4, f5, _⟩ := HALL.out
   have key := hK.out (v1) w4 (by rw [hGM]; exact ⟨hB.next hb, yb hb0 hb, yb hb1 hb, yb hb2 hb, hk0.below hb, hk1.below hb, (kV f0), (kV f1), (kD f2 hb), fun _ => by rw [upd_eq]; exact hr.lower (lw hB.2), (fun h => by obtain ⟨g, e1, e2, e3, e4⟩ := f4 (yx h); rw [upd_ne v _ (by decide)]; exact ⟨g, e1, e2, fun h2 => yb (e3 (fun h3 => h2 (.inl h3))) hb, fun h2 => (hns5 (yx h2)).elim⟩), trivial⟩)
   clear hb0 hb1 hb2 hk0 hk1 f0 f1 f2 f3 f4 f5 hK HALL
   simpa [upd, D0] using key
  ·
   have hns5 : ¬ L 5 := fun hs => hnk (hcl 5 _ rfl hs ⟨4, .data⟩ (by simp) rfl)
   have hb := below_alloc (yw W) (.cells #[.bool false, .slice none 0 0, .int .i64 0] 27)
   have key := hK.out (.pointer (some ⟨W.heap.size, 0, none⟩)) (W.alloc (.cells #[.bool false, .slice none 0 0, .int .i64 0] 27)) (by rw [hGM]; exact ⟨hB.next hb, yb hb0 hb, yb hb1 hb, yb hb2 hb, hk0.below hb, hk1.below hb, (kV f0), (kV f1), (kD f2 hb), (kD f3 hb), fun _ => by rw [upd_eq]; exact ⟨W.heap.size, rfl, hB.2, fun _ => blk_new W _, fun h2 => (hns5 (yx h2)).elim⟩, trivial⟩)
   clear hb0 hb1 hb2 hk0 hk1 f0 f1 f2 f3 f4 f5 hK hb hns5
   go_simp
   simpa [upd] using key
  ·
   have l0 := lt_blk X0.out
   have l1 := lt_blk XR.out
   have l2 := lt_blk XN.out
   obtain ⟨g, e1, e2, e3, -⟩ := f4 (haft ⟨4, .data⟩ (by simp) rfl)
   have hgb := e3 hnk
   have ds := f3 (haft ⟨3, .data⟩ (by simp) rfl)
   obtain ⟨bb, A, n, c, x, es⟩ := ds.ex
   refine wp_store_box 27 6 (.tmp 19) rfl rfl (g := g) (e := 27) (v 3) [.bool bb, .slice A n c, .int .i64 x] (by first | rfl | exact e1) rfl (by rw [es]; rfl) info_dyad ?_ hgb rfl ?_
   · intro q hq; simp at hq; rcases hq with rfl | rfl | rfl <;> rfl
   · intro w1 hw1 hg
     have key := hK.out undef w1 (by rw [hGM]; exact ⟨hB.grown hg (by omega), blk_grown hb0 hg (by omega), blk_grown hb1 hg (by omega), blk_grown hb2 hg (by omega), hk0.grown_box hgb (by decide) hg, hk1.grown_box hgb (by decide) hg, (kV f0), (kV f1), (kG f2 hgb hg), (kG f3 hgb hg), (fun h => by rw [upd_ne v _ (by decide), upd_ne v _ (by decide)]; exact ⟨g, e1, e2, fun h2 => (h2 (.inr rfl)).elim, fun _ => ⟨bb, A, n, c, x, es, hw1⟩⟩), trivial⟩)
     clear hb0 hb1 hb2 hk0 hk1 f0 f1 f2 f3 f4 f5 hK
     simpa [upd] using key
 case hendM =>
  intro v W L0 hall hGv
  rw [hGM] at hGv
  obtain ⟨hB, hb0, hb1, hb2, hk0, hk1, f0, f1, f2, f3, f4, _⟩ := hGv
  have d3 := f3 (hall 3 (by decide))
  obtain ⟨g, p4, hgs, _, hg5⟩ := f4 (hall 4 (by decide))
  obtain ⟨b9, A9, n9, c9, x9, p3, hx9⟩ := hg5 (hall 5 (by decide))
  rw [p3] at d3
  have HLO4 := yk BEL.out.2
  replace BEL := yk (BEL.out.next hB.1)
  have l0 := lt_blk X0.out
  have l1 := lt_blk XR.out
  have l2 := lt_blk XN.out
  have HGS := yk (ya (show w.heap.size ≠ g by omega) (ya (show w.heap.size + 1 ≠ g by omega) (show w4.heap.size ≠ g by omega)))
  replace X0 := yk hb0
  replace XR := yk hb1
  replace XN := yk hb2
  have XG := yk hx9
  have P4 := yk d3
  replace P3 := yk hk1
  replace P1 := yk hk0
  clear hall f0 f1 f2 f3 f4 hB hb0 hb1 hb2 d3 hx9 hg5 hgs hk0 hk1 l0 l1 l2 P2
  simp only [setAll, List.setIfInBounds_toArray, List.set_cons_zero, List.set_cons_succ, Nat.reduceAdd, p3, p4]
  obtain ⟨q0, q0', q1, q1', q2, q2'⟩ := bc3 X0.out
  obtain ⟨q3, q3', q4, q4', q5, q5'⟩ := bc3 XG.out
  go_wp2_with fail
  clear q0 q0' q1 q1' q2 q2' q3 q3' q4 q4' q5 q5'
  go_at_call 109
  refine (fits_ok P1.out.c O1.out F1.out.1 F1.out.2).mono ?_
  rintro en10 w10 ⟨rfl, hb⟩
  replace BEL := yk (BEL.out.next hb)
  replace X0 := yk (yb X0.out hb)
  replace XR := yk (yb XR.out hb)
  replace XN := yk (yb XN.out hb)
  replace XG := yk (yb XG.out hb)
  replace P1 := yk (P1.out.below hb)
  replace P3 := yk (P3.out.below hb)
  replace P4 := yk (P4.out.below hb)
  clear hb
  obtain ⟨q6, q6', q7, q7', q8, q8'⟩ := bc3 X0.out
  obtain ⟨q9, q9', q10, q10', q11, q11'⟩ := bc3 XG.out
  go_wp2_with fail
  clear q6 q6' q7 q7' q8 q8' q9 q9' q10 q10' q11 q11'
  go_at_call 109
  refine (fits_ok P4.out.c OR.out FR.out.1 FR.out.2).mono ?_
  rintro en11 w11 ⟨rfl, hb⟩
  replace BEL := yk (BEL.out.next hb)
  replace X0 := yk (yb X0.out hb)
  replace XR := yk (yb XR.out hb)
  replace XN := yk (yb XN.out hb)
  replace XG := yk (yb XG.out hb)
  replace P1 := yk (P1.out.below hb)
  replace P3 := yk (P3.out.below hb)
  replace P4 := yk (P4.out.below hb)
  clear hb
  obtain ⟨q12, q12', q13, q13', q14, q14'⟩ := bc3 X0.out
  obtain ⟨q15, q15', q16, q16', q17, q17'⟩ := bc3 XG.out
  go_upto_region 8 with fail
  clear q12 q12' q13 q13' q14 q14' q15 q15' q16 q16' q17 q17'
  obtain ⟨GN, hGN⟩ : ∃ G : (Nat → Prop) → (Nat → Value) → World → Prop, G = fun L v W => BelN w 2 W ∧ W.heap[w.heap.size]? = some (.cells #[.bool b2, .slice A2 n2 c2, .int .i64 x2] 27 (0, 0)) ∧ W.heap[w4.heap.size]? = some (.cells #[.bool b4, .slice A4 n4 c4, .int .i64 x4] 27 (0, 0)) ∧ W.heap[g]? = some (.cells #[.bool b9, .slice A9 n9 c9, .int .i64 x9] 27 (0, 0)) ∧ PDy W (w.heap.size + 2) (.agg #[.bool b9, .slice A9 n9 c9, .int .i64 x9]) (z - n * M) (-1074) ∧ PDy W (w.heap.size + 2) (.agg #[.bool b4, .slice A4 n4 c4, .int .i64 x4]) n 0 ∧ (L 0 → (v 0) = .agg #[.bool b4, .slice A4 n4 c4, .int .i64 x4]) ∧ (L 1 → (v 1) = .int .i64 (n % 4)) ∧ (L 2 → (v 2) = .agg #[.bool b9, .slice A9 n9 c9, .int .i64 x9]) ∧ (L 3 → (v 3) = .int .i64 (n % 4)) ∧ ((¬ L 4 → W.heap[w.heap.size + 1]? = some (.cells #[.bool false, .slice none 0 0, .int .i64 0] 27 (0, 0))) ∧ (L 4 → W.heap[w.heap.size + 1]? = some (.cells #[.bool b9, .slice A9 n9 c9, .int .i64 x9] 27 (0, 0)))) ∧ (L 5 → (v 5) = .int .i64 0) := ⟨_, rfl⟩
  refine wp_region_slotsV [29, 30, 31, 2, 99, 4] (by kernel_rfl) (by kernel_rfl) (G := GN) ?h0N ?hstepN ?hendN
  case h0N =>
   intro v; rw [hGN]
   exact ⟨BEL.out.next (below_drew yr), blk_drew X0.out, blk_drew XN.out, blk_drew XG.out, (P4.out.below (below_drew yr)).lower HLO4.out, (P3.out.below (below_drew yr)), fun h => h.elim, fun h => h.elim, fun h => h.elim, fun h => h.elim, ⟨fun _ => blk_drew XR.out, fun h => h.elim⟩, fun h => h.elim⟩
  case hstepN =>
   intro k o ho v W L hGv hnk haft hcl K hK
   rw [hGN] at hGv
   obtain ⟨hB, hb0, hb1, hb2, hk0, hk1, f0, f1, f2, f3, f4, f5⟩ := hGv
   rcases k with _ | _ | _ | _ | _ | _ | k
   all_goals first
    | (cases ho; done)
    | (obtain rfl := (Option.some.inj ho).symm
       clear ho
       rw [if_pos (by rfl)]
       simp only [setAll, List.setIfInBounds_toArray, List.set_cons_zero, List.set_cons_succ, List.set_nil, List.getElem_toArray, List.getElem_cons_zero, List.getElem_cons_succ, Nat.reduceAdd] at haft hK ⊢)
   ·
    have cc0 := (box_cell (v := .bool b4) hb1 0 rfl).1
    have cc1 := (box_cell (v := .slice A4 n4 c4) hb1 1 rfl).1
    have cc2 := (box_cell (v := .int .i64 x4) hb1 2 rfl).1
    have hb := yw W
    have key := hK.out (.agg #[.bool b4, .slice A4 n4 c4, .int .i64 x4]) W (by rw [hGN]; exact ⟨hB.next hb, yb hb0 hb, yb hb1 hb, yb hb2 hb, hk0.below hb, hk1.below hb, yu, (kV f1), (kV f2), (kV f3), (⟨fun h2 => yb (f4.1 (fun h3 => h2 (.inl h3))) hb, fun h2 => yb (f4.2 (yx h2)) hb⟩), (kV f5)⟩)
    clear hb0 hb1 hb2 hk0 hk1 f0 f1 f2 f3 f4 f5 hb hK
    go_simp
    simpa [upd] using key
   ·
    have d0 := f0 (haft ⟨0, .data⟩ (by simp) rfl)
    have D0 := d0
    have K3 := hk1
    have HALL := yk (ya hK (ya hB (ya hb0 ( ya hb1 ( ya hb2 ( ya hk0 ( ya hk1 ( ya f0 ( ya f1 ( ya f2 ( ya f3 ( ya f4 ( ya f5 (True.intro))))))))))))))
    clear hK hb0 hb1 hb2 hk0 hk1 f0 f1 f2 f3 f4 f5
    go_simp
    go_at_call 111
    refine (by4_ok K3.c ON.out (tab_below HT.out hB.1)).mono ?_
    rintro en w4 ⟨rfl, hb⟩
    obtain ⟨hK, hB, hb0, hb1, hb2, hk0, hk1, f0, f1, f2, f3, f4, f5, _⟩ := HALL.out
    have key := hK.out (.int .i64 (n % 4)) w4 (by rw [hGN]; exact ⟨hB.next hb, yb hb0 hb, yb hb1 hb, yb hb2 hb, hk0.below hb, hk1.below hb, (kV f0), yu, (kV f2), (kV f3), (⟨fun h2 => yb (f4.1 (fun h3 => h2 (.inl h3))) hb, fun h2 => yb (f4.2 (yx h2)) hb⟩), (kV f5)⟩)
    clear hb0 hb1 hb2 hk0 hk1 f0 f1 f2 f3 f4 f5 hK HALL
    simpa [upd, D0] using key
   ·
    have hns4 : ¬ L 4 := fun hs => hnk (hcl 4 _ rfl hs ⟨2, .data⟩ (by simp) rfl)
    have cc0 := (box_cell (v := .bool b9) hb2 0 rfl).1
    have cc1 := (box_cell (v := .slice A9 n9 c9) hb2 1 rfl).1
    have cc2 := (box_cell (v := .int .i64 x9) hb2 2 rfl).1
    have hb := yw W
    have key := hK.out (.agg #[.bool b9, .slice A9 n9 c9, .int .i64 x9]) W (by rw [hGN]; exact ⟨hB.next hb, yb hb0 hb, yb hb1 hb, yb hb2 hb, hk0.below hb, hk1.below hb, (kV f0), (kV f1), yu, (kV f3), (⟨fun h2 => yb (f4.1 (fun h3 => h2 (.inl h3))) hb, fun h2 => (hns4 (yx h2)).elim⟩), (kV f5)⟩)
    clear hb0 hb1 hb2 hk0 hk1 f0 f1 f2 f3 f4 f5 hb hK
    go_simp
    simpa [upd] using key
   ·
    have d1 := f1 (haft ⟨1, .data⟩ (by simp) rfl)
    have D1 := d1
    have hb := yw W
    have key := hK.out (.int .i64 (n % 4)) W (by rw [hGN]; exact ⟨hB.next hb, yb hb0 hb, yb hb1 hb, yb hb2 hb, hk0.below hb, hk1.below hb, (kV f0), (kV f1), (kV f2), yu, (⟨fun h2 => yb (f4.1 (fun h3 => h2 (.inl h3))) hb, fun h2 => yb (f4.2 (yx h2)) hb⟩), (kV f5)⟩)
    clear hb0 hb1 hb2 hk0 hk1 f0 f1 f2 f3 f4 f5 hb hK
    go_simp
    simpa [upd, D1] using key
   ·
    have h_g := HGS.out
    have h_n := NE_XR_XN.out
    have hgb := f4.1 hnk
    have ds := f2 (haft ⟨2, .data⟩ (by simp) rfl)
    have es := ds
    refine wp_store_box 27 3 (.tmp 31) rfl rfl (g := w.heap.size + 1) (e := 27) (v 2) [.bool b9, .slice A9 n9 c9, .int .i64 x9] (by first | rfl | exact rfl) rfl (by rw [es]; rfl) info_dyad ?_ hgb rfl ?_
    · intro q hq; simp at hq; rcases hq with rfl | rfl | rfl <;> rfl
    · intro w1 hw1 hg
      have key := hK.out undef w1 (by rw [hGN]; exact ⟨hB.grown hg (by omega), blk_grown hb0 hg (by omega), blk_grown hb1 hg (by omega), blk_grown hb2 hg (by omega), hk0.grown_box hgb (by decide) hg, hk1.grown_box hgb (by decide) hg, (kV f0), (kV f1), (kV f2), (kV f3), ⟨fun h => (h (.inr rfl)).elim, fun _ => hw1⟩, (kV f5)⟩)
      clear hb0 hb1 hb2 hk0 hk1 f0 f1 f2 f3 f4 f5 hK
      simpa [upd] using key
   ·
    have hb := yw W
    have key := hK.out (.int .i64 0) W (by rw [hGN]; exact ⟨hB.next hb, yb hb0 hb, yb hb1 hb, yb hb2 hb, hk0.below hb, hk1.below hb, (kV f0), (kV f1), (kV f2), (kV f3), (⟨fun h2 => yb (f4.1 (fun h3 => h2 (.inl h3))) hb, fun h2 => yb (f4.2 (yx h2)) hb⟩), yu⟩)
    clear hb0 hb1 hb2 hk0 hk1 f0 f1 f2 f3 f4 f5 hb hK
    go_simp
    simpa [upd] using key
  case hendN =>
   intro v W L0 hall hGv
   rw [hGN] at hGv
   obtain ⟨hB, hb0, hb1, hb2, hk0, hk1, f0, f1, f2, f3, f4, f5⟩ := hGv
   have d3 := f3 (hall 3 (by decide))
   have d5 := f5 (hall 5 (by decide))
   have d4 := f4.2 (hall 4 (by decide))
   replace BEL := yk hB
   replace XR := yk d4
   replace P4 := yk hk0
   clear hall f0 f1 f2 f3 f4 f5 hB hb0 hb1 hb2 hk0 hk1 d4
   simp only [setAll, List.setIfInBounds_toArray, List.set_cons_zero, List.set_cons_succ, List.set_nil, Nat.reduceAdd, d3, d5]
   go_wp2
   refine bodyPost_ret (results_list (rs := [.tmp 2, .cell 3 27, .tmp 4]) rfl (by simp) (.tmp (Vals.box any_dyad info_dyad (g := w.heap.size + 1) rfl XR.out rfl (.tmp .nil)))) rfl ?_
   exact ⟨_, rfl, P4.out.lower (Nat.le_add_right _ _), BEL.out.1⟩
end Go.Proofs.YtgpjplelgffocaaGreatDoor
