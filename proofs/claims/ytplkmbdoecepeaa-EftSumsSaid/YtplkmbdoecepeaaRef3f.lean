/- The document's naturals (ulpref03): the walk of Mul. -/
import Derived.Test.YtplkmbdoecepeaaRef3e
namespace Go.Proofs.Ytplkmbdoecepeaa
open Go.RowKit Go.Proofs.YtplkmbdoecepeaaW.PrintWords Limb
set_option linter.unusedVariables false
set_option linter.unusedSimpArgs false

/-- Norm, its answer as a list that is read. -/
theorem norm_read (l : List Nat) (A : Option Addr) (n c N : Nat) (L : List Nat) (hn : l.length = n) (hL : L = limbs (nv l)) (hN : N = L.length) (w m : World) (hr : kU.C w A n l) (hc : n ≤ c) (hw : Wf l) (hl : n ≤ 4294967296) (hb : Below w.heap.size w m) :
    Calls Try.prog 45 #[.slice A n c] m fun e w' => ∃ A1 c1, e = .returned (.slice A1 N c1) ∧ N ≤ c1 ∧ kU.C w' A1 N L ∧ Below w.heap.size w w' ∧ Below m.heap.size m w' := by
  subst hn hL hN
  refine (norm_any l A c m (Kd.C_below hr hb) hc hw hl).mono ?_
  rintro e w' ⟨v, rfl, ho, hb2⟩
  obtain ⟨A1, c1, rfl, hc1, hC1⟩ := Kd.R_reads ho
  exact ⟨A1, c1, rfl, hc1, hC1, below_then hb hb.size hb2, hb2⟩
theorem times_is (x y lo hi : Nat) (hx : x < 18446744073709551616) (hy : y < 18446744073709551616) (h1 : lo < 18446744073709551616) (h2 : lo + 18446744073709551616 * hi = x * y) (w : World) :
    Calls Try.prog 56 #[.int .u64 (x : Int), .int .u64 (y : Int)] w fun e w' => e = .returned (.tuple #[.int .u64 (lo : Int), .int .u64 (hi : Int)]) ∧ ∃ n, w' = w.drewN n := by
  refine (times_any x y hx hy w).mono ?_
  rintro e w' ⟨⟨lo', hi', rfl, e1, e2, e3⟩, hn⟩
  obtain rfl : lo' = lo := by omega
  obtain rfl : hi' = hi := by omega
  exact ⟨rfl, hn⟩

set_option maxHeartbeats 1000000 in
theorem mul_any (a b : List Nat) (A B : Option Addr) (na nb c d : Nat) (hna : a.length = na) (hnb : b.length = nb) (w : World) (ha : kU.C w A na a) (hb : kU.C w B nb b) (hc : na ≤ c) (hd : nb ≤ d) (wa : Wf a) (wb : Wf b) (la : na ≤ 1073741824) (lb : nb ≤ 1073741824) :
    Calls Try.prog 43 #[.slice A na c, .slice B nb d] w fun e w' => ∃ v, e = .returned v ∧ kU.R 48 w' w.heap.size (fun _ => True) v (limbs (nv a * nv b)) ∧ Below w.heap.size w w' := by
  obtain ⟨L, hL⟩ : ∃ L, L = limbs (nv a) := ⟨_, rfl⟩
  obtain ⟨M, hM⟩ : ∃ M, M = limbs (nv b) := ⟨_, rfl⟩
  obtain ⟨n1, hn1⟩ : ∃ n, n = L.length := ⟨_, rfl⟩
  obtain ⟨n2, hn2⟩ : ∃ n, n = M.length := ⟨_, rfl⟩
  have ln1 : n1 ≤ 1073741824 := by have := limbs_nv_len wa; rw [hn1, hL]; omega
  have ln2 : n2 ≤ 1073741824 := by have := limbs_nv_len wb; rw [hn2, hM]; omega
  have WL := Aside0.mk (show Wf L by rw [hL]; exact wf_limbs _)
  have WM := Aside0.mk (show Wf M by rw [hM]; exact wf_limbs _)
  have VL := Aside0.mk (show nv L = nv a by rw [hL, nv_limbs])
  have VM := Aside0.mk (show nv M = nv b by rw [hM, nv_limbs])
  have NL := Aside0.mk hn1.symm
  have NM := Aside0.mk hn2.symm
  have QA := Aside0.mk (fun m hB => norm_read a A na c n1 L hna hL hn1 w m ha hc wa (by omega) hB)
  have QB := Aside0.mk (fun m hB => norm_read b B nb d n2 M hnb hM hn2 w m hb hd wb (by omega) hB)
  obtain ⟨N, hN⟩ : ∃ N, N = n1 + n2 + 1 := ⟨_, rfl⟩
  have hN1 : (n1 : Int) + n2 + 1 = (N : Int) := by omega
  have hN2 : N ≤ 2147483649 := by omega
  have hN3 : n1 + n2 < N := by omega
  have HN := Aside0.mk hN
  clear ha hb wa wb hna hnb hL hM hn1 hn2 hc hd la lb hN
  go_enter Try.func43, Try.ntmps43
  go_wp2_with (first
    | (go_at_call 45; first
      | (with_reducible refine (QA.out _ ?hB).mono ?_; (case hB => first | exact Below.refl _ _ | exact pw_below_drewN (Below.refl _ _) _); rintro e w_1 ⟨A1, c1, rfl, hc1, hC1, hB1, _⟩; have C1 := Aside0.mk hC1; have B1 := Aside0.mk hB1; clear hC1 hB1)
      | (with_reducible refine (QB.out _ ?hB).mono ?_; (case hB => first | exact B1.out | exact pw_below_drewN B1.out _); rintro e w_2 ⟨A2, c2, rfl, hc2, hC2, hB2, hB2'⟩; have C2 := Aside0.mk hC2; have B2 := Aside0.mk hB2; have C1' := Aside0.mk (Kd.C_below C1.out (by first | exact hB2' | exact below_of_drewN hB2')); clear hC2 hB2 hB2'))
    | ((with_reducible refine gate_dst (N := 25) rfl ?_); go_must (refine Kd.R_make kU (w0 := w_2) w_2.heap.size 48 rfl rfl 28 (.tmp 24) (.tmp 24) rfl (N : Int) ?mx ?my Try.underlying28 (.int .u64 0) 8 info_word rfl (by decide) (by decide) 0 (ok := fun _ => True) (okp := fun _ => False) ?mz (fun _ h => h.elim) trivial (by omega) ?ml (Below.refl _ _) (Nat.le_refl _) ?_; (case mx => rfl); (case my => rfl); (case mz => rfl); (case ml => omega); intro v_3 w_3 ho hb hg hown; obtain ⟨g, cap, rfl, hg1, hg2, _⟩ := Kd.R_form ho (by simp; omega); rw [show (List.replicate ((N : Int)).toNat (0 : Nat)).length = N by simp] at ho ⊢; have HO := Aside0.mk ho; have B3 := Aside0.mk hb; have HG := Aside0.mk hg1; clear ho hb hg hown hg1 hg2)))
  go_loopw [28] (fun v28 wr => ∃ (k : Nat) (o : List Nat), v28 = .int .i64 k ∧ k ≤ n1 ∧ Aside0 (Below w_2.heap.size w_2 wr) ∧ Aside0 (kU.R 48 wr w_2.heap.size (fun _ => True) (.slice (some ⟨g, 0, none⟩) N cap) o) ∧ Aside0 (o.length = N ∧ Wf o ∧ nv o = nv (L.take k) * nv M)) (fun v28 _ => n1 - (intOf v28).toNat)
  case atStart => exact ⟨0, _, rfl, Nat.zero_le _, B3, HO, ⟨by simp, Wf.replicate _, by rw [nv_replicate]; simp [nv]⟩⟩
  case round =>
    obtain ⟨k, o, rfl, hk, HB, HO1, HG1⟩ := hrel
    by_cases hlt : k < n1
    · obtain ⟨ad, x, rfl, hx0, hcell⟩ := at_word (Kd.C_below C1'.out HB.out) NL.out k hlt
      have HX := Aside0.mk (wd_of hx0)
      have hx64 : x < 18446744073709551616 := WL.out.get hx0
      clear hx0
      have hp0 : (k : Int) + n2 < N := by omega
      go_wp2
      go_loopw [8, 35] (fun v8 v35 wr => ∃ (j cy : Nat) (o : List Nat), v8 = .int .u64 cy ∧ v35 = .int .i64 j ∧ j ≤ n2 ∧ cy ≤ 18446744073709551615 ∧ Aside0 (Below w_2.heap.size w_2 wr) ∧ Aside0 (kU.R 48 wr w_2.heap.size (fun _ => True) (.slice (some ⟨g, 0, none⟩) N cap) o) ∧ Aside0 (o.length = N ∧ Wf o ∧ nv o + 2 ^ (64 * (k + j)) * cy = nv (L.take k) * nv M + 2 ^ (64 * k) * (x * nv (M.take j)) ∧ wd o (k + n2) = 0)) (fun _ v35 _ => n2 - (intOf v35).toNat)
      case atStart =>
        refine ⟨0, 0, o, rfl, rfl, Nat.zero_le _, by omega, HB, HO1, ⟨HG1.out.1, HG1.out.2.1, by rw [HG1.out.2.2]; simp [nv], ?_⟩⟩
        refine wd_small HG1.out.2.1 (k := k + n2) ?_ (Nat.le_refl _)
        rw [HG1.out.2.2, Nat.mul_add, Nat.pow_add]
        have h1 := nv_take_lt WL.out k
        have h2 := nv_lt WM.out
        rw [NM.out] at h2
        exact Nat.mul_lt_mul'' h1 h2
      case round =>
        clear HO1 HG1
        obtain ⟨j, cy, o, rfl, rfl, hj, hcy, HB', HO2, HG2⟩ := hrel
        by_cases hlt2 : j < n2
        · obtain ⟨bd, y, rfl, hy0, hcell2⟩ := at_word (Kd.C_below C2.out HB'.out) NM.out j hlt2
          have HY := Aside0.mk (wd_of hy0)
          have hy64 : y < 18446744073709551616 := WM.out.get hy0
          clear hy0
          obtain ⟨p, hp⟩ : ∃ p, p = k + j := ⟨_, rfl⟩
          have hpN : p < N := by omega
          have hp1 : (k : Int) + j = (p : Int) := by omega
          have HP := Aside0.mk hp
          obtain ⟨hw1, hw2, hput⟩ := put_word HO2.out hpN
          obtain ⟨w0, hw0⟩ : ∃ w0, w0 = wd o p := ⟨_, rfl⟩
          have hw64 : w0 < 18446744073709551616 := by rw [hw0]; exact wd_lt HG2.out.2.1 p
          rw [← hw0] at hw1
          obtain ⟨lo, hi, hlo, hlh⟩ : ∃ lo hi, lo < 18446744073709551616 ∧ lo + 18446744073709551616 * hi = x * y := ⟨x * y % 18446744073709551616, x * y / 18446744073709551616, Nat.mod_lt _ (by decide), Nat.mod_add_div _ _⟩
          have QT := Aside0.mk (times_is x y lo hi hx64 hy64 hlo hlh)
          obtain ⟨s, c1', hs1, hs2, hs3, hs4⟩ : ∃ s c' : Nat, s < 18446744073709551616 ∧ c' ≤ 1 ∧ s + 18446744073709551616 * c' = w0 + lo ∧ IntKind.u64.wrap ((w0 : Int) + lo) = (s : Int) := ⟨(w0 + lo) % 18446744073709551616, (w0 + lo) / 18446744073709551616, by omega, by omega, by omega, by unfold IntKind.wrap; simp [IntKind.bits, IntKind.signed]⟩
          obtain ⟨t, c2', ht1, ht2, ht3, ht4⟩ : ∃ s' c' : Nat, s' < 18446744073709551616 ∧ c' ≤ 1 ∧ s' + 18446744073709551616 * c' = s + cy ∧ IntKind.u64.wrap ((s : Int) + cy) = (s' : Int) := ⟨(s + cy) % 18446744073709551616, (s + cy) / 18446744073709551616, by omega, by omega, by omega, by unfold IntKind.wrap; simp [IntKind.bits, IntKind.signed]⟩
          have hxy : x * y ≤ 18446744073709551615 * 18446744073709551615 := Nat.mul_le_mul (by omega) (by omega)
          have hhi : hi + c1' + c2' ≤ 18446744073709551615 := by omega
          have HT := Aside0.mk (show t + 2 ^ 64 * (hi + c1' + c2') = w0 + x * y + cy by omega)
          have HW0 := Aside0.mk hw0
          have hhi2 : hi ≤ 18446744073709551615 := by omega
          have hc1s : (c1' = 1 ∧ s < lo) ∨ (c1' = 0 ∧ lo ≤ s) := by omega
          have hc2s : (c2' = 1 ∧ t < cy) ∨ (c2' = 0 ∧ cy ≤ t) := by omega
          have HPUT := Aside0.mk hput
          have hst := run_store_word (P := Try.prog) (u := (t : Int)) hw1 hw2
          clear hw0 hp hput hxy hs3 ht3 hlh
          rcases hc1s with ⟨rfl, hc1s⟩ | ⟨rfl, hc1s⟩ <;> rcases hc2s with ⟨rfl, hc2s⟩ | ⟨rfl, hc2s⟩
          all_goals
            go_wp2_with (go_at_call 56; with_reducible refine (QT.out _).mono ?_; rintro e w' ⟨rfl, n1, rfl⟩)
            go_roundw
            case rel =>
              refine ⟨j + 1, _, o.set p t, rfl, by go_num, by omega, by omega, ?hB, ?hO, ?hG⟩
              case hB => exact ⟨(pw_below_drewN HB'.out _).setCell HG.out _⟩
              case hO => exact ⟨(put_word (Kd.R_drewN HO2.out _) hpN).2.2 t⟩
              case hG =>
                have hl : p < o.length := by have := HG2.out.1; omega
                refine ⟨by simp [HG2.out.1], HG2.out.2.1.set ht1, ?_, ?_⟩
                · rw [nv_take_succ M, HY.out]
                  refine mul_step HG2.out.2.2.1 ?_ HT.out
                  rw [← HP.out, HW0.out]
                  exact nv_set hl t
                · rw [wd_set_ne (by have := HP.out; omega)]
                  exact HG2.out.2.2.2
            case measure => simp [intOf]; omega
        · obtain rfl : j = n2 := by omega
          obtain ⟨p, hp⟩ : ∃ p, p = k + j := ⟨_, rfl⟩
          have hpN : p < N := by omega
          have hp1 : (k : Int) + j = (p : Int) := by omega
          have HP := Aside0.mk hp
          obtain ⟨hw1, hw2, hput⟩ := put_word HO2.out hpN
          have HPUT := Aside0.mk hput
          have hst := run_store_word (P := Try.prog) (u := (cy : Int)) hw1 hw2
          clear hp hput
          go_wp2
          go_roundw
          case rel =>
            refine ⟨k + 1, o.set p cy, by go_num, by omega, ?hB, ?hO, ?hG⟩
            case hB => exact ⟨HB'.out.setCell HG.out _⟩
            case hO => exact ⟨HPUT.out cy⟩
            case hG =>
              have hl : p < o.length := by have := HG2.out.1; omega
              refine ⟨by simp [HG2.out.1], HG2.out.2.1.set (by omega), ?_⟩
              rw [nv_take_succ L, HX.out]
              have e1 := nv_set hl cy
              have e2 := HG2.out.2.2.2
              rw [← HP.out] at e2
              rw [e2, HP.out] at e1
              have e3 := HG2.out.2.2.1
              rw [nv_take_all (l := M) (by rw [NM.out]; omega)] at e3
              rw [HP.out]
              exact mul_row e3 rfl (by omega)
          case measure => simp [intOf]; omega
    · obtain rfl : k = n1 := by omega
      have HF := Aside0.mk (show nv o = nv a * nv b by rw [HG1.out.2.2, nv_take_all (by rw [NL.out]; omega), VL.out, VM.out])
      have HR := Aside0.mk (Kd.R_reads' HO1.out).2.2
      have QN := Aside0.mk (norm_any o (some ⟨g, 0, none⟩) cap wr HR.out (by rw [HG1.out.1]; exact (Kd.R_reads' HO1.out).2.1) HG1.out.2.1 (by rw [HG1.out.1]; omega))
      rw [HG1.out.1] at QN
      go_wp2_with (go_at_call 45; go_must (refine QN.out.mono ?_; rintro e w1 ⟨v, rfl, ho, hb⟩; rw [HF.out] at ho; have HOO := Aside0.mk ho; have HBB := Aside0.mk hb; clear ho hb))
      go_ret
      have HB4 := below_then B2.out B2.out.size HB.out
      exact ⟨_, rfl, Kd.R_lower HOO.out HB4.size, below_then HB4 HB4.size HBB.out⟩
end Go.Proofs.Ytplkmbdoecepeaa
