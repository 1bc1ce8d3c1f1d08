/- The document's naturals (ulpref03): the walk of Shl. -/
import Derived.Test.YtplkmbdoecepeaaRef3a
import Derived.Laws.Bits64b
namespace Go.Proofs.Ytplkmbdoecepeaa
open Go.RowKit Go.Proofs.YtplkmbdoecepeaaW.PrintWords Limb
set_option linter.unusedVariables false
set_option linter.unusedSimpArgs false

set_option maxHeartbeats 1000000 in
theorem shl_any (a : List Nat) (A : Option Addr) (na c n : Nat) (hna : a.length = na) (w : World) (ha : kU.C w A na a) (hc : na ≤ c) (wa : Wf a) (la : na ≤ 1073741824) (ln : n ≤ 68719476736) :
    Calls Try.prog 50 #[.slice A na c, .int .i64 (n : Int)] w fun e w' => ∃ v, e = .returned v ∧ kU.R 48 w' w.heap.size (fun _ => True) v (limbs (nv a * 2 ^ n)) ∧ Below w.heap.size w w' := by
  have HA := Aside0.mk ha
  have WA := Aside0.mk wa
  have HNA := Aside0.mk hna
  obtain ⟨q, hq⟩ : ∃ q, q = n / 64 := ⟨_, rfl⟩
  obtain ⟨k, hk⟩ : ∃ k, k = n % 64 := ⟨_, rfl⟩
  have hdv : (n : Int).tdiv 64 = (q : Int) := by rw [Int.tdiv_eq_ediv_of_nonneg (by omega)]; omega
  have hmd : (n : Int).tmod 64 = (k : Int) := by rw [Int.tmod_eq_emod_of_nonneg (by omega)]; omega
  have hk63 : k ≤ 63 := by omega
  have hq30 : q ≤ 1073741824 := by omega
  have HNK := Aside0.mk (show n = 64 * q + k by omega)
  clear ha wa hna hq hk
  go_enter Try.func50, Try.ntmps50
  go_wp2_with ((with_reducible refine gate_dst (N := 12) rfl ?_); go_must (refine Kd.R_make kU (w0 := w) w.heap.size 48 rfl rfl 28 (.tmp 11) (.tmp 11) rfl (q : Int) ?mx ?my Try.underlying28 (.int .u64 0) 8 info_word rfl (by decide) (by decide) 0 (ok := fun _ => True) (okp := fun _ => False) ?mz (fun _ h => h.elim) trivial (by omega) ?ml (Below.refl _ _) (Nat.le_refl _) ?_; (case mx => rfl); (case my => rfl); (case mz => rfl); (case ml => omega); intro v_3 w_3 ho hb hg hown; rw [Int.toNat_natCast] at ho; have HO := Aside0.mk ho; have B3 := Aside0.mk hb; clear ho hb hg hown))
  go_loopw [5, 7, 18] (fun v5 v7 v18 wr => ∃ (i cy : Nat) (acc : List Nat), v7 = .int .u64 cy ∧ v18 = .int .i64 i ∧ i ≤ na ∧ cy < 18446744073709551616 ∧ Aside0 (Below w.heap.size w wr) ∧ Aside0 (kU.R 48 wr w.heap.size (fun _ => True) v5 acc) ∧ Aside0 (acc.length = q + i ∧ Wf acc ∧ cy < 2 ^ k ∧ nv acc + 2 ^ (64 * (q + i)) * cy = 2 ^ (64 * q) * (2 ^ k * nv (a.take i)))) (fun _ _ v18 _ => na - (intOf v18).toNat)
  case atStart => exact ⟨0, 0, _, rfl, rfl, Nat.zero_le _, by omega, B3, HO, ⟨by simp, Wf.replicate _, Nat.two_pow_pos _, by rw [nv_replicate]; simp [nv]⟩⟩
  case round =>
    obtain ⟨i, cy, acc, rfl, rfl, hi, hcy, HBB, HO1, HG⟩ := hrel
    by_cases hlt : i < na
    · obtain ⟨ad, x, rfl, hx0, hcell⟩ := at_word (Kd.C_below HA.out HBB.out) HNA.out i hlt
      have HX := Aside0.mk (wd_of hx0)
      have hx64 : x < 18446744073709551616 := WA.out.get hx0
      clear hx0
      obtain ⟨h1, h2, h3, h4⟩ := shl_word hx64 hk63 HG.out.2.2.1
      obtain ⟨s, hs⟩ : ∃ s, s = x * 2 ^ k % 2 ^ 64 := ⟨_, rfl⟩
      obtain ⟨t, ht⟩ : ∃ t, t = s + cy := ⟨_, rfl⟩
      obtain ⟨c', hc'⟩ : ∃ c', c' = x / 2 ^ (64 - k) := ⟨_, rfl⟩
      have hd := Nat.mod_add_div (x * 2 ^ k) (2 ^ 64)
      rw [← hs, h3, ← hc'] at hd
      rw [← hs] at h1 h2
      rw [← hc'] at h4
      have hs64 : s < 18446744073709551616 := by rw [hs]; exact Nat.mod_lt _ (by decide)
      have hsh : IntKind.u64.wrap ((x : Int) * 2 ^ k) = (s : Int) := by
        rw [hs]; unfold IntKind.wrap; simp [IntKind.bits, IntKind.signed]
      have hor : bits .or .u64 (s : Int) (cy : Int) = (t : Int) := by
        rw [bits_or_u64_nat s cy hs64 hcy, h1, ht]
      have HT := Aside0.mk (show t + 2 ^ 64 * c' = x * 2 ^ k + cy by omega)
      have HC4 := Aside0.mk h4
      have hc64 : c' < 18446744073709551616 := Nat.lt_of_lt_of_le h4 (Nat.pow_le_pow_right (by decide) (show k ≤ 64 by omega))
      have ht64 : t < 18446744073709551616 := by omega
      have hshr : (x : Int) / 2 ^ (64 - k) = (c' : Int) := by rw [hc']; simp
      have HC' := Aside0.mk hc'
      clear h1 h2 h3 h4 hd hs ht hc'
      by_cases hk0 : k = 0
      · have hkn : k ≤ 0 := by omega
        have HK0 := Aside0.mk hk0
        have HC0 := Aside0.mk (show c' = 0 by have := HC4.out; rw [hk0] at this; omega)
        clear hk0
        go_wp2_with ((with_reducible refine gate_builtin (b := .append) (xs := #[.tmp 22, .tmp 28]) rfl ?_); at_builtin; go_must (refine Kd.R_append kU (w0 := w) w.heap.size rfl (.tmp 22) (.tmp 28) 28 48 (.int .u64 0) 8 rfl Try.underlying28 info_word rfl (by decide) (by omega) u5 acc t [.int .u64 ((t : Nat) : Int)] (fun _ => True) (fun _ => False) rfl rfl ?aP (fun _ hk => hk.elim) ?aF ?aO ?aB ?aS ?aL ?_; (case aP => exact rfl); (case aF => exact fun _ _ => trivial); (case aO => exact HO1.out); (case aB => exact HBB.out); (case aS => exact (HBB.out).size); (case aL => (have := HG.out.1; omega)); intro v_1 w_1 ho hb _ _; have HO' := Aside0.mk ho; have HB' := Aside0.mk hb; clear ho hb))
        go_roundw
        case rel => exact ⟨i + 1, 0, acc ++ [t], rfl, by go_num, by omega, by omega, HB', HO', ⟨by simp [HG.out.1]; omega, HG.out.2.1.snoc ht64, Nat.two_pow_pos _, by
          rw [nv_snoc, nv_take_succ, HG.out.1, HX.out]
          exact shl_step HG.out.2.2.2 (by have := HT.out; rw [HC0.out] at this; exact this) rfl⟩⟩
        case measure => simp [intOf]; omega
      · have hkp : 0 < k := by omega
        go_wp2_with ((with_reducible refine gate_builtin (b := .append) (xs := #[.tmp 22, .tmp 28]) rfl ?_); at_builtin; go_must (refine Kd.R_append kU (w0 := w) w.heap.size rfl (.tmp 22) (.tmp 28) 28 48 (.int .u64 0) 8 rfl Try.underlying28 info_word rfl (by decide) (by omega) u5 acc t [.int .u64 ((t : Nat) : Int)] (fun _ => True) (fun _ => False) rfl rfl ?aP (fun _ hk => hk.elim) ?aF ?aO ?aB ?aS ?aL ?_; (case aP => exact rfl); (case aF => exact fun _ _ => trivial); (case aO => exact HO1.out); (case aB => exact HBB.out); (case aS => exact (HBB.out).size); (case aL => (have := HG.out.1; omega)); intro v_1 w_1 ho hb _ _; have HO' := Aside0.mk ho; have HB' := Aside0.mk hb; clear ho hb))
        go_roundw
        case rel => exact ⟨i + 1, c', acc ++ [t], rfl, by go_num, by omega, by omega, HB', HO', ⟨by simp [HG.out.1]; omega, HG.out.2.1.snoc ht64, HC4.out, by
          rw [nv_snoc, nv_take_succ, HG.out.1, HX.out]
          exact shl_step HG.out.2.2.2 HT.out rfl⟩⟩
        case measure => simp [intOf]; omega
    · obtain rfl : i = na := by omega
      have HF := Aside0.mk (show nv (acc ++ [cy]) = nv a * 2 ^ n by
        have h3 := HG.out.2.2.2
        rw [nv_take_all (by rw [HNA.out]; omega)] at h3
        rw [nv_snoc, HG.out.1, h3, HNK.out, Nat.pow_add]
        grind)
      have HV := Aside0.mk (show Wf (acc ++ [cy]) from HG.out.2.1.snoc hcy)
      have HLEN := Aside0.mk (show (acc ++ [cy]).length ≤ 4294967296 by have := HG.out.1; simp; omega)
      go_wp2_with (first | ((with_reducible refine gate_builtin (b := .append) (xs := #[.tmp 37, .tmp 39]) rfl ?_); at_builtin; go_must (refine Kd.R_append kU (w0 := w) w.heap.size rfl (.tmp 37) (.tmp 39) 28 48 (.int .u64 0) 8 rfl Try.underlying28 info_word rfl (by decide) (by omega) u5 acc cy [.int .u64 ((cy : Nat) : Int)] (fun _ => True) (fun _ => False) rfl rfl ?aP (fun _ hk => hk.elim) ?aF ?aO ?aB ?aS ?aL ?_; (case aP => exact rfl); (case aF => exact fun _ _ => trivial); (case aO => exact HO1.out); (case aB => exact HBB.out); (case aS => exact (HBB.out).size); (case aL => (have := HG.out.1; omega)); intro v_1 w_1 ho hb _ _; have HO' := Aside0.mk ho; have HB' := Aside0.mk hb; clear ho hb)) | (go_at_call 45; go_must (obtain ⟨A1, c1, rfl, hc1, hC1⟩ := Kd.R_reads HO'.out; refine (norm_any (acc ++ [cy]) A1 c1 _ hC1 hc1 HV.out HLEN.out).mono ?_; rintro e w1 ⟨v, rfl, ho, hb⟩; rw [HF.out] at ho; have HO2 := Aside0.mk ho; have HB2 := Aside0.mk hb; clear ho hb)))
      go_ret
      exact ⟨_, rfl, Kd.R_lower HO2.out HB'.out.size, below_then HB'.out HB'.out.size HB2.out⟩
end Go.Proofs.Ytplkmbdoecepeaa
