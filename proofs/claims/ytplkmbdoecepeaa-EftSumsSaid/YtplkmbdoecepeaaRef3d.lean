/- The document's naturals (ulpref03): the walks of Sub. -/
import Derived.Test.YtplkmbdoecepeaaRef3c
namespace Go.Proofs.Ytplkmbdoecepeaa
open Go.RowKit Go.Proofs.YtplkmbdoecepeaaW.PrintWords Limb
set_option linter.unusedVariables false
set_option linter.unusedSimpArgs false

set_option maxHeartbeats 1000000 in
theorem sub_any (a b : List Nat) (A B : Option Addr) (na nb c d : Nat) (hna : a.length = na) (hnb : b.length = nb) (w : World) (ha : kU.C w A na a) (hb : kU.C w B nb b) (hc : na ≤ c) (hd : nb ≤ d) (wa : Wf a) (wb : Wf b) (la : na ≤ 2147483648) (lb : nb ≤ 2147483648) (hab0 : nv b ≤ nv a) :
    Calls Try.prog 53 #[.slice A na c, .slice B nb d] w fun e w' => ∃ v, e = .returned v ∧ kU.R 48 w' w.heap.size (fun _ => True) v (limbs (nv a - nv b)) ∧ Below w.heap.size w w' := by
  have HA := Aside0.mk ha
  have HB := Aside0.mk hb
  have WA := Aside0.mk wa
  have WB := Aside0.mk wb
  have HNA := Aside0.mk hna
  have HNB := Aside0.mk hnb
  have HAB := Aside0.mk hab0
  clear ha hb wa wb hna hnb hab0
  rcases Nat.lt_or_ge na nb with hab | hab
  all_goals
    go_enter Try.func53, Try.ntmps53
    go_wp2
    go_loopw [5, 6, 7] (fun v5 v6 v7 wr => ∃ (k cy : Nat) (acc : List Nat), v6 = .int .u64 cy ∧ v7 = .int .i64 k ∧ cy ≤ 1 ∧ k ≤ 2147483648 ∧ (k ≤ na ∨ k ≤ nb) ∧ Aside0 (Below w.heap.size w wr) ∧ Aside0 (kU.R 48 wr w.heap.size (fun _ => True) v5 acc) ∧ Aside0 (acc.length = k ∧ Wf acc ∧ nv acc + nv (b.take k) = nv (a.take k) + 2 ^ (64 * k) * cy)) (fun _ _ v7 _ => na + nb - (intOf v7).toNat)
    case atStart => exact ⟨0, 0, [], rfl, rfl, by omega, by omega, by omega, ⟨Below.refl _ _⟩, ⟨Kd.R_nil _ _ _ _ _⟩, ⟨rfl, .nil, by simp [nv]⟩⟩
    case round =>
      obtain ⟨k, cy, acc, rfl, rfl, hcy, hk, hkk, HBB, HO, HG⟩ := hrel
      by_cases hlt : k < na ∨ k < nb
      · obtain ⟨x, hx⟩ : ∃ x, x = wd a k := ⟨_, rfl⟩
        obtain ⟨y, hy⟩ : ∃ y, y = wd b k := ⟨_, rfl⟩
        have HX := Aside0.mk hx
        have HY := Aside0.mk hy
        have hx64 : x < 18446744073709551616 := by rw [hx]; exact wd_lt WA.out k
        have hy64 : y < 18446744073709551616 := by rw [hy]; exact wd_lt WB.out k
        clear hx hy
        have QA : ∀ m, Below w.heap.size w m → Calls Try.prog 61 #[.slice A na c, .int .i64 (k : Int)] m fun e w' => e = .returned (.int .u64 (x : Int)) ∧ ∃ n, w' = m.drewN n := fun m hm => by
          have h1 := HNA.out; subst h1
          exact word_is a A c k x _ rfl HX.out.symm _ (Kd.C_below HA.out hm) hc (by omega)
        have QB : ∀ m, Below w.heap.size w m → Calls Try.prog 61 #[.slice B nb d, .int .i64 (k : Int)] m fun e w' => e = .returned (.int .u64 (y : Int)) ∧ ∃ n, w' = m.drewN n := fun m hm => by
          have h1 := HNB.out; subst h1
          exact word_is b B d k y _ rfl HY.out.symm _ (Kd.C_below HB.out hm) hd (by omega)
        have QA' := Aside0.mk QA
        have QB' := Aside0.mk QB
        clear QA QB
        obtain ⟨s, c', hs1, hs2, hs3, hs4⟩ : ∃ s c' : Nat, s < 18446744073709551616 ∧ c' ≤ 1 ∧ s + y + cy = x + 18446744073709551616 * c' ∧ IntKind.u64.wrap (IntKind.u64.wrap ((x : Int) - y) - cy) = (s : Int) := by
          by_cases hq : y + cy ≤ x
          · exact ⟨x - y - cy, 0, by omega, by omega, by omega, by unfold IntKind.wrap; simp [IntKind.bits, IntKind.signed] <;> omega⟩
          · exact ⟨18446744073709551616 + x - y - cy, 1, by omega, by omega, by omega, by unfold IntKind.wrap; simp [IntKind.bits, IntKind.signed] <;> omega⟩
        have hs5 : IntKind.u64.wrap ((x : Int) - y - cy) = (s : Int) := by rw [← hs4]; unfold IntKind.wrap; simp [IntKind.bits, IntKind.signed]
        have HT := Aside0.mk (show (a.take (k + 1)).length ≤ k + 1 from by rw [List.length_take]; omega)
        have HS := Aside0.mk hs3
        have hcase : (c' = 1 ∧ x < y) ∨ (c' = 1 ∧ x = y ∧ cy = 1) ∨ (c' = 0 ∧ y < x) ∨ (c' = 0 ∧ x = y ∧ cy = 0) := by omega
        clear hs3
        rcases hcase with ⟨hc1, hq⟩ | ⟨hc1, hq, hq1⟩ | ⟨hc1, hq⟩ | ⟨hc1, hq, hq1⟩
        case' inl => have hf : ((x : Int) == (y : Int)) = false := by simp; omega
        case' inr.inl => have hf : ((x : Int) == (y : Int)) = true := by simp [hq]
        case' inr.inl => have hf2 : y ≤ x := by omega
        case' inr.inl => have hf3 : ((cy : Int) == 1) = true := by simp [hq1]
        case' inr.inl => have HQ := Aside0.mk hq; clear hq hq1
        case' inr.inr.inl => have hf : ((x : Int) == (y : Int)) = false := by simp; omega
        case' inr.inr.inr => have hf : ((x : Int) == (y : Int)) = true := by simp [hq]
        case' inr.inr.inr => have hf2 : y ≤ x := by omega
        case' inr.inr.inr => have hf3 : ((cy : Int) == 1) = false := by simp [hq1]
        case' inr.inr.inr => have HQ := Aside0.mk hq; clear hq hq1
        case' inr.inr.inl => have hs6 : ((x : Int) - y - cy) = (s : Int) := by have := HS.out; omega
        case' inr.inr.inr => have hs6 : ((x : Int) - y - cy) = (s : Int) := by have := HS.out; have := HQ.out; omega
        all_goals subst hc1
        all_goals
          go_wp2_with (first | (go_at_call 61; first | (with_reducible refine (QA'.out _ ?hB).mono ?_; (case hB => first | exact HBB.out | exact pw_below_drewN HBB.out _); rintro e w' ⟨rfl, n1, rfl⟩) | (with_reducible refine (QB'.out _ ?hB).mono ?_; (case hB => first | exact HBB.out | exact pw_below_drewN HBB.out _); rintro e w' ⟨rfl, n2, rfl⟩)) | ((with_reducible refine gate_builtin (b := .append) (xs := #[.tmp 43, .tmp 45]) rfl ?_); at_builtin; go_must (refine Kd.R_append kU (w0 := w) w.heap.size rfl (.tmp 43) (.tmp 45) 28 48 (.int .u64 0) 8 rfl Try.underlying28 info_word rfl (by decide) (by omega) u5 acc s [.int .u64 ((s : Nat) : Int)] (fun _ => True) (fun _ => False) rfl rfl ?aP (fun _ hk => hk.elim) ?aF ?aO ?aB ?aS ?aL ?_; (case aP => exact rfl); (case aF => exact fun _ _ => trivial); (case aO => exact Kd.R_drewN HO.out _); (case aB => exact pw_below_drewN HBB.out _); (case aS => exact (pw_below_drewN HBB.out _).size); (case aL => (have := HG.out.1; omega)); intro v_1 w_1 ho hb _ _; have HO' := Aside0.mk ho; have HB' := Aside0.mk hb; clear ho hb)))
          clear hs4
          go_roundw
          case rel => exact ⟨k + 1, _, acc ++ [s], rfl, by go_num, by omega, by omega, by omega, HB', HO', ⟨by simp [HG.out.1], HG.out.2.1.snoc hs1, by
            rw [nv_snoc, nv_take_succ, nv_take_succ, HG.out.1, ← HX.out, ← HY.out]
            exact sub_step HG.out.2.2 HS.out rfl⟩⟩
          case measure => simp [intOf]; omega
      · have HF := Aside0.mk (show nv acc = nv a - nv b by
          have h1 := HNA.out
          have h2 := HNB.out
          have h3 := HG.out.2.2
          rw [nv_take_all (by omega), nv_take_all (by omega)] at h3
          have h4 := HAB.out
          have h5 := nv_lt HG.out.2.1
          rw [HG.out.1] at h5
          rcases (show cy = 0 ∨ cy = 1 by omega) with h | h
          · subst h; omega
          · subst h; omega)
        have HLEN := Aside0.mk (show acc.length ≤ 4294967296 by have := HG.out.1; omega)
        go_wp2_with (go_at_call 45; go_must (obtain ⟨A1, c1, rfl, hc1, hC1⟩ := Kd.R_reads HO.out; refine (norm_any acc A1 c1 _ hC1 hc1 HG.out.2.1 HLEN.out).mono ?_; rintro e w1 ⟨v, rfl, ho, hb⟩; rw [HF.out] at ho; have HO2 := Aside0.mk ho; have HB2 := Aside0.mk hb; clear ho hb))
        go_ret
        exact ⟨_, rfl, Kd.R_lower HO2.out HBB.out.size, below_then HBB.out HBB.out.size HB2.out⟩
end Go.Proofs.Ytplkmbdoecepeaa
