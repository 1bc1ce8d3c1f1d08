/- Part 2 of the library of this claim: what the program and the document compute, as contracts of their functions. -/
import Derived.Test.YtgpjplelgffocaaDoorR1
import Derived.Deep.QuietTactic
import Derived.BigQuiet
import Derived.Laws.Bits64b
import Derived.BigRegion
import Derived.Deep.RegionWith
import Ieee.Arith
import Derived.Laws.FloatArith
import Derived.Laws.BitsAllLaws
namespace Go.Proofs.YtgpjplelgffocaaDoor
open Go.RowKit Go.Proofs.YtgpjplelgffocaaDoorW.PrintWords Limb
set_option linter.unusedVariables false
set_option linter.unusedSimpArgs false

theorem drewN_of {w w1 w2 : World} (h : ∃ n, w1 = w.drewN n) (k : ∃ n, w2 = w1.drewN n) : ∃ n, w2 = w.drewN n := by
  obtain ⟨n, rfl⟩ := h
  obtain ⟨m, rfl⟩ := k
  exact ⟨n + m, by simp [World.drewN_drewN]⟩
/-- Trim of a row of one's own. -/
theorem trim_own {W : World} {base : Nat} {A : Option Addr} {n c : Nat} {l : List Nat} (h : kU.R 23 W base (fun _ => True) (.slice A n c) l) (wl : Wf l) (hl : n ≤ 4294967296) :
    Calls Tryd.prog 44 #[.slice A n c] W fun e w' => ∃ v, e = .returned v ∧ PL w' base v (limbs (nv l)) ∧ ∃ m, w' = W.drewN m := by
  obtain ⟨h1, h2, h3⟩ := Kd.R_reads' h
  subst h1
  refine (trim_any l A c W h3 h2 wl hl).mono ?_
  rintro e w' ⟨rfl, m, rfl⟩
  exact ⟨_, rfl, (PL.trim h wl).below (pw_below_drewN (Below.refl _ _) _), ⟨m, rfl⟩⟩
theorem take_set (l : List Nat) (k x : Nat) : (l.set k x).take k = l.take k := by
  apply List.ext_getElem?
  intro i
  rcases Nat.lt_or_ge i k with hi | hi
  · rw [List.getElem?_take_of_lt hi, List.getElem?_take_of_lt hi, List.getElem?_set_ne (by omega)]
  · rw [List.getElem?_eq_none (by rw [List.length_take]; omega), List.getElem?_eq_none (by rw [List.length_take]; omega)]
theorem wd_set (l : List Nat) (k x : Nat) (h : k < l.length) : wd (l.set k x) k = x := by
  unfold wd
  rw [List.getElem?_set_self h]; rfl
theorem nv_take_set (l : List Nat) (k x : Nat) (h : k < l.length) : nv ((l.set k x).take (k + 1)) = nv (l.take k) + 2 ^ (64 * k) * x := by
  rw [nv_take_succ, take_set, wd_set l k x h]

set_option maxHeartbeats 1000000 in
theorem padd_any (a b : List Nat) (A B : Option Addr) (na nb c d : Nat) (hna : a.length = na) (hnb : b.length = nb) (w : World) (ha : kU.C w A na a) (hb : kU.C w B nb b) (hc : na ≤ c) (hd : nb ≤ d) (wa : Wf a) (wb : Wf b) (la : na ≤ 2147483648) (lb : nb ≤ 2147483648) :
    Calls Tryd.prog 99 #[.slice A na c, .slice B nb d] w fun e w' => ∃ v, e = .returned v ∧ PL w' w.heap.size v (limbs (nv a + nv b)) ∧ Below w.heap.size w w' := by
  have Ha := Aside0.mk ha
  have Hb := Aside0.mk hb
  have Wa := Aside0.mk wa
  have Wb := Aside0.mk wb
  have HNa := Aside0.mk hna
  have HNb := Aside0.mk hnb
  clear ha hb wa wb hna hnb
  rcases Nat.lt_or_ge na nb with hab | hab
  ·
    go_enter Tryd.func99, Tryd.ntmps99
    obtain ⟨N, hN⟩ : ∃ N, N = nb + 1 := ⟨_, rfl⟩
    have hN1 : (nb : Int) + 1 = (N : Int) := by omega
    have hNl : N ≤ 2147483649 := by omega
    have hNg : nb < N := by omega
    have HN_ := Aside0.mk hN
    clear hN
    go_wp2_with ((with_reducible refine gate_dst (N := 19) rfl ?_); go_must (refine Kd.R_make kU (w0 := w) w.heap.size 23 rfl rfl 24 (.tmp 18) (.tmp 18) rfl (N : Int) ?mx ?my Tryd.underlying24 (.int .u64 0) 8 info_word rfl (by decide) (by decide) 0 (ok := fun _ => True) (okp := fun _ => False) ?mz (fun _ h => h.elim) trivial (by omega) ?ml (Below.refl _ _) (Nat.le_refl _) ?_; (case mx => rfl); (case my => rfl); (case mz => rfl); (case ml => omega); intro v_3 w_3 ho hb hg hown; obtain ⟨g, cap, rfl, hg1, hg2, _⟩ := Kd.R_form ho (by simp; omega); rw [show (List.replicate ((N : Int)).toNat (0 : Nat)).length = N by simp] at ho ⊢; have HO := Aside0.mk ho; have B3 := Aside0.mk hb; have HG := Aside0.mk hg1; clear ho hb hg hown hg1 hg2))
    go_loopw [6, 22] (fun v6 v22 wr => ∃ (k cy : Nat) (o : List Nat), v6 = .int .u64 cy ∧ v22 = .int .i64 k ∧ k ≤ nb ∧ cy ≤ 1 ∧ Aside0 (Below w.heap.size w wr) ∧ Aside0 (kU.R 23 wr w.heap.size (fun _ => True) (.slice (some ⟨g, 0, none⟩) N cap) o) ∧ Aside0 (o.length = N ∧ Wf o ∧ nv (o.take k) + 2 ^ (64 * k) * cy = nv (b.take k) + nv (a.take k))) (fun _ v22 _ => nb - (intOf v22).toNat)
    case atStart => exact ⟨0, 0, _, rfl, rfl, Nat.zero_le _, by omega, B3, HO, ⟨by simp, Wf.replicate _, by simp [nv]⟩⟩
    case round =>
      obtain ⟨k, cy, o, rfl, rfl, hk, hcy, HB, HO1, HG1⟩ := hrel
      by_cases hlt : k < nb
      · obtain ⟨ad, x, hA', hx0, hcell⟩ := at_word (Kd.C_below Hb.out HB.out) HNb.out k hlt
        subst hA'
        have HX := Aside0.mk (wd_of hx0)
        have hx64 : x < 18446744073709551616 := Wb.out.get hx0
        clear hx0
        have hkN : k < N := by omega
        obtain ⟨hw1, hw2, hput⟩ := put_word HO1.out hkN
        have HPUT := Aside0.mk hput
        clear hput
        by_cases hlt2 : k < na
        · obtain ⟨bd, y, hB', hy0, hcell2⟩ := at_word (Kd.C_below Ha.out HB.out) HNa.out k hlt2
          subst hB'
          have HY := Aside0.mk (wd_of hy0)
          have hy64 : y < 18446744073709551616 := Wa.out.get hy0
          clear hy0
          obtain ⟨s, c', hs1, hs2, hs3, hs4⟩ : ∃ s c' : Nat, s < 18446744073709551616 ∧ c' ≤ 1 ∧ s + 18446744073709551616 * c' = x + y + cy ∧ ∀ W : World, (callFunc 106 #[.int .u64 (x : Int), .int .u64 (y : Int), .int .u64 (cy : Int)]).run Tryd.prog W = .ok (.value (.tuple #[.int .u64 (s : Int), .int .u64 (c' : Int)])) W := ⟨(x + y + cy) % 18446744073709551616, (x + y + cy) / 18446744073709551616, by omega, by omega, by omega, fun W => Tryd.bits_Add64 x y cy hcy W⟩
          have hst := run_store_word (P := Tryd.prog) (u := (s : Int)) hw1 hw2
          have HS := Aside0.mk hs3
          clear hs3
          go_wp2
          go_roundw
          case rel => exact ⟨k + 1, c', o.set k s, rfl, by go_num, by omega, hs2, ⟨HB.out.setCell HG.out _⟩, ⟨HPUT.out s⟩, ⟨by simp [HG1.out.1], HG1.out.2.1.set hs1, by
            rw [nv_take_set o k s (by have := HG1.out.1; omega), nv_take_succ, nv_take_succ, HX.out, HY.out]
            exact add_step HG1.out.2.2 HS.out rfl⟩⟩
          case measure => simp [intOf]; omega
        · have HY := Aside0.mk (show wd a k = 0 from wd_ge (by have := HNa.out; omega))
          obtain ⟨s, c', hs1, hs2, hs3, hs4⟩ : ∃ s c' : Nat, s < 18446744073709551616 ∧ c' ≤ 1 ∧ s + 18446744073709551616 * c' = x + 0 + cy ∧ ∀ W : World, (callFunc 106 #[.int .u64 (x : Int), .int .u64 0, .int .u64 (cy : Int)]).run Tryd.prog W = .ok (.value (.tuple #[.int .u64 (s : Int), .int .u64 (c' : Int)])) W := ⟨(x + 0 + cy) % 18446744073709551616, (x + 0 + cy) / 18446744073709551616, by omega, by omega, by omega, fun W => Tryd.bits_Add64 x 0 cy hcy W⟩
          have hst := run_store_word (P := Tryd.prog) (u := (s : Int)) hw1 hw2
          have HS := Aside0.mk hs3
          clear hs3
          go_wp2
          go_roundw
          case rel => exact ⟨k + 1, c', o.set k s, rfl, by go_num, by omega, hs2, ⟨HB.out.setCell HG.out _⟩, ⟨HPUT.out s⟩, ⟨by simp [HG1.out.1], HG1.out.2.1.set hs1, by
            rw [nv_take_set o k s (by have := HG1.out.1; omega), nv_take_succ, nv_take_succ, HX.out, HY.out]
            exact add_step HG1.out.2.2 HS.out rfl⟩⟩
          case measure => simp [intOf]; omega
      · obtain rfl : k = nb := by omega
        obtain ⟨hw1, hw2, hput⟩ := put_word HO1.out (show k < N by omega)
        have hst := run_store_word (P := Tryd.prog) (u := (cy : Int)) hw1 hw2
        have HR := Aside0.mk (hput cy)
        have HF := Aside0.mk (show nv (o.set k cy) = nv a + nv b by
          have h1 := HG1.out.2.2
          rw [nv_take_all (l := b) (by have := HNb.out; omega), nv_take_all (l := a) (by have := HNa.out; omega)] at h1
          have h2 := nv_take_set o k cy (by have := HG1.out.1; omega)
          rw [nv_take_all (l := o.set k cy) (by have := HN_.out; simp [HG1.out.1]; omega)] at h2
          omega)
        have QT := Aside0.mk (fun (m : World) (h : kU.R 23 m w.heap.size (fun _ => True) (.slice (some ⟨g, 0, none⟩) N cap) (o.set k cy)) => trim_own h (HG1.out.2.1.set (by omega)) (by omega))
        have BS := Aside0.mk (show Below w.heap.size w (wr.setCell ⟨g, k, none⟩ (.int .u64 (cy : Int))) from HB.out.setCell HG.out _)
        clear hput
        go_wp2_with (go_at_call 44; refine (QT.out _ HR.out).mono ?_; rintro e w5 ⟨v, rfl, ho, n5, rfl⟩; rw [HF.out] at ho; have HOO := Aside0.mk ho; clear ho)
        go_ret
        exact ⟨_, rfl, HOO.out, pw_below_drewN BS.out _⟩
  ·
    go_enter Tryd.func99, Tryd.ntmps99
    obtain ⟨N, hN⟩ : ∃ N, N = na + 1 := ⟨_, rfl⟩
    have hN1 : (na : Int) + 1 = (N : Int) := by omega
    have hNl : N ≤ 2147483649 := by omega
    have hNg : na < N := by omega
    have HN_ := Aside0.mk hN
    clear hN
    go_wp2_with ((with_reducible refine gate_dst (N := 19) rfl ?_); go_must (refine Kd.R_make kU (w0 := w) w.heap.size 23 rfl rfl 24 (.tmp 18) (.tmp 18) rfl (N : Int) ?mx ?my Tryd.underlying24 (.int .u64 0) 8 info_word rfl (by decide) (by decide) 0 (ok := fun _ => True) (okp := fun _ => False) ?mz (fun _ h => h.elim) trivial (by omega) ?ml (Below.refl _ _) (Nat.le_refl _) ?_; (case mx => rfl); (case my => rfl); (case mz => rfl); (case ml => omega); intro v_3 w_3 ho hb hg hown; obtain ⟨g, cap, rfl, hg1, hg2, _⟩ := Kd.R_form ho (by simp; omega); rw [show (List.replicate ((N : Int)).toNat (0 : Nat)).length = N by simp] at ho ⊢; have HO := Aside0.mk ho; have B3 := Aside0.mk hb; have HG := Aside0.mk hg1; clear ho hb hg hown hg1 hg2))
    go_loopw [6, 22] (fun v6 v22 wr => ∃ (k cy : Nat) (o : List Nat), v6 = .int .u64 cy ∧ v22 = .int .i64 k ∧ k ≤ na ∧ cy ≤ 1 ∧ Aside0 (Below w.heap.size w wr) ∧ Aside0 (kU.R 23 wr w.heap.size (fun _ => True) (.slice (some ⟨g, 0, none⟩) N cap) o) ∧ Aside0 (o.length = N ∧ Wf o ∧ nv (o.take k) + 2 ^ (64 * k) * cy = nv (a.take k) + nv (b.take k))) (fun _ v22 _ => na - (intOf v22).toNat)
    case atStart => exact ⟨0, 0, _, rfl, rfl, Nat.zero_le _, by omega, B3, HO, ⟨by simp, Wf.replicate _, by simp [nv]⟩⟩
    case round =>
      obtain ⟨k, cy, o, rfl, rfl, hk, hcy, HB, HO1, HG1⟩ := hrel
      by_cases hlt : k < na
      · obtain ⟨ad, x, hA', hx0, hcell⟩ := at_word (Kd.C_below Ha.out HB.out) HNa.out k hlt
        subst hA'
        have HX := Aside0.mk (wd_of hx0)
        have hx64 : x < 18446744073709551616 := Wa.out.get hx0
        clear hx0
        have hkN : k < N := by omega
        obtain ⟨hw1, hw2, hput⟩ := put_word HO1.out hkN
        have HPUT := Aside0.mk hput
        clear hput
        by_cases hlt2 : k < nb
        · obtain ⟨bd, y, hB', hy0, hcell2⟩ := at_word (Kd.C_below Hb.out HB.out) HNb.out k hlt2
          subst hB'
          have HY := Aside0.mk (wd_of hy0)
          have hy64 : y < 18446744073709551616 := Wb.out.get hy0
          clear hy0
          obtain ⟨s, c', hs1, hs2, hs3, hs4⟩ : ∃ s c' : Nat, s < 18446744073709551616 ∧ c' ≤ 1 ∧ s + 18446744073709551616 * c' = x + y + cy ∧ ∀ W : World, (callFunc 106 #[.int .u64 (x : Int), .int .u64 (y : Int), .int .u64 (cy : Int)]).run Tryd.prog W = .ok (.value (.tuple #[.int .u64 (s : Int), .int .u64 (c' : Int)])) W := ⟨(x + y + cy) % 18446744073709551616, (x + y + cy) / 18446744073709551616, by omega, by omega, by omega, fun W => Tryd.bits_Add64 x y cy hcy W⟩
          have hst := run_store_word (P := Tryd.prog) (u := (s : Int)) hw1 hw2
          have HS := Aside0.mk hs3
          clear hs3
          go_wp2
          go_roundw
          case rel => exact ⟨k + 1, c', o.set k s, rfl, by go_num, by omega, hs2, ⟨HB.out.setCell HG.out _⟩, ⟨HPUT.out s⟩, ⟨by simp [HG1.out.1], HG1.out.2.1.set hs1, by
            rw [nv_take_set o k s (by have := HG1.out.1; omega), nv_take_succ, nv_take_succ, HX.out, HY.out]
            exact add_step HG1.out.2.2 HS.out rfl⟩⟩
          case measure => simp [intOf]; omega
        · have HY := Aside0.mk (show wd b k = 0 from wd_ge (by have := HNb.out; omega))
          obtain ⟨s, c', hs1, hs2, hs3, hs4⟩ : ∃ s c' : Nat, s < 18446744073709551616 ∧ c' ≤ 1 ∧ s + 18446744073709551616 * c' = x + 0 + cy ∧ ∀ W : World, (callFunc 106 #[.int .u64 (x : Int), .int .u64 0, .int .u64 (cy : Int)]).run Tryd.prog W = .ok (.value (.tuple #[.int .u64 (s : Int), .int .u64 (c' : Int)])) W := ⟨(x + 0 + cy) % 18446744073709551616, (x + 0 + cy) / 18446744073709551616, by omega, by omega, by omega, fun W => Tryd.bits_Add64 x 0 cy hcy W⟩
          have hst := run_store_word (P := Tryd.prog) (u := (s : Int)) hw1 hw2
          have HS := Aside0.mk hs3
          clear hs3
          go_wp2
          go_roundw
          case rel => exact ⟨k + 1, c', o.set k s, rfl, by go_num, by omega, hs2, ⟨HB.out.setCell HG.out _⟩, ⟨HPUT.out s⟩, ⟨by simp [HG1.out.1], HG1.out.2.1.set hs1, by
            rw [nv_take_set o k s (by have := HG1.out.1; omega), nv_take_succ, nv_take_succ, HX.out, HY.out]
            exact add_step HG1.out.2.2 HS.out rfl⟩⟩
          case measure => simp [intOf]; omega
      · obtain rfl : k = na := by omega
        obtain ⟨hw1, hw2, hput⟩ := put_word HO1.out (show k < N by omega)
        have hst := run_store_word (P := Tryd.prog) (u := (cy : Int)) hw1 hw2
        have HR := Aside0.mk (hput cy)
        have HF := Aside0.mk (show nv (o.set k cy) = nv a + nv b by
          have h1 := HG1.out.2.2
          rw [nv_take_all (l := a) (by have := HNa.out; omega), nv_take_all (l := b) (by have := HNb.out; omega)] at h1
          have h2 := nv_take_set o k cy (by have := HG1.out.1; omega)
          rw [nv_take_all (l := o.set k cy) (by have := HN_.out; simp [HG1.out.1]; omega)] at h2
          omega)
        have QT := Aside0.mk (fun (m : World) (h : kU.R 23 m w.heap.size (fun _ => True) (.slice (some ⟨g, 0, none⟩) N cap) (o.set k cy)) => trim_own h (HG1.out.2.1.set (by omega)) (by omega))
        have BS := Aside0.mk (show Below w.heap.size w (wr.setCell ⟨g, k, none⟩ (.int .u64 (cy : Int))) from HB.out.setCell HG.out _)
        clear hput
        go_wp2_with (go_at_call 44; refine (QT.out _ HR.out).mono ?_; rintro e w5 ⟨v, rfl, ho, n5, rfl⟩; rw [HF.out] at ho; have HOO := Aside0.mk ho; clear ho)
        go_ret
        exact ⟨_, rfl, HOO.out, pw_below_drewN BS.out _⟩

set_option maxHeartbeats 1000000 in
theorem psub_any (a b : List Nat) (A B : Option Addr) (na nb c d : Nat) (hna : a.length = na) (hnb : b.length = nb) (w : World) (ha : kU.C w A na a) (hb : kU.C w B nb b) (hc : na ≤ c) (hd : nb ≤ d) (wa : Wf a) (wb : Wf b) (la : na ≤ 2147483648) (lb : nb ≤ 2147483648) (l0 : 0 < na) (hle : nv b ≤ nv a) :
    Calls Tryd.prog 100 #[.slice A na c, .slice B nb d] w fun e w' => ∃ v, e = .returned v ∧ PL w' w.heap.size v (limbs (nv a - nv b)) ∧ Below w.heap.size w w' := by
  have Ha := Aside0.mk ha
  have Hb := Aside0.mk hb
  have Wa := Aside0.mk wa
  have Wb := Aside0.mk wb
  have HNa := Aside0.mk hna
  have HNb := Aside0.mk hnb
  have HLE := Aside0.mk hle
  clear ha hb wa wb hna hnb hle
  go_enter Tryd.func100, Tryd.ntmps100
  go_wp2_with ((with_reducible refine gate_dst (N := 11) rfl ?_); go_must (refine Kd.R_make kU (w0 := w) w.heap.size 23 rfl rfl 24 (.tmp 10) (.tmp 10) rfl (na : Int) ?mx ?my Tryd.underlying24 (.int .u64 0) 8 info_word rfl (by decide) (by decide) 0 (ok := fun _ => True) (okp := fun _ => False) ?mz (fun _ h => h.elim) trivial (by omega) ?ml (Below.refl _ _) (Nat.le_refl _) ?_; (case mx => rfl); (case my => rfl); (case mz => rfl); (case ml => omega); intro v_3 w_3 ho hb hg hown; obtain ⟨g, cap, rfl, hg1, hg2, _⟩ := Kd.R_form ho (by simp; omega); rw [show (List.replicate ((na : Int)).toNat (0 : Nat)).length = na by simp] at ho ⊢; have HO := Aside0.mk ho; have B3 := Aside0.mk hb; have HG := Aside0.mk hg1; clear ho hb hg hown hg1 hg2))
  go_loopw [6, 14] (fun v6 v14 wr => ∃ (k cy : Nat) (o : List Nat), v6 = .int .u64 cy ∧ v14 = .int .i64 k ∧ k ≤ na ∧ cy ≤ 1 ∧ Aside0 (Below w.heap.size w wr) ∧ Aside0 (kU.R 23 wr w.heap.size (fun _ => True) (.slice (some ⟨g, 0, none⟩) na cap) o) ∧ Aside0 (o.length = na ∧ Wf o ∧ nv (o.take k) + nv (b.take k) = nv (a.take k) + 2 ^ (64 * k) * cy)) (fun _ v14 _ => na - (intOf v14).toNat)
  case atStart => exact ⟨0, 0, _, rfl, rfl, Nat.zero_le _, by omega, B3, HO, ⟨by simp, Wf.replicate _, by simp [nv]⟩⟩
  case round =>
    obtain ⟨k, cy, o, rfl, rfl, hk, hcy, HB, HO1, HG1⟩ := hrel
    by_cases hlt : k < na
    · obtain ⟨ad, x, hA', hx0, hcell⟩ := at_word (Kd.C_below Ha.out HB.out) HNa.out k hlt
      subst hA'
      have HX := Aside0.mk (wd_of hx0)
      have hx64 : x < 18446744073709551616 := Wa.out.get hx0
      clear hx0
      obtain ⟨hw1, hw2, hput⟩ := put_word HO1.out hlt
      have HPUT := Aside0.mk hput
      clear hput
      by_cases hlt2 : k < nb
      · obtain ⟨bd, y, hB', hy0, hcell2⟩ := at_word (Kd.C_below Hb.out HB.out) HNb.out k hlt2
        subst hB'
        have HY := Aside0.mk (wd_of hy0)
        have hy64 : y < 18446744073709551616 := Wb.out.get hy0
        clear hy0
        obtain ⟨s, c', hs1, hs2, hs3, hs4⟩ : ∃ s c' : Nat, s < 18446744073709551616 ∧ c' ≤ 1 ∧ s + y + cy = x + 18446744073709551616 * c' ∧ ∀ W : World, (callFunc 107 #[.int .u64 (x : Int), .int .u64 (y : Int), .int .u64 (cy : Int)]).run Tryd.prog W = .ok (.value (.tuple #[.int .u64 (s : Int), .int .u64 (c' : Int)])) W := ⟨(x + 18446744073709551616 - y - cy) % 18446744073709551616, if x < y + cy then 1 else 0, by omega, by split <;> omega, by split <;> omega, fun W => Tryd.bits_Sub64 x y cy hcy W⟩
        have hst := run_store_word (P := Tryd.prog) (u := (s : Int)) hw1 hw2
        have HS := Aside0.mk hs3
        clear hs3
        go_wp2
        go_roundw
        case rel => exact ⟨k + 1, c', o.set k s, rfl, by go_num, by omega, hs2, ⟨HB.out.setCell HG.out _⟩, ⟨HPUT.out s⟩, ⟨by simp [HG1.out.1], HG1.out.2.1.set hs1, by
          rw [nv_take_set o k s (by have := HG1.out.1; omega), nv_take_succ, nv_take_succ, HX.out, HY.out]
          exact sub_step HG1.out.2.2 HS.out rfl⟩⟩
        case measure => simp [intOf]; omega
      · have HY := Aside0.mk (show wd b k = 0 from wd_ge (by have := HNb.out; omega))
        obtain ⟨s, c', hs1, hs2, hs3, hs4⟩ : ∃ s c' : Nat, s < 18446744073709551616 ∧ c' ≤ 1 ∧ s + 0 + cy = x + 18446744073709551616 * c' ∧ ∀ W : World, (callFunc 107 #[.int .u64 (x : Int), .int .u64 0, .int .u64 (cy : Int)]).run Tryd.prog W = .ok (.value (.tuple #[.int .u64 (s : Int), .int .u64 (c' : Int)])) W := ⟨(x + 18446744073709551616 - 0 - cy) % 18446744073709551616, if x < 0 + cy then 1 else 0, by omega, by split <;> omega, by split <;> omega, fun W => Tryd.bits_Sub64 x 0 cy hcy W⟩
        have hst := run_store_word (P := Tryd.prog) (u := (s : Int)) hw1 hw2
        have HS := Aside0.mk hs3
        clear hs3
        go_wp2
        go_roundw
        case rel => exact ⟨k + 1, c', o.set k s, rfl, by go_num, by omega, hs2, ⟨HB.out.setCell HG.out _⟩, ⟨HPUT.out s⟩, ⟨by simp [HG1.out.1], HG1.out.2.1.set hs1, by
          rw [nv_take_set o k s (by have := HG1.out.1; omega), nv_take_succ, nv_take_succ, HX.out, HY.out]
          exact sub_step HG1.out.2.2 HS.out rfl⟩⟩
        case measure => simp [intOf]; omega
    · obtain rfl : k = na := by omega
      have HF := Aside0.mk (show nv o = nv a - nv b by
        have h1 := HG1.out.2.2
        rw [nv_take_all (l := a) (by have := HNa.out; omega), nv_take_all (l := o) (by have := HG1.out.1; omega)] at h1
        have h2 := nv_lt Wa.out
        have h3 := nv_lt HG1.out.2.1
        rw [HNa.out] at h2
        rw [HG1.out.1] at h3
        have h4 := HLE.out
        have h5 : nv (b.take k) = nv b := by rw [nv_take Wb.out]; exact Nat.mod_eq_of_lt (by omega)
        rw [h5] at h1
        have h6 : cy = 0 := by
          refine Classical.byContradiction fun hc => ?_
          have : cy = 1 := by omega
          rw [this, Nat.mul_one] at h1
          omega
        rw [h6, Nat.mul_zero] at h1
        omega)
      have QT := Aside0.mk (trim_own HO1.out HG1.out.2.1 (by omega))
      go_wp2_with (go_at_call 44; refine QT.out.mono ?_; rintro e w5 ⟨v, rfl, ho, n5, rfl⟩; rw [HF.out] at ho; have HOO := Aside0.mk ho; clear ho)
      go_ret
      exact ⟨_, rfl, HOO.out, pw_below_drewN HB.out _⟩

theorem cmp_len {a b : Nat} (h : (limbs a).length < (limbs b).length) : a < b := by
  refine Classical.byContradiction fun hc => ?_
  have h1 := limbs_ge h
  have h2 := nv_lt (wf_limbs a)
  rw [nv_limbs] at h2
  omega
set_option maxHeartbeats 1000000 in
theorem pcmp_any (a b : List Nat) (A B : Option Addr) (na nb c d : Nat) (hna : a.length = na) (hnb : b.length = nb) (w : World) (ha : kU.C w A na a) (hb : kU.C w B nb b) (hc : na ≤ c) (hd : nb ≤ d) (wa : Wf a) (wb : Wf b) (la : na ≤ 4294967296) (lb : nb ≤ 4294967296) :
    Calls Tryd.prog 73 #[.slice A na c, .slice B nb d] w fun e w' => e = .returned (.int .i64 (cmpN (nv a) (nv b))) ∧ ∃ n, w' = w.drewN n := by
  subst hna hnb
  have QA := Aside0.mk (trim_any a A c w ha hc wa la)
  have QB := Aside0.mk (fun (m : Nat) => trim_any b B d (w.drewN m) (Kd.C_drewN hb _) hd wb lb)
  have CA := Aside0.mk (C_trim ha wa)
  have CB := Aside0.mk (C_trim hb wb)
  have l1 := Nat.le_trans (limbs_nv_len wa) la
  have l2 := Nat.le_trans (limbs_nv_len wb) lb
  obtain ⟨p, hp⟩ : ∃ p, p = nv a := ⟨_, rfl⟩
  obtain ⟨q, hq⟩ : ∃ p, p = nv b := ⟨_, rfl⟩
  rw [← hp] at QA CA l1 ⊢
  rw [← hq] at QB CB l2 ⊢
  clear hp hq ha hb wa wb la lb
  obtain ⟨L, hL⟩ : ∃ L, L = limbs p := ⟨_, rfl⟩
  obtain ⟨M, hM⟩ : ∃ L, L = limbs q := ⟨_, rfl⟩
  have HL := Aside0.mk hL
  have HM := Aside0.mk hM
  rw [← hL] at QA CA l1
  rw [← hM] at QB CB l2
  have WL := Aside0.mk (show Wf L by rw [hL]; exact wf_limbs _)
  have WM := Aside0.mk (show Wf M by rw [hM]; exact wf_limbs _)
  have VL := Aside0.mk (show nv L = p by rw [hL, nv_limbs])
  have VM := Aside0.mk (show nv M = q by rw [hM, nv_limbs])
  clear hL hM
  obtain ⟨n1, hn1⟩ : ∃ n, n = L.length := ⟨_, rfl⟩
  obtain ⟨n2, hn2⟩ : ∃ n, n = M.length := ⟨_, rfl⟩
  have N1 := Aside0.mk hn1
  have N2 := Aside0.mk hn2
  rw [← hn1] at QA CA l1
  rw [← hn2] at QB CB l2
  clear hn1 hn2
  rcases Nat.lt_trichotomy n1 n2 with h | h | h
  · have h1 : ((n1 : Int) != (n2 : Int)) = true := by simp; omega
    have h2 : (n1 : Int) < n2 := by omega
    have HV := Aside0.mk (show cmpN p q = -1 by unfold cmpN; rw [if_pos (cmp_len (by rw [← HL.out, ← HM.out, ← N1.out, ← N2.out]; exact h))])
    go_enter Tryd.func73, Tryd.ntmps73
    go_wp2_with (go_at_call 44; first | (with_reducible refine QA.out.mono ?_; rintro e w' ⟨rfl, n, rfl⟩) | (with_reducible refine (QB.out _).mono ?_; rintro e w' ⟨rfl, n5, rfl⟩))
    go_ret
    exact ⟨ret_int (by rw [HV.out]), ⟨_, rfl⟩⟩
  · subst h
    have h1 : ((n1 : Int) != (n1 : Int)) = false := by simp
    go_enter Tryd.func73, Tryd.ntmps73
    go_wp2_with (go_at_call 44; first | (with_reducible refine QA.out.mono ?_; rintro e w' ⟨rfl, n, rfl⟩) | (with_reducible refine (QB.out _).mono ?_; rintro e w' ⟨rfl, n5, rfl⟩))
    go_loopw [5] (fun v5 wr => ∃ k : Nat, v5 = .int .i64 ((k : Int) - 1) ∧ k ≤ n1 ∧ Aside0 (∃ n, wr = w.drewN n) ∧ Aside0 (nv (L.drop k) = nv (M.drop k))) (fun v5 _ => (intOf v5 + 1).toNat)
    case atStart => exact ⟨n1, rfl, Nat.le_refl _, ⟨⟨_, rfl⟩⟩, ⟨by rw [List.drop_eq_nil_of_le (by have := N1.out; omega), List.drop_eq_nil_of_le (by have := N2.out; omega)]⟩⟩
    case round =>
      obtain ⟨k, rfl, hk, HW, HG⟩ := hrel
      obtain ⟨nw, rfl⟩ := HW.out
      clear HW
      by_cases hk0 : k = 0
      · subst hk0
        have HE := Aside0.mk (show p = q by rw [← VL.out, ← VM.out]; simpa using HG.out)
        have HS := Aside0.mk (show cmpN p q = 0 by unfold cmpN; rw [HE.out]; simp)
        go_wp2
        go_ret
        exact ⟨ret_int (by rw [HS.out]), ⟨nw, rfl⟩⟩
      · obtain ⟨j, rfl⟩ : ∃ j, k = j + 1 := ⟨k - 1, by omega⟩
        have hj1 : ((j + 1 : Nat) : Int) - 1 = (j : Int) := by omega
        rw [hj1]
        clear hj1 hk0
        have h0 : (0 : Int) ≤ (j : Int) := by omega
        obtain ⟨ad, x, hA', hx0, hcell⟩ := at_word CA.out N1.out.symm j (by omega)
        obtain ⟨bd, y, hB', hy0, hcell2⟩ := at_word CB.out N2.out.symm j (by omega)
        subst hA' hB'
        have HX := Aside0.mk (wd_of hx0)
        have HY := Aside0.mk (wd_of hy0)
        have hx64 : x < 18446744073709551616 := WL.out.get hx0
        have hy64 : y < 18446744073709551616 := WM.out.get hy0
        clear hx0 hy0
        have hjn : j < n1 := by omega
        rcases Nat.lt_trichotomy x y with hxy | hxy | hxy
        · have e1 : ((x : Int) != (y : Int)) = true := by simp; omega
          have e2 : (x : Int) < y := by omega
          have HV := Aside0.mk (show cmpN p q = -1 by rw [← VL.out, ← VM.out]; exact cmp_lt WL.out HG.out (by rw [HX.out, HY.out]; exact hxy))
          go_wp2
          go_quiet (fail)
          go_wp2
          go_quiet (fail)
          go_wp2
          go_ret
          exact ⟨ret_int (by rw [HV.out]), drewN_of ⟨_, rfl⟩ (drewN_of ⟨_, rfl⟩ ⟨_, rfl⟩)⟩
        · subst hxy
          have e1 : ((x : Int) != (x : Int)) = false := by simp
          go_wp2
          go_quiet (fail)
          go_wp2
          go_roundw
          case rel => exact ⟨j, rfl, by omega, ⟨by first | exact ⟨_, rfl⟩ | exact drewN_of ⟨_, rfl⟩ ⟨_, rfl⟩⟩, ⟨by have e1 := HX.out; have e2 := HY.out; have e3 := HG.out; have e4 := nv_drop_step L j; have e5 := nv_drop_step M j; omega⟩⟩
          case measure => simp [intOf]
        · have e1 : ((x : Int) != (y : Int)) = true := by simp; omega
          have e2 : ¬ (x : Int) < y := by omega
          have HV := Aside0.mk (show cmpN p q = 1 by rw [← VL.out, ← VM.out]; exact cmp_gt WM.out HG.out (by rw [HX.out, HY.out]; exact hxy))
          go_wp2
          go_quiet (fail)
          go_wp2
          go_quiet (fail)
          go_wp2
          go_ret
          exact ⟨ret_int (by rw [HV.out]), drewN_of ⟨_, rfl⟩ (drewN_of ⟨_, rfl⟩ ⟨_, rfl⟩)⟩
  · have h1 : ((n1 : Int) != (n2 : Int)) = true := by simp; omega
    have h2 : ¬ (n1 : Int) < n2 := by omega
    have HV := Aside0.mk (show cmpN p q = 1 by
      have := cmp_len (a := q) (b := p) (by rw [← HL.out, ← HM.out, ← N1.out, ← N2.out]; exact h)
      unfold cmpN; rw [if_neg (by omega), if_pos this])
    go_enter Tryd.func73, Tryd.ntmps73
    go_wp2_with (go_at_call 44; first | (with_reducible refine QA.out.mono ?_; rintro e w' ⟨rfl, n, rfl⟩) | (with_reducible refine (QB.out _).mono ?_; rintro e w' ⟨rfl, n5, rfl⟩))
    go_ret
    exact ⟨ret_int (by rw [HV.out]), ⟨_, rfl⟩⟩
end Go.Proofs.YtgpjplelgffocaaDoor

namespace Go.Proofs.YtgpjplelgffocaaDoor
open Go.RowKit Go.Proofs.YtgpjplelgffocaaDoorW.PrintWords Limb
set_option linter.unusedVariables false
set_option linter.unusedSimpArgs false

theorem nv_set2 {l : List Nat} {i : Nat} (h : i < l.length) (x : Nat) (h0 : wd l i = 0) : nv (l.set i x) = nv l + 2 ^ (64 * i) * x := by
  have := nv_set h x
  rw [h0, Nat.mul_zero, Nat.add_zero] at this
  exact this

theorem shl_two (p s c : Nat) : 2 ^ (64 * p) * s + 2 ^ (64 * (p + 1)) * c = 2 ^ (64 * p) * (s + 2 ^ 64 * c) := by
  rw [pw p, Nat.mul_add, Nat.mul_assoc, Nat.mul_left_comm]
set_option maxHeartbeats 1000000 in
theorem pshl_any (a : List Nat) (A : Option Addr) (na c n : Nat) (hna : a.length = na) (w : World) (ha : kU.C w A na a) (hc : na ≤ c) (wa : Wf a) (la : na ≤ 1073741824) (ln : n ≤ 68719476736) :
    Calls Tryd.prog 95 #[.slice A na c, .int .i64 (n : Int)] w fun e w' => ∃ v, e = .returned v ∧ PL w' w.heap.size v (limbs (nv a * 2 ^ n)) ∧ Below w.heap.size w w' := by
  subst hna
  have QA := Aside0.mk (trim_any a A c w ha hc wa (by omega))
  have CA := Aside0.mk (C_trim ha wa)
  obtain ⟨L, hL⟩ : ∃ L, L = limbs (nv a) := ⟨_, rfl⟩
  obtain ⟨n1, hn1⟩ : ∃ n, n = L.length := ⟨_, rfl⟩
  have ln1 : n1 ≤ 1073741824 := by have := limbs_nv_len wa; rw [hn1, hL]; omega
  have WL := Aside0.mk (show Wf L by rw [hL]; exact wf_limbs _)
  have VL := Aside0.mk (show nv L = nv a by rw [hL, nv_limbs])
  have NL := Aside0.mk hn1.symm
  rw [← hL, ← hn1] at QA CA
  clear ha hc wa la hL hn1
  by_cases h0 : n1 = 0
  · subst h0
    have HZ := Aside0.mk (show limbs (nv a * 2 ^ n) = [] by rw [← VL.out, List.length_eq_zero_iff.1 NL.out]; simp [nv, limbs_zero])
    go_enter Tryd.func95, Tryd.ntmps95
    go_wp2_with (go_at_call 44; refine QA.out.mono ?_; rintro e w_1 ⟨rfl, nq1, rfl⟩)
    go_ret
    exact ⟨_, rfl, by rw [HZ.out]; exact PL.nil _ _, pw_below_drewN (Below.refl _ _) _⟩
  have h00 : ((n1 : Int) == 0) = false := by simp; exact h0
  obtain ⟨q, hq⟩ : ∃ q, q = n / 64 := ⟨_, rfl⟩
  obtain ⟨k, hk⟩ : ∃ k, k = n % 64 := ⟨_, rfl⟩
  have hdv : (n : Int).tdiv 64 = (q : Int) := by rw [Int.tdiv_eq_ediv_of_nonneg (by omega)]; omega
  have hmd : (n : Int).tmod 64 = (k : Int) := by rw [Int.tmod_eq_emod_of_nonneg (by omega)]; omega
  have hk63 : k ≤ 63 := by omega
  have hq30 : q ≤ 1073741824 := by omega
  have HNK := Aside0.mk (show n = 64 * q + k by omega)
  clear hq hk
  obtain ⟨N, hN⟩ : ∃ N, N = q + n1 + 1 := ⟨_, rfl⟩
  have hN1 : (q : Int) + n1 + 1 = (N : Int) := by omega
  have hN2 : N ≤ 2147483649 := by omega
  have hN3 : q + n1 < N := by omega
  have hNp : 0 < N := by omega
  have HN := Aside0.mk hN
  clear hN h0
  go_enter Tryd.func95, Tryd.ntmps95
  go_wp2_with (first
    | (go_at_call 44; refine QA.out.mono ?_; rintro e w_2 ⟨rfl, hw2⟩; have W2 := Aside0.mk (show Below w.heap.size w w_2 by obtain ⟨m, rfl⟩ := hw2; exact pw_below_drewN (Below.refl _ _) _); have C1 := Aside0.mk (Kd.C_below CA.out W2.out); clear hw2)
    | ((with_reducible refine gate_dst (N := 20) rfl ?_); go_must (refine Kd.R_make kU (w0 := w_2) w_2.heap.size 23 rfl rfl 24 (.tmp 19) (.tmp 19) rfl (N : Int) ?mx ?my Tryd.underlying24 (.int .u64 0) 8 info_word rfl (by decide) (by decide) 0 (ok := fun _ => True) (okp := fun _ => False) ?mz (fun _ h => h.elim) trivial (by omega) ?ml (Below.refl _ _) (Nat.le_refl _) ?_; (case mx => rfl); (case my => rfl); (case mz => rfl); (case ml => omega); intro v_3 w_3 ho hb hg hown; obtain ⟨g, cap, rfl, hg1, hg2, _⟩ := Kd.R_form ho (by simp; omega); rw [show (List.replicate ((N : Int)).toNat (0 : Nat)).length = N by simp] at ho ⊢; have HO := Aside0.mk ho; have B3 := Aside0.mk hb; have HG := Aside0.mk hg1; clear ho hb hg hown hg1 hg2)))
  go_loopw [25] (fun v25 wr => ∃ (i : Nat) (o : List Nat), v25 = .int .i64 i ∧ i ≤ n1 ∧ Aside0 (Below w_2.heap.size w_2 wr) ∧ Aside0 (kU.R 23 wr w_2.heap.size (fun _ => True) (.slice (some ⟨g, 0, none⟩) N cap) o) ∧ Aside0 (o.length = N ∧ Wf o ∧ nv o = nv (L.take i) * 2 ^ (64 * q + k))) (fun v25 _ => n1 - (intOf v25).toNat)
  case atStart => exact ⟨0, _, rfl, Nat.zero_le _, B3, HO, ⟨by simp, Wf.replicate _, by rw [nv_replicate]; simp [nv]⟩⟩
  case round =>
    obtain ⟨i, o, rfl, hi, HB, HO1, HG1⟩ := hrel
    by_cases hlt : i < n1
    · obtain ⟨ad, x, hA', hx0, hcell⟩ := at_word (Kd.C_below C1.out HB.out) NL.out i hlt
      subst hA'
      have HX := Aside0.mk (wd_of hx0)
      have hx64 : x < 18446744073709551616 := WL.out.get hx0
      clear hx0
      obtain ⟨p, hp⟩ : ∃ p, p = q + i := ⟨_, rfl⟩
      have hpN : p < N := by omega
      have hp1N : p + 1 < N := by have := HN.out; omega
      have hp1 : (q : Int) + i = (p : Int) := by omega
      have HP := Aside0.mk hp
      obtain ⟨w0, hw0⟩ : ∃ w0, w0 = wd o p := ⟨_, rfl⟩
      have HW0 := Aside0.mk hw0
      have hsmall : nv o < 2 ^ (64 * p + k) := by
        rw [HG1.out.2.2, HP.out, show 64 * (q + i) + k = 64 * i + (64 * q + k) by omega]
        have h5 := Nat.mul_lt_mul_of_pos_right (nv_take_lt WL.out i) (Nat.two_pow_pos (64 * q + k))
        rw [← Nat.pow_add] at h5
        exact h5
      have hw0k : w0 < 2 ^ k := by
        rw [hw0, wd_eq HG1.out.2.1]
        refine Nat.lt_of_le_of_lt (Nat.mod_le _ _) ?_
        rw [Nat.div_lt_iff_lt_mul (Nat.two_pow_pos _), ← Nat.pow_add]
        rw [Nat.add_comm]; exact hsmall
      have hw64 : w0 < 18446744073709551616 := by rw [hw0]; exact wd_lt HG1.out.2.1 p
      have HZ1 := Aside0.mk (show wd o (p + 1) = 0 from wd_small HG1.out.2.1 (k := p + 1) (Nat.lt_of_lt_of_le hsmall (Nat.pow_le_pow_right (by decide) (by omega))) (Nat.le_refl _))
      obtain ⟨hw1, hw2, hput⟩ := put_word HO1.out hpN
      rw [← hw0] at hw1
      obtain ⟨h1, h2, h3, h4⟩ := shl_word hx64 hk63 hw0k
      obtain ⟨s, hs⟩ : ∃ s, s = x * 2 ^ k % 2 ^ 64 := ⟨_, rfl⟩
      obtain ⟨t, ht⟩ : ∃ t, t = s + w0 := ⟨_, rfl⟩
      obtain ⟨c', hc'⟩ : ∃ c', c' = x / 2 ^ (64 - k) := ⟨_, rfl⟩
      have hd := Nat.mod_add_div (x * 2 ^ k) (2 ^ 64)
      rw [← hs, h3, ← hc'] at hd
      rw [← hs] at h1 h2
      rw [← hc'] at h4
      have hs64 : s < 18446744073709551616 := by rw [hs]; exact Nat.mod_lt _ (by decide)
      have hsh : IntKind.u64.wrap ((x : Int) * 2 ^ k) = (s : Int) := by
        rw [hs]; unfold IntKind.wrap; simp [IntKind.bits, IntKind.signed]
      have hor : bits .or .u64 (w0 : Int) (s : Int) = (t : Int) := by
        rw [bits_or_u64_nat w0 s hw64 hs64, Nat.or_comm, h1, ht]
      have hdd : s + 2 ^ 64 * c' = x * 2 ^ k := by omega
      have hc64 : c' < 18446744073709551616 := Nat.lt_of_lt_of_le h4 (Nat.pow_le_pow_right (by decide) (show k ≤ 64 by omega))
      have ht64 : t < 18446744073709551616 := by omega
      have hshr : (x : Int) / 2 ^ (64 - k) = (c' : Int) := by rw [hc']; simp
      have HDD := Aside0.mk hdd
      have HT := Aside0.mk ht
      have HC4 := Aside0.mk h4
      have HPUT := Aside0.mk hput
      have hst := run_store_word (P := Tryd.prog) (u := (t : Int)) hw1 hw2
      have HO2 := Aside0.mk (hput t)
      have HL2 := Aside0.mk (show (o.set p t).length = N by simp [HG1.out.1])
      have HV2 := Aside0.mk (show nv (o.set p t) = nv o + 2 ^ (64 * p) * s by
        have := nv_set (l := o) (i := p) (by have := HG1.out.1; omega) t
        rw [← HW0.out] at this
        have h5 : 2 ^ (64 * p) * t = 2 ^ (64 * p) * s + 2 ^ (64 * p) * w0 := by rw [HT.out, Nat.mul_add]
        omega)
      have HS2 := Aside0.mk (show nv (L.take (i + 1)) * 2 ^ (64 * q + k) = nv o + 2 ^ (64 * p) * (x * 2 ^ k) by
        rw [nv_take_succ, HX.out, Nat.add_mul, ← HG1.out.2.2, HP.out]
        congr 1
        rw [Nat.mul_add, Nat.pow_add, Nat.pow_add]
        simp only [Nat.mul_assoc, Nat.mul_comm, Nat.mul_left_comm])
      clear h1 h2 h3 h4 hd hs ht hc' hput hw0k hsmall hw0 hdd hp
      by_cases hk0 : k = 0
      · have hkn : k ≤ 0 := by omega
        have hkd : decide (0 < (k : Int)) = false := decide_eq_false (by omega)
        have HC0 := Aside0.mk (show c' = 0 by have := HC4.out; rw [hk0] at this; omega)
        clear hk0
        go_wp2
        go_region
        go_wp2
        go_roundw
        case rel => exact ⟨i + 1, o.set p t, by go_num, by omega, ⟨below_drew (HB.out.setCell HG.out _)⟩, ⟨Kd.R_drewN HO2.out 1⟩, ⟨HL2.out, HG1.out.2.1.set ht64, by
          rw [HV2.out, HS2.out]
          have h5 := HDD.out
          rw [HC0.out, Nat.mul_zero, Nat.add_zero] at h5
          rw [h5]⟩⟩
        case measure => simp [intOf]; omega
      · have hkn : 0 < k := by omega
        have hkd : decide (0 < (k : Int)) = true := decide_eq_true (by omega)
        obtain ⟨p1, hpp⟩ : ∃ p1, p1 = p + 1 := ⟨_, rfl⟩
        have hpp1 : (p : Int) + 1 = (p1 : Int) := by omega
        have hp1M : p1 < N := by omega
        have HPP := Aside0.mk hpp
        obtain ⟨hv1, hv2, hput2⟩ := put_word HO2.out hp1M
        have hst2 := run_store_word (P := Tryd.prog) (u := (c' : Int)) hv1 hv2
        have HO3 := Aside0.mk (hput2 c')
        have HZ2 := Aside0.mk (show wd (o.set p t) p1 = 0 by rw [wd_set_ne (by omega), hpp]; exact HZ1.out)
        clear hput2 hk0 hpp
        go_wp2
        go_region
        go_wp2
        go_roundw
        case rel => exact ⟨i + 1, (o.set p t).set p1 c', by go_num, by omega, ⟨by first | exact (below_drew (HB.out.setCell HG.out _)).setCell HG.out _ | exact below_drew ((HB.out.setCell HG.out _).setCell HG.out _)⟩, ⟨by first | exact HO3.out | exact Kd.R_drewN HO3.out 1⟩, ⟨by rw [List.length_set]; exact HL2.out, (HG1.out.2.1.set ht64).set hc64, by
          rw [nv_set2 (by rw [HL2.out]; exact hp1M) c' HZ2.out, HV2.out, HS2.out, ← HDD.out, HPP.out, Nat.add_assoc, shl_two]⟩⟩
        case measure => simp [intOf]; omega
    · obtain rfl : i = n1 := by omega
      have HF := Aside0.mk (show nv o = nv a * 2 ^ n by rw [HG1.out.2.2, nv_take_all (by rw [NL.out]; omega), VL.out, ← HNK.out])
      have QT := Aside0.mk (trim_own HO1.out HG1.out.2.1 (by omega))
      go_wp2_with (go_at_call 44; refine QT.out.mono ?_; rintro e w5 ⟨v, rfl, ho, n5, rfl⟩; rw [HF.out] at ho; have HOO := Aside0.mk ho; clear ho)
      go_ret
      have HB4 := below_then W2.out W2.out.size HB.out
      exact ⟨_, rfl, HOO.out.lower W2.out.size, pw_below_drewN HB4 _⟩
end Go.Proofs.YtgpjplelgffocaaDoor

namespace Go.Proofs.YtgpjplelgffocaaDoor
open Go.RowKit Go.Proofs.YtgpjplelgffocaaDoorW.PrintWords Limb
set_option linter.unusedVariables false
set_option linter.unusedSimpArgs false

theorem addr_add (ad : Addr) (q i : Nat) : (ad.add q).add i = ad.add (q + i) := by
  unfold Addr.add
  split <;> split <;> simp_all <;> omega
theorem run_from (n : Nat) (ad : Addr) (q m : Nat) (hq : q < n) (hm : n - q = m) : ∀ W : World, (Instr.slice 24 (.slice (some ad) n n) (some (.int .i64 (q : Int))) none none).run Tryd.prog W = .ok (.slice (some (ad.add q)) m m) W := by
  obtain ⟨i, hi, he⟩ := Option.map_eq_some_iff.1 info_word
  simp only [Prod.mk.injEq] at he
  intro W
  have hu : Tryd.prog.underlying 24 = some (.slice (Tryd.prog.elem 24)) := by kernel_rfl
  rw [run_slice_l W 24 (some ad) n n hu .i64 q (by omega) (by omega)]
  have hs : (sizeOf (Tryd.prog.elem 24)).run Tryd.prog W = .ok 1 W := by
    rw [show Tryd.prog.elem 24 = 23 by kernel_rfl]
    exact Tryd.sizeOf23 W
  rw [hs]
  show Result.ok (sliced (some ad) ((q : Int)).toNat n n 1) W = _
  rw [Int.toNat_natCast]
  unfold sliced
  rw [if_neg (by omega), Option.map_some, Nat.mul_one, hm]

set_option maxHeartbeats 2000000 in
theorem pshr_any (a : List Nat) (A : Option Addr) (na c n : Nat) (hna : a.length = na) (w : World) (ha : kU.C w A na a) (hc : na ≤ c) (wa : Wf a) (la : na ≤ 1073741824) (ln : n ≤ 68719476736) (hT : TabAt 0 Lib.deBruijn64tab w) :
    Calls Tryd.prog 66 #[.slice A na c, .int .i64 (n : Int)] w fun e w' => ∃ v, e = .returned (.tuple #[v, .bool (nv a % 2 ^ n != 0)]) ∧ PL w' w.heap.size v (limbs (nv a / 2 ^ n)) ∧ Below w.heap.size w w' := by
  subst hna
  have QA := Aside0.mk (trim_any a A c w ha hc wa (by omega))
  have CA := Aside0.mk (C_trim ha wa)
  have HTAB := Aside0.mk hT
  obtain ⟨L, hL⟩ : ∃ L, L = limbs (nv a) := ⟨_, rfl⟩
  obtain ⟨n1, hn1⟩ : ∃ n, n = L.length := ⟨_, rfl⟩
  have ln1 : n1 ≤ 1073741824 := by have := limbs_nv_len wa; rw [hn1, hL]; omega
  have WL := Aside0.mk (show Wf L by rw [hL]; exact wf_limbs _)
  have VL := Aside0.mk (show nv L = nv a by rw [hL, nv_limbs])
  have NL := Aside0.mk hn1.symm
  have HLL := Aside0.mk hL
  rw [← hL, ← hn1] at QA CA
  clear ha hc wa la hL hn1 hT
  by_cases h0 : n1 = 0
  · subst h0
    have hz : nv a = 0 := by rw [← VL.out, List.length_eq_zero_iff.1 NL.out]; simp [nv]
    have HZ := Aside0.mk (show limbs (nv a / 2 ^ n) = [] by rw [hz]; simp [limbs_zero])
    have HB := Aside0.mk (show (nv a % 2 ^ n != 0) = false by rw [hz]; simp)
    clear hz
    go_enter Tryd.func66, Tryd.ntmps66
    go_wp2_with (go_at_call 44; refine QA.out.mono ?_; rintro e w_1 ⟨rfl, nq1, rfl⟩)
    go_ret2
    exact ⟨_, by rw [HB.out]; rfl, by rw [HZ.out]; exact PL.nil _ _, pw_below_drewN (Below.refl _ _) _⟩
  have h00 : ((n1 : Int) == 0) = false := by simp; exact h0
  obtain ⟨q, hq⟩ : ∃ q, q = n / 64 := ⟨_, rfl⟩
  obtain ⟨k, hk⟩ : ∃ k, k = n % 64 := ⟨_, rfl⟩
  have hdv : (n : Int).tdiv 64 = (q : Int) := by rw [Int.tdiv_eq_ediv_of_nonneg (by omega)]; omega
  have hmd : (n : Int).tmod 64 = (k : Int) := by rw [Int.tmod_eq_emod_of_nonneg (by omega)]; omega
  have hk63 : k ≤ 63 := by omega
  have hq30 : q ≤ 1073741824 := by omega
  have HNK := Aside0.mk (show n = 64 * q + k by omega)
  have hane : nv a ≠ 0 := fun h => h0 (by rw [← NL.out, HLL.out, h, limbs_zero]; rfl)
  obtain ⟨lost, hlost⟩ : ∃ b, b = (nv a % 2 ^ n != 0) := ⟨_, rfl⟩
  have hlow : decide ((tz (nv a) : Int) < n) = lost := by
    rw [hlost, Bool.eq_iff_iff, decide_eq_true_iff, bne_iff_ne]
    obtain ⟨p1, p2⟩ := tz_spec (nv a) hane
    constructor
    · intro h hm
      have hd := Nat.dvd_of_mod_eq_zero hm
      obtain ⟨e, he⟩ := hd
      have h2 : n = tz (nv a) + 1 + (n - tz (nv a) - 1) := by omega
      rw [h2, Nat.pow_add, Nat.pow_succ, Nat.mul_assoc, Nat.mul_assoc] at he
      have h3 : nv a / 2 ^ tz (nv a) = 2 * (2 ^ (n - tz (nv a) - 1) * e) := Nat.div_eq_of_eq_mul_right (Nat.two_pow_pos _) he
      omega
    · intro h
      refine Classical.byContradiction fun hc => h ?_
      have h2 : tz (nv a) = n + (tz (nv a) - n) := by omega
      rw [p1, h2, Nat.pow_add, Nat.mul_left_comm]
      exact Nat.mul_mod_right _ _
  have QLow := Aside0.mk (fun (m : World) (hC : kU.C m A n1 L) (hT : TabAt 0 Lib.deBruijn64tab m) => (by
    have h := plow_any L A n1 m (by rw [NL.out]; exact hC) (by rw [NL.out]; exact Nat.le_refl _) WL.out (by rw [NL.out]; exact ln1) hT
    rw [NL.out, VL.out] at h
    exact h : Calls Tryd.prog 65 #[.slice A n1 n1] m fun e w' => e = .returned (.int .i64 (tz (nv a) : Int)) ∧ ∃ n, w' = m.drewN n))
  rw [← hlost]
  clear hq hk hane hlost
  obtain ⟨zz, hzz⟩ : ∃ z, z = tz (nv a) := ⟨_, rfl⟩
  rw [← hzz] at hlow QLow
  have HLOST := Aside0.mk (show lost = decide (zz < n) by rw [← hlow, decide_eq_decide]; omega)
  clear hzz hlow
  by_cases hbig : n1 ≤ q
  · have hge : decide ((n1 : Int) ≤ (q : Int)) = true := decide_eq_true (by omega)
    have HZ := Aside0.mk (show limbs (nv a / 2 ^ n) = [] by
      have h1 := nv_lt WL.out
      rw [NL.out, VL.out] at h1
      rw [Nat.div_eq_of_lt (Nat.lt_of_lt_of_le h1 (Nat.pow_le_pow_right (by decide) (by have := HNK.out; omega))), limbs_zero])
    go_enter Tryd.func66, Tryd.ntmps66
    go_wp2_with (first
      | (go_at_call 44; refine QA.out.mono ?_; rintro e w_1 ⟨rfl, nq1, rfl⟩)
      | (go_at_call 65; refine (QLow.out _ (Kd.C_drewN CA.out _) (tab_below HTAB.out (pw_below_drewN (Below.refl w.heap.size w) _))).mono ?_; rintro e w_2 ⟨rfl, nq2, rfl⟩))
    go_ret2
    exact ⟨_, by rw [HLOST.out]; rfl, by rw [HZ.out]; exact PL.nil _ _, pw_below_drewN (Below.refl _ _) _⟩
  obtain ⟨m, hm⟩ : ∃ m, n1 - q = m := ⟨_, rfl⟩
  have hqn : q < n1 := by omega
  have hm0 : 0 < m := by omega
  have hmn : m ≤ 1073741824 := by omega
  have hge : decide ((n1 : Int) ≤ (q : Int)) = false := decide_eq_false (by omega)
  obtain ⟨ad, x0, hAe, hx0, hc0⟩ := at_word CA.out NL.out q hqn
  subst hAe
  have hsl := run_from n1 ad q m hqn hm
  have HM := Aside0.mk hm
  obtain ⟨V, hV⟩ : ∃ V, V = nv a / 2 ^ n := ⟨_, rfl⟩
  have HV := Aside0.mk hV
  rw [← hV]
  clear hx0 hc0 hm hV hbig h0
  go_enter Tryd.func66, Tryd.ntmps66
  go_wp2_with (first
    | (go_at_call 44; refine QA.out.mono ?_; rintro e w_1 ⟨rfl, nq1, rfl⟩)
    | (go_at_call 65; refine (QLow.out _ (Kd.C_drewN CA.out _) (tab_below HTAB.out (pw_below_drewN (Below.refl w.heap.size w) _))).mono ?_; rintro e w_2 ⟨rfl, hw2⟩; have W2 := Aside0.mk (show Below w.heap.size w w_2 by obtain ⟨m, rfl⟩ := hw2; exact pw_below_drewN (pw_below_drewN (Below.refl _ _) _) _); have C1 := Aside0.mk (Kd.C_below CA.out W2.out); clear hw2)
    | ((with_reducible refine gate_dst (N := 32) rfl ?_); go_must (refine Kd.R_make kU (w0 := w_2) w_2.heap.size 23 rfl rfl 24 (.tmp 31) (.tmp 31) rfl (m : Int) ?mx ?my Tryd.underlying24 (.int .u64 0) 8 info_word rfl (by decide) (by decide) 0 (ok := fun _ => True) (okp := fun _ => False) ?mz (fun _ h => h.elim) trivial (by omega) ?ml (Below.refl _ _) (Nat.le_refl _) ?_; (case mx => rfl); (case my => rfl); (case mz => rfl); (case ml => omega); intro v_3 w_3 ho hb hg hown; obtain ⟨g, cap, rfl, hg1, hg2, _⟩ := Kd.R_form ho (by simp; omega); rw [show (List.replicate ((m : Int)).toNat (0 : Nat)).length = m by simp] at ho ⊢; have HO := Aside0.mk ho; have B3 := Aside0.mk hb; have HG := Aside0.mk hg1; clear ho hb hg hown hg1 hg2)))
  go_loopw [37] (fun v37 wr => ∃ (i : Nat) (o : List Nat), v37 = .int .i64 i ∧ i ≤ m ∧ Aside0 (Below w_2.heap.size w_2 wr) ∧ Aside0 (kU.R 23 wr w_2.heap.size (fun _ => True) (.slice (some ⟨g, 0, none⟩) m cap) o) ∧ Aside0 (o.length = m ∧ Wf o ∧ nv (o.take i) = V % 2 ^ (64 * i))) (fun v37 _ => m - (intOf v37).toNat)
  case atStart => exact ⟨0, _, rfl, Nat.zero_le _, B3, HO, ⟨by simp, Wf.replicate _, by simp [nv, Nat.mod_one]⟩⟩
  case round =>
    obtain ⟨i, o, rfl, hi, HB, HO1, HG1⟩ := hrel
    by_cases hlt : i < m
    · obtain ⟨ad', x, hA', hx0, hcell0⟩ := at_word (Kd.C_below C1.out HB.out) NL.out (q + i) (by have := HM.out; omega)
      obtain rfl := Option.some.inj hA'
      have hcell : wr.cell? ((ad.add q).add i) = some (.int .u64 (x : Int)) := by rw [addr_add]; exact hcell0
      have HX := Aside0.mk (wd_of hx0)
      have hx64 : x < 18446744073709551616 := WL.out.get hx0
      obtain ⟨y, hy⟩ : ∃ y, y = wd L (q + i + 1) := ⟨_, rfl⟩
      have hy64 : y < 18446744073709551616 := by rw [hy]; exact wd_lt WL.out _
      obtain ⟨t, ht⟩ : ∃ t, t = (x + 2 ^ 64 * y) / 2 ^ k % 2 ^ 64 := ⟨_, rfl⟩
      have HT := Aside0.mk (show t = V / 2 ^ (64 * i) % 2 ^ 64 by
        rw [ht, ← HX.out, hy, HV.out, HNK.out, ← VL.out]
        exact (nv_down WL.out q i k).resolve_right (by omega))
      have ht64 : t < 18446744073709551616 := by rw [ht]; exact Nat.mod_lt _ (by decide)
      obtain ⟨x1, hx1⟩ : ∃ x1, x1 = x / 2 ^ k := ⟨_, rfl⟩
      have hx164 : x1 < 18446744073709551616 := by rw [hx1]; exact Nat.lt_of_le_of_lt (Nat.div_le_self _ _) hx64
      have hxs : (x : Int) / 2 ^ k = (x1 : Int) := by rw [hx1]; simp
      have hsr := shr_word (y := y) hx64 (show k ≤ 64 by omega)
      rw [← ht, ← hx1] at hsr
      have HSR := Aside0.mk hsr
      have HY := Aside0.mk hy
      have HX1 := Aside0.mk hx1
      obtain ⟨hw1, hw2, hput⟩ := put_word HO1.out hlt
      have hst := run_store_word (P := Tryd.prog) (u := (x1 : Int)) hw1 hw2
      have HO2 := Aside0.mk (hput x1)
      have HST := Aside0.mk (show V % 2 ^ (64 * (i + 1)) = V % 2 ^ (64 * i) + 2 ^ (64 * i) * t by rw [mod_words, ← HT.out])
      clear hcell0 hx0 hy ht hx1 hsr hput hsl hA'
      by_cases hk0 : k = 0
      · have hkn : k ≤ 0 := by omega
        have hkd : decide (0 < (k : Int)) = false := decide_eq_false (by omega)
        have HT1 := Aside0.mk (show x1 = t by
          have h5 := HSR.out
          subst hk0
          rw [show y * 2 ^ (64 - 0) % 2 ^ 64 = 0 from Nat.mul_mod_left _ _, Nat.or_zero] at h5
          exact h5)
        clear hk0
        go_wp2
        go_roundw
        case rel => exact ⟨i + 1, o.set i x1, by go_num, by omega, ⟨by first | exact HB.out.setCell HG.out _ | exact below_drew (HB.out.setCell HG.out _) | exact pw_below_drewN (HB.out.setCell HG.out _) _⟩, ⟨by first | exact HO2.out | exact Kd.R_drewN HO2.out _⟩, ⟨by rw [List.length_set]; exact HG1.out.1, HG1.out.2.1.set hx164, by rw [nv_take_set o i x1 (by have := HG1.out.1; omega), HG1.out.2.2, HST.out, HT1.out]⟩⟩
        case measure => simp [intOf]; omega
      · have hkn : 0 < k := by omega
        have hkd : decide (0 < (k : Int)) = true := decide_eq_true (by omega)
        have hi1 : IntKind.i64.wrap ((i : Int) + 1) = ((i + 1 : Nat) : Int) := by unfold IntKind.wrap; simp [IntKind.bits, IntKind.signed]; omega
        by_cases hlt2 : i + 1 < m
        · obtain ⟨ad', y', hA', hy0, hcell0⟩ := at_word (Kd.C_below C1.out HB.out) NL.out (q + i + 1) (by have := HM.out; omega)
          obtain rfl := Option.some.inj hA'
          obtain rfl : y' = y := by rw [HY.out]; exact (wd_of hy0).symm
          obtain ⟨i1, hii⟩ : ∃ i1, i1 = i + 1 := ⟨_, rfl⟩
          have hii1 : (i : Int) + 1 = (i1 : Int) := by omega
          have hlt3 : i1 < m := by omega
          have hcell2 : (wr.setCell ⟨g, i, none⟩ (.int .u64 (x1 : Int))).cell? ((ad.add q).add i1) = some (.int .u64 (y' : Int)) := by
            obtain ⟨ad'', y'', hA'', hy0', hcell0'⟩ := at_word (Kd.C_below C1.out (HB.out.setCell HG.out (.int .u64 (x1 : Int)) : Below w_2.heap.size w_2 (wr.setCell ⟨g, i, none⟩ (.int .u64 (x1 : Int))))) NL.out (q + i + 1) (by have := HM.out; omega)
            obtain rfl := Option.some.inj hA''
            rw [hy0] at hy0'
            obtain rfl := Option.some.inj hy0'
            rw [addr_add, hii]; exact hcell0'
          have HII := Aside0.mk hii
          obtain ⟨y1, hy1⟩ : ∃ y1, y1 = y' * 2 ^ (64 - k) % 2 ^ 64 := ⟨_, rfl⟩
          have hy164 : y1 < 18446744073709551616 := by rw [hy1]; exact Nat.mod_lt _ (by decide)
          have hsh : IntKind.u64.wrap ((y' : Int) * 2 ^ (64 - k)) = (y1 : Int) := by
            rw [hy1]; unfold IntKind.wrap; simp [IntKind.bits, IntKind.signed]
          have hor : bits .or .u64 (x1 : Int) (y1 : Int) = (t : Int) := by
            rw [bits_or_u64_nat x1 y1 hx164 hy164, hy1, HSR.out]
          obtain ⟨hv1, hv2, hput2⟩ := put_word HO2.out hlt
          rw [wd_set o i x1 (by have := HG1.out.1; omega)] at hv1
          have hst2 := run_store_word (P := Tryd.prog) (u := (t : Int)) hv1 hv2
          have HO3 := Aside0.mk (hput2 t)
          clear hy0 hcell0 hput2 hk0 hii hy1 hlt2 hA' hi1
          go_wp2
          go_region
          go_wp2
          go_roundw
          case rel => exact ⟨i1, (o.set i x1).set i t, rfl, by omega, ⟨below_drew ((HB.out.setCell HG.out _).setCell HG.out _)⟩, ⟨Kd.R_drewN HO3.out 1⟩, ⟨by rw [List.length_set, List.length_set]; exact HG1.out.1, (HG1.out.2.1.set hx164).set ht64, by rw [HII.out, nv_take_set (o.set i x1) i t (by rw [List.length_set]; have := HG1.out.1; omega), take_set, HG1.out.2.2, HST.out]⟩⟩
          case measure => simp [intOf]; omega
        · have hmi : m = i + 1 := by omega
          have hy0 : y = 0 := by rw [HY.out]; exact wd_ge (by rw [NL.out]; have := HM.out; omega)
          have HT1 := Aside0.mk (show x1 = t by
            have h5 := HSR.out
            rw [hy0, Nat.zero_mul, Nat.zero_mod, Nat.or_zero] at h5
            exact h5)
          clear hk0 hy0
          subst hmi
          go_wp2
          go_roundw
          case rel => exact ⟨i + 1, o.set i x1, by go_num, by omega, ⟨by first | exact HB.out.setCell HG.out _ | exact below_drew (HB.out.setCell HG.out _) | exact pw_below_drewN (HB.out.setCell HG.out _) _⟩, ⟨by first | exact HO2.out | exact Kd.R_drewN HO2.out _⟩, ⟨by rw [List.length_set]; exact HG1.out.1, HG1.out.2.1.set hx164, by rw [nv_take_set o i x1 (by have := HG1.out.1; omega), HG1.out.2.2, HST.out, HT1.out]⟩⟩
          case measure => first | (simp [intOf]; done) | (simp [intOf]; omega)
    · obtain rfl : i = m := by omega
      clear hsl
      have HF := Aside0.mk (show nv o = V by
        have h5 := HG1.out.2.2
        rw [nv_take_all (by have := HG1.out.1; omega)] at h5
        rw [h5]
        refine Nat.mod_eq_of_lt ?_
        rw [HV.out, HNK.out, Nat.pow_add, ← Nat.div_div_eq_div_mul]
        refine Nat.lt_of_le_of_lt (Nat.div_le_self _ _) ?_
        rw [Nat.div_lt_iff_lt_mul (Nat.two_pow_pos _), ← Nat.pow_add]
        have h6 := nv_lt WL.out
        rw [NL.out, VL.out] at h6
        rw [show 64 * i + 64 * q = 64 * n1 by have := HM.out; omega]
        exact h6)
      have QT := Aside0.mk (trim_own HO1.out HG1.out.2.1 (by omega))
      go_wp2_with (go_at_call 44; refine QT.out.mono ?_; rintro e w5 ⟨v, rfl, ho, n5, rfl⟩; rw [HF.out] at ho; have HOO := Aside0.mk ho; clear ho)
      go_ret2
      have HB4 := below_then W2.out W2.out.size HB.out
      exact ⟨_, by rw [HLOST.out]; rfl, HOO.out.lower W2.out.size, pw_below_drewN HB4 _⟩
end Go.Proofs.YtgpjplelgffocaaDoor

namespace Go.Proofs.YtgpjplelgffocaaDoor
open Go.RowKit Go.Proofs.YtgpjplelgffocaaDoorW.PrintWords Limb
set_option linter.unusedVariables false
set_option linter.unusedSimpArgs false

set_option maxHeartbeats 2000000 in
theorem pmul_any (a b : List Nat) (A B : Option Addr) (na nb c d : Nat) (hna : a.length = na) (hnb : b.length = nb) (w : World) (ha : kU.C w A na a) (hb : kU.C w B nb b) (hc : na ≤ c) (hd : nb ≤ d) (wa : Wf a) (wb : Wf b) (la : na ≤ 1073741824) (lb : nb ≤ 1073741824) :
    Calls Tryd.prog 105 #[.slice A na c, .slice B nb d] w fun e w' => ∃ v, e = .returned v ∧ PL w' w.heap.size v (limbs (nv a * nv b)) ∧ Below w.heap.size w w' := by
  subst hna hnb
  have QA := Aside0.mk (trim_any a A c w ha hc wa (by omega))
  have QB := Aside0.mk (fun (m : Nat) => trim_any b B d (w.drewN m) (Kd.C_drewN hb _) hd wb (by omega))
  have CA := Aside0.mk (C_trim ha wa)
  have CB := Aside0.mk (C_trim hb wb)
  obtain ⟨L, hL⟩ : ∃ L, L = limbs (nv a) := ⟨_, rfl⟩
  obtain ⟨M, hM⟩ : ∃ M, M = limbs (nv b) := ⟨_, rfl⟩
  obtain ⟨n1, hn1⟩ : ∃ n, n = L.length := ⟨_, rfl⟩
  obtain ⟨n2, hn2⟩ : ∃ n, n = M.length := ⟨_, rfl⟩
  have ln1 : n1 ≤ 1073741824 := by have := limbs_nv_len wa; rw [hn1, hL]; omega
  have ln2 : n2 ≤ 1073741824 := by have := limbs_nv_len wb; rw [hn2, hM]; omega
  have WL := Aside0.mk (show Wf L by rw [hL]; exact wf_limbs _)
  have WM := Aside0.mk (show Wf M by rw [hM]; exact wf_limbs _)
  have VL := Aside0.mk (show nv L = nv a by rw [hL, nv_limbs])
  have VM := Aside0.mk (show nv M = nv b by rw [hM, nv_limbs])
  have NL := Aside0.mk hn1.symm
  have NM := Aside0.mk hn2.symm
  rw [← hL, ← hn1] at QA CA
  rw [← hM, ← hn2] at QB CB
  clear ha hb hc hd wa wb la lb hL hM hn1 hn2
  obtain ⟨N, hN⟩ : ∃ N, N = n1 + n2 := ⟨_, rfl⟩
  have hN1 : (n1 : Int) + n2 = (N : Int) := by omega
  have hN2 : N ≤ 2147483648 := by omega
  have hN3 : n1 ≤ N ∧ n2 ≤ N := by omega
  have HN := Aside0.mk hN
  clear hN
  by_cases h0 : N = 0
  · subst h0
    obtain rfl : n1 = 0 := by omega
    obtain rfl : n2 = 0 := by omega
    clear hN1 hN2 hN3 HN
    have HZ := Aside0.mk (show nv a * nv b = 0 by rw [← VL.out, List.length_eq_zero_iff.1 NL.out]; simp [nv])
    go_enter Tryd.func105, Tryd.ntmps105
    go_wp2_with (first
      | (go_at_call 44; first
      | (with_reducible refine QA.out.mono ?_; rintro e w_1 ⟨rfl, nq1, rfl⟩)
      | (with_reducible refine (QB.out _).mono ?_; rintro e w_2 ⟨rfl, nq2, hw2⟩; have W2 := Aside0.mk (show Below w.heap.size w w_2 by rw [hw2]; exact pw_below_drewN (pw_below_drewN (Below.refl _ _) _) _); have C1 := Aside0.mk (Kd.C_below CA.out W2.out); have C2 := Aside0.mk (Kd.C_below CB.out W2.out); clear hw2))
      | ((with_reducible refine gate_dst (N := 23) rfl ?_); go_must (refine Kd.R_make kU (w0 := w_2) w_2.heap.size 23 rfl rfl 24 (.tmp 22) (.tmp 22) rfl (0 : Int) ?mx ?my Tryd.underlying24 (.int .u64 0) 8 info_word rfl (by decide) (by decide) 0 (ok := fun _ => True) (okp := fun _ => False) ?mz (fun _ h => h.elim) trivial (by omega) ?ml (Below.refl _ _) (Nat.le_refl _) ?_; (case mx => rfl); (case my => rfl); (case mz => rfl); (case ml => omega); intro v_3 w_3 ho hb hg hown; obtain ⟨A3, c3, rfl⟩ := Kd.R_slice ho; have HO := Aside0.mk ho; have B3 := Aside0.mk hb; clear ho hb hg hown)))
    go_loopw [26] (fun v26 wr => v26 = .int .i64 0 ∧ Aside0 (wr = w_3)) (fun _ _ => 0)
    case atStart => exact ⟨rfl, ⟨rfl⟩⟩
    case round =>
      obtain ⟨rfl, HE⟩ := hrel
      obtain rfl := HE.out
      have QT := Aside0.mk (trim_own HO.out (by simpa using Wf.replicate 0) (by decide))
      have HV := Aside0.mk (show nv (List.replicate ((0 : Int)).toNat 0) = nv a * nv b by rw [HZ.out]; simp [nv])
      go_wp2_with (go_at_call 44; refine QT.out.mono ?_; rintro e w5 ⟨v, rfl, ho, n5, rfl⟩; rw [HV.out] at ho; have HOO := Aside0.mk ho; clear ho)
      go_ret
      exact ⟨_, rfl, HOO.out.lower W2.out.size, pw_below_drewN (below_then W2.out W2.out.size B3.out) _⟩
  have hNp : 0 < N := by omega
  clear h0
  go_enter Tryd.func105, Tryd.ntmps105
  go_wp2_with (first
    | (go_at_call 44; first
      | (with_reducible refine QA.out.mono ?_; rintro e w_1 ⟨rfl, nq1, rfl⟩)
      | (with_reducible refine (QB.out _).mono ?_; rintro e w_2 ⟨rfl, nq2, hw2⟩; have W2 := Aside0.mk (show Below w.heap.size w w_2 by rw [hw2]; exact pw_below_drewN (pw_below_drewN (Below.refl _ _) _) _); have C1 := Aside0.mk (Kd.C_below CA.out W2.out); have C2 := Aside0.mk (Kd.C_below CB.out W2.out); clear hw2))
    | ((with_reducible refine gate_dst (N := 23) rfl ?_); go_must (refine Kd.R_make kU (w0 := w_2) w_2.heap.size 23 rfl rfl 24 (.tmp 22) (.tmp 22) rfl (N : Int) ?mx ?my Tryd.underlying24 (.int .u64 0) 8 info_word rfl (by decide) (by decide) 0 (ok := fun _ => True) (okp := fun _ => False) ?mz (fun _ h => h.elim) trivial (by omega) ?ml (Below.refl _ _) (Nat.le_refl _) ?_; (case mx => rfl); (case my => rfl); (case mz => rfl); (case ml => omega); intro v_3 w_3 ho hb hg hown; obtain ⟨g, cap, rfl, hg1, hg2, _⟩ := Kd.R_form ho (by simp; omega); rw [show (List.replicate ((N : Int)).toNat (0 : Nat)).length = N by simp] at ho ⊢; have HO := Aside0.mk ho; have B3 := Aside0.mk hb; have HG := Aside0.mk hg1; clear ho hb hg hown hg1 hg2)))
  go_loopw [26] (fun v26 wr => ∃ (k : Nat) (o : List Nat), v26 = .int .i64 k ∧ k ≤ n1 ∧ Aside0 (Below w_2.heap.size w_2 wr) ∧ Aside0 (kU.R 23 wr w_2.heap.size (fun _ => True) (.slice (some ⟨g, 0, none⟩) N cap) o) ∧ Aside0 (o.length = N ∧ Wf o ∧ nv o = nv (L.take k) * nv M)) (fun v26 _ => n1 - (intOf v26).toNat)
  case atStart => exact ⟨0, _, rfl, Nat.zero_le _, B3, HO, ⟨by simp, Wf.replicate _, by rw [nv_replicate]; simp [nv]⟩⟩
  case round =>
    obtain ⟨k, o, rfl, hk, HB, HO1, HG1⟩ := hrel
    by_cases hlt : k < n1
    · obtain ⟨ad, x, hA', hx0, hcell⟩ := at_word (Kd.C_below C1.out HB.out) NL.out k hlt
      subst hA'
      have HX := Aside0.mk (wd_of hx0)
      have hx64 : x < 18446744073709551616 := WL.out.get hx0
      clear hx0
      have hp0 : k + n2 < N := by have := HN.out; omega
      go_wp2
      go_loopw [8, 33] (fun v8 v33 wr => ∃ (j cy : Nat) (o : List Nat), v8 = .int .u64 cy ∧ v33 = .int .i64 j ∧ j ≤ n2 ∧ cy ≤ 18446744073709551615 ∧ Aside0 (Below w_2.heap.size w_2 wr) ∧ Aside0 (kU.R 23 wr w_2.heap.size (fun _ => True) (.slice (some ⟨g, 0, none⟩) N cap) o) ∧ Aside0 (o.length = N ∧ Wf o ∧ nv o + 2 ^ (64 * (k + j)) * cy = nv (L.take k) * nv M + 2 ^ (64 * k) * (x * nv (M.take j)) ∧ wd o (k + n2) = 0)) (fun _ v33 _ => n2 - (intOf v33).toNat)
      case atStart =>
        refine ⟨0, 0, o, rfl, rfl, Nat.zero_le _, by omega, HB, HO1, ⟨HG1.out.1, HG1.out.2.1, by rw [HG1.out.2.2]; simp [nv], ?_⟩⟩
        refine wd_small HG1.out.2.1 (k := k + n2) ?_ (Nat.le_refl _)
        rw [HG1.out.2.2, Nat.mul_add, Nat.pow_add]
        have h1 := nv_take_lt WL.out k
        have h2 := nv_lt WM.out
        rw [NM.out] at h2
        exact Nat.mul_lt_mul'' h1 h2
      case round =>
        clear HO1 HG1
        obtain ⟨j, cy, o, rfl, rfl, hj, hcy, HB', HO2, HG2⟩ := hrel
        by_cases hlt2 : j < n2
        · obtain ⟨bd, y, hB', hy0, hcell2⟩ := at_word (Kd.C_below C2.out HB'.out) NM.out j hlt2
          subst hB'
          have HY := Aside0.mk (wd_of hy0)
          have hy64 : y < 18446744073709551616 := WM.out.get hy0
          clear hy0
          obtain ⟨p, hp⟩ : ∃ p, p = k + j := ⟨_, rfl⟩
          have hpN : p < N := by omega
          have hp1 : (k : Int) + j = (p : Int) := by omega
          have HP := Aside0.mk hp
          obtain ⟨hw1, hw2, hput⟩ := put_word HO2.out hpN
          obtain ⟨w0, hw0⟩ : ∃ w0, w0 = wd o p := ⟨_, rfl⟩
          have hw64 : w0 < 18446744073709551616 := by rw [hw0]; exact wd_lt HG2.out.2.1 p
          rw [← hw0] at hw1
          obtain ⟨lo, hi, hlo, hlh, QM⟩ : ∃ lo hi : Nat, lo < 18446744073709551616 ∧ lo + 18446744073709551616 * hi = x * y ∧ ∀ m : World, Calls Tryd.prog 109 #[.int .u64 (x : Int), .int .u64 (y : Int)] m fun e w' => e = .returned (.tuple #[.int .u64 (hi : Int), .int .u64 (lo : Int)]) ∧ w' = m := ⟨x * y % 18446744073709551616, x * y / 18446744073709551616, Nat.mod_lt _ (by decide), Nat.mod_add_div _ _, fun m => Tryd.bits_Mul64 x y hx64 hy64 m⟩
          have QT := Aside0.mk QM
          obtain ⟨s, c1', hs1, hs2, hs3, hs4⟩ : ∃ s c' : Nat, s < 18446744073709551616 ∧ c' ≤ 1 ∧ s + 18446744073709551616 * c' = lo + cy + 0 ∧ ∀ W : World, (callFunc 106 #[.int .u64 (lo : Int), .int .u64 (cy : Int), .int .u64 0]).run Tryd.prog W = .ok (.value (.tuple #[.int .u64 (s : Int), .int .u64 (c' : Int)])) W := ⟨(lo + cy + 0) % 18446744073709551616, (lo + cy + 0) / 18446744073709551616, by omega, by omega, by omega, fun W => Tryd.bits_Add64 lo cy 0 (by decide) W⟩
          obtain ⟨t, c2', ht1, ht2, ht3, ht4⟩ : ∃ s' c' : Nat, s' < 18446744073709551616 ∧ c' ≤ 1 ∧ s' + 18446744073709551616 * c' = w0 + s + 0 ∧ ∀ W : World, (callFunc 106 #[.int .u64 (w0 : Int), .int .u64 (s : Int), .int .u64 0]).run Tryd.prog W = .ok (.value (.tuple #[.int .u64 (s' : Int), .int .u64 (c' : Int)])) W := ⟨(w0 + s + 0) % 18446744073709551616, (w0 + s + 0) / 18446744073709551616, by omega, by omega, by omega, fun W => Tryd.bits_Add64 w0 s 0 (by decide) W⟩
          have hxy : x * y ≤ 18446744073709551615 * 18446744073709551615 := Nat.mul_le_mul (by omega) (by omega)
          obtain ⟨h1', hh1⟩ : ∃ h, h = hi + c1' := ⟨_, rfl⟩
          obtain ⟨h2', hh2⟩ : ∃ h, h = h1' + c2' := ⟨_, rfl⟩
          have hhi : h2' ≤ 18446744073709551615 := by omega
          have HT := Aside0.mk (show t + 2 ^ 64 * h2' = w0 + x * y + cy by omega)
          have e1 : IntKind.u64.wrap ((hi : Int) + c1') = (h1' : Int) := by unfold IntKind.wrap; simp [IntKind.bits, IntKind.signed]; omega
          have e2 : IntKind.u64.wrap ((h1' : Int) + c2') = (h2' : Int) := by unfold IntKind.wrap; simp [IntKind.bits, IntKind.signed]; omega
          have HW0 := Aside0.mk hw0
          have HPUT := Aside0.mk hput
          have hst := run_store_word (P := Tryd.prog) (u := (t : Int)) hw1 hw2
          clear hw0 hp hput hxy hs3 ht3 hlh QM hh1 hh2
          go_wp2_with (go_at_call 109; refine (QT.out _).mono ?_; rintro e w' ⟨rfl, rfl⟩)
          go_roundw
          case rel =>
            refine ⟨j + 1, _, o.set p t, rfl, by go_num, by omega, by omega, ?hB, ?hO, ?hG⟩
            case hB => exact ⟨HB'.out.setCell HG.out _⟩
            case hO => exact ⟨HPUT.out t⟩
            case hG =>
              have hl : p < o.length := by have := HG2.out.1; omega
              refine ⟨by simp [HG2.out.1], HG2.out.2.1.set ht1, ?_, ?_⟩
              · rw [nv_take_succ M, HY.out]
                refine mul_step HG2.out.2.2.1 ?_ HT.out
                rw [← HP.out, HW0.out]
                exact nv_set hl t
              · rw [wd_set_ne (by have := HP.out; omega)]
                exact HG2.out.2.2.2
          case measure => simp [intOf]; omega
        · obtain rfl : j = n2 := by omega
          obtain ⟨p, hp⟩ : ∃ p, p = k + j := ⟨_, rfl⟩
          have hpN : p < N := by omega
          have hp1 : (k : Int) + j = (p : Int) := by omega
          have HP := Aside0.mk hp
          obtain ⟨hw1, hw2, hput⟩ := put_word HO2.out hpN
          have HPUT := Aside0.mk hput
          have hst := run_store_word (P := Tryd.prog) (u := (cy : Int)) hw1 hw2
          clear hp hput
          go_wp2
          go_roundw
          case rel =>
            refine ⟨k + 1, o.set p cy, by go_num, by omega, ?hB, ?hO, ?hG⟩
            case hB => exact ⟨HB'.out.setCell HG.out _⟩
            case hO => exact ⟨HPUT.out cy⟩
            case hG =>
              have hl : p < o.length := by have := HG2.out.1; omega
              refine ⟨by simp [HG2.out.1], HG2.out.2.1.set (by omega), ?_⟩
              rw [nv_take_succ L, HX.out]
              have e1 := nv_set hl cy
              have e2 := HG2.out.2.2.2
              rw [← HP.out] at e2
              rw [e2, HP.out] at e1
              have e3 := HG2.out.2.2.1
              rw [nv_take_all (l := M) (by rw [NM.out]; omega)] at e3
              rw [HP.out]
              exact mul_row e3 rfl (by omega)
          case measure => simp [intOf]; omega
    · obtain rfl : k = n1 := by omega
      have HF := Aside0.mk (show nv o = nv a * nv b by rw [HG1.out.2.2, nv_take_all (by rw [NL.out]; omega), VL.out, VM.out])
      have QT := Aside0.mk (trim_own HO1.out HG1.out.2.1 (by omega))
      go_wp2_with (go_at_call 44; refine QT.out.mono ?_; rintro e w5 ⟨v, rfl, ho, n5, rfl⟩; rw [HF.out] at ho; have HOO := Aside0.mk ho; clear ho)
      go_ret
      have HB4 := below_then W2.out W2.out.size HB.out
      exact ⟨_, rfl, HOO.out.lower W2.out.size, pw_below_drewN HB4 _⟩
end Go.Proofs.YtgpjplelgffocaaDoor

namespace Go.Proofs.YtgpjplelgffocaaDoor
open Go.RowKit Go.Proofs.YtgpjplelgffocaaDoorW.PrintWords Limb
set_option linter.unusedVariables false
set_option linter.unusedSimpArgs false

/-- A dyadic number of the program's own making: z * 2^e in its one form. -/
def PDy (w : World) (base : Nat) (v : Value) (z e : Int) : Prop :=
  ∃ A n c, v = .agg #[.bool (cneg z), .slice A n c, .int .i64 (cexp z e)] ∧ PL w base (.slice A n c) (limbs (cman z))
theorem PDy.c {w : World} {base : Nat} {v : Value} {z e : Int} (h : PDy w base v z e) : CDy w v z e := by
  obtain ⟨A, n, c, rfl, hr⟩ := h
  obtain ⟨A', c', he, hc, hC⟩ := hr.c
  injection he with h1 h2 h3
  subst h1 h2 h3
  exact ⟨A, _, c, rfl, hC, rfl, hc⟩
theorem PDy.lower {w : World} {b b' : Nat} {v : Value} {z e : Int} (h : PDy w b v z e) (hb : b' ≤ b) : PDy w b' v z e := by
  obtain ⟨A, n, c, rfl, hr⟩ := h
  exact ⟨A, n, c, rfl, hr.lower hb⟩
theorem PDy.below {w w1 : World} {b : Nat} {v : Value} {z e : Int} (h : PDy w b v z e) (hb : Below w.heap.size w w1) : PDy w1 b v z e := by
  obtain ⟨A, n, c, rfl, hr⟩ := h
  exact ⟨A, n, c, rfl, hr.below hb⟩
theorem PDy.grown {w w1 : World} {b g : Nat} {v : Value} {z e : Int} (h : PDy w b v z e) (hg : w.grownBy w1 (some g)) (hgb : g < b) : PDy w1 b v z e := by
  obtain ⟨A, n, c, rfl, hr⟩ := h
  exact ⟨A, n, c, rfl, hr.grown hg hgb⟩
theorem PDy.scale {w : World} {b : Nat} {v : Value} {z e : Int} (k : Nat) (h : PDy w b v z (e + k)) : PDy w b v (z * 2 ^ k) e := by
  obtain ⟨A, n, c, rfl, hr⟩ := h
  exact ⟨A, n, c, by rw [cneg_mul, cexp_mul], by rw [cman_mul]; exact hr⟩

set_option maxHeartbeats 1000000 in
theorem pform_any (neg : Bool) (l : List Nat) (A : Option Addr) (n c : Nat) (ex : Int) (hn : l.length = n) (w : World) (hl : kU.C w A n l) (hc : n ≤ c) (wl : Wf l) (ln : n ≤ 1073741824) (le1 : -1099511627776 ≤ ex) (le2 : ex ≤ 1099511627776) (hT : TabAt 0 Lib.deBruijn64tab w) :
    Calls Tryd.prog 43 #[.bool neg, .slice A n c, .int .i64 ex] w fun e w' => ∃ v, e = .returned v ∧ PDy w' w.heap.size v (sgn neg (nv l)) ex ∧ Below w.heap.size w w' := by
  subst hn
  have QN := Aside0.mk (fun (m : World) (hm : Below w.heap.size w m) => trim_any l A c m (Kd.C_below hl hm) hc wl (by omega))
  have CL := Aside0.mk (fun (m : World) (hm : Below w.heap.size w m) => C_trim (Kd.C_below hl hm) wl)
  have HT := Aside0.mk (fun (m : World) (hm : Below w.heap.size w m) => tab_below hT hm)
  by_cases h0 : nv l = 0
  · have HZ := Aside0.mk (show (limbs (nv l)).length = 0 by rw [h0, limbs_zero]; rfl)
    have HV := Aside0.mk (show sgn neg (nv l) = 0 by rw [h0]; exact sgn_zero neg)
    rw [HZ.out] at QN
    clear hl h0 CL
    go_enter Tryd.func43, Tryd.ntmps43
    go_wp2_with (first
      | (go_at_call 44; go_must (refine (QN.out _ (below_alloc (Below.refl _ _) _)).mono ?_; rintro e w1 ⟨rfl, hw⟩; have hb := quiet_below hw; have HB := Aside0.mk hb; have HH := Aside0.mk (blk_below (blk_new w _) hb); clear hb hw))
      | ((with_reducible refine gate_store (p := 6) rfl ?_); go_must (refine store_box 27 6 (.tmp 15) rfl rfl rfl (g := w.heap.size) (e := 27) (.agg #[.bool false, .slice none 0 0, .int .i64 0]) ([.bool false, .slice none 0 0, .int .i64 0]) rfl rfl rfl info_dyad ?b1 HH.out rfl ?_; (case b1 => intro q hq; simp at hq; rcases hq with rfl | rfl | rfl <;> rfl); intro wb hbx hgx; have HX := Aside0.mk hbx; have HG := Aside0.mk hgx; clear hbx hgx)))
    refine bodyPost_ret (results_dyad rfl _ _ w.heap.size _ rfl HX.out rfl) rfl ?_
    refine ⟨_, rfl, ⟨none, 0, 0, by rw [HV.out]; rfl, by rw [HV.out, cman_zero, limbs_zero]; exact PL.nil _ _⟩, ?_⟩
    exact (below_then (below_alloc (Below.refl _ _) _) (below_alloc (Below.refl w.heap.size w) _).size HB.out).grown HG.out (below_then (below_alloc (Below.refl _ _) _) (below_alloc (Below.refl w.heap.size w) _).size HB.out).size (fun k hk => by cases hk; exact Nat.le_refl _)
  · obtain ⟨L, hL⟩ : ∃ L, L = limbs (nv l) := ⟨_, rfl⟩
    obtain ⟨n1, hn1⟩ : ∃ n, n = L.length := ⟨_, rfl⟩
    obtain ⟨k, hk⟩ : ∃ k, k = tz (nv l) := ⟨_, rfl⟩
    have hn0 : n1 ≠ 0 := by
      rw [hn1, hL]; intro h; exact h0 (limbs_eq_nil.1 (List.length_eq_zero_iff.1 h))
    have hnn : n1 ≤ 1073741824 := by have := limbs_nv_len wl; rw [hn1, hL]; omega
    have hkb : k ≤ 68719476736 := by
      have h1 := tz_lt_bl h0
      have h2 : bl (nv l) ≤ 64 * l.length := bl_le_iff.2 (nv_lt wl)
      omega
    have WL := Aside0.mk (show Wf L by rw [hL]; exact wf_limbs _)
    have VL := Aside0.mk (show nv L = nv l by rw [hL, nv_limbs])
    have NL := Aside0.mk hn1.symm
    have HK := Aside0.mk hk
    have HN0 := Aside0.mk h0
    rw [← hL, ← hn1] at QN CL
    have QLow := Aside0.mk (fun (m : World) (hm : Below w.heap.size w m) => (by
      have q := plow_any L A n1 m (by rw [NL.out]; exact CL.out m hm) (by rw [NL.out]; exact Nat.le_refl _) WL.out (by rw [NL.out]; exact hnn) (HT.out m hm)
      rw [NL.out, VL.out, ← HK.out] at q
      exact q : Calls Tryd.prog 65 #[.slice A n1 n1] m fun e w' => e = .returned (.int .i64 (k : Int)) ∧ ∃ n, w' = m.drewN n))
    have QShr := Aside0.mk (fun (m : World) (hm : Below w.heap.size w m) => (by
      have q := pshr_any L A n1 n1 k NL.out m (CL.out m hm) (Nat.le_refl _) WL.out hnn hkb (HT.out m hm)
      rw [VL.out] at q
      exact q : Calls Tryd.prog 66 #[.slice A n1 n1, .int .i64 (k : Int)] m fun e w' => ∃ v, e = .returned (.tuple #[v, .bool (nv l % 2 ^ k != 0)]) ∧ PL w' m.heap.size v (limbs (nv l / 2 ^ k)) ∧ Below m.heap.size m w'))
    clear hl h0 hL hn1 hk
    have hz : ((n1 : Int) == 0) = false := by simp; omega
    have hex : IntKind.i64.wrap (ex + (k : Int)) = ex + k := wrap_i64 (by omega) (by omega)
    go_enter Tryd.func43, Tryd.ntmps43
    go_wp2_with (first
      | (go_at_call 44; go_must (refine (QN.out _ (below_alloc (Below.refl _ _) _)).mono ?_; rintro e w1 ⟨rfl, hw⟩; have hb := quiet_below hw; have HB := Aside0.mk (below_then (below_alloc (Below.refl _ _) _) (below_alloc (Below.refl w.heap.size w) _).size hb); have HH := Aside0.mk (blk_below (blk_new w _) hb); clear hb hw))
      | (go_at_call 65; go_must (refine (QLow.out _ HB.out).mono ?_; rintro e w2 ⟨rfl, hw⟩; have hb := quiet_below hw; have HB2 := Aside0.mk (below_then HB.out HB.out.size hb); have HH2 := Aside0.mk (blk_below HH.out hb); clear hb hw))
      | (go_at_call 66; go_must (refine (QShr.out _ HB2.out).mono ?_; rintro e w3 ⟨v, rfl, ho, hb⟩; obtain ⟨A2, c2, rfl, hc2, hC2⟩ := ho.c; have HO := Aside0.mk ho; have HB3 := Aside0.mk hb; have HH3 := Aside0.mk (blk_below HH2.out hb); clear hb ho hC2))
      | ((with_reducible refine gate_store (p := 6) rfl ?_); go_must (refine store_box 27 6 (.tmp 29) rfl rfl rfl (g := w.heap.size) (e := 27) (.agg #[.bool neg, .slice A2 (limbs (nv l / 2 ^ k)).length c2, .int .i64 (ex + k)]) ([.bool neg, .slice A2 (limbs (nv l / 2 ^ k)).length c2, .int .i64 (ex + k)]) rfl rfl rfl info_dyad ?b1 HH3.out rfl ?_; (case b1 => intro q hq; simp at hq; rcases hq with rfl | rfl | rfl <;> rfl); intro wb hbx hgx; have HX := Aside0.mk hbx; have HG := Aside0.mk hgx; clear hbx hgx)))
    refine bodyPost_ret (results_dyad rfl _ _ w.heap.size _ rfl HX.out rfl) rfl ?_
    have b2 := below_then HB2.out HB2.out.size HB3.out
    refine ⟨_, rfl, ?_, b2.grown HG.out b2.size (fun k hk => by cases hk; exact Nat.le_refl _)⟩
    refine PDy.lower (b := w2.heap.size) ?_ HB2.out.size
    refine PDy.grown (w := w3) ?_ HG.out ?_
    · refine ⟨A2, (limbs (nv l / 2 ^ k)).length, c2, ?_, ?_⟩
      · rw [cneg_sgn HN0.out, cexp_sgn HN0.out, ← HK.out]
      · rw [cman_sgn, ← HK.out]; exact HO.out
    · exact blk_lt HH2.out

/-- The form of z * 2^e, moved: of a number in its form. -/
theorem form_at_self (z e : Int) (b : Bool) (h : b = cneg z ∨ z = 0) (k : Int) {w : World} {base : Nat} {v : Value} (hr : PDy w base v (sgn b (cman z)) (cexp z e + k)) : PDy w base v z (e + k) := by
  by_cases h0 : z = 0
  · subst h0
    rw [cman_zero, sgn_zero] at hr
    obtain ⟨A, n, c, rfl, hr⟩ := hr
    exact ⟨A, n, c, rfl, hr⟩
  · obtain rfl := h.resolve_right h0
    obtain ⟨j, e1, e2, _⟩ := of_form (e := e) h0
    rw [e1, show e + (j : Int) + k = e + k + j by omega] at hr
    have := PDy.scale j hr
    rw [← sgn_pow, ← e2] at this
    exact this
end Go.Proofs.YtgpjplelgffocaaDoor

namespace Go.Proofs.YtgpjplelgffocaaDoor
open Go.RowKit Go.Proofs.YtgpjplelgffocaaDoorW.PrintWords Limb
set_option linter.unusedVariables false
set_option linter.unusedSimpArgs false

theorem cman_neg (z : Int) : cman (-z) = cman z := by unfold cman; rw [Int.natAbs_neg]
theorem cexp_neg (z e : Int) : cexp (-z) e = cexp z e := by unfold cexp; rw [Int.natAbs_neg]; by_cases h : z = 0 <;> simp [h]
theorem cman_abs (z : Int) : cman (z.natAbs : Int) = cman z := by unfold cman; rw [Int.natAbs_natCast]
theorem cexp_abs (z e : Int) : cexp (z.natAbs : Int) e = cexp z e := by unfold cexp; rw [Int.natAbs_natCast]; by_cases h : z = 0 <;> simp [h]
theorem cneg_abs (z : Int) : cneg (z.natAbs : Int) = false := by unfold cneg; exact decide_eq_false (by omega)
theorem cneg_neg {z : Int} (h : z ≠ 0) : cneg (-z) = !cneg z := by
  unfold cneg
  by_cases h1 : z < 0
  · rw [decide_eq_true h1, decide_eq_false (by omega)]; rfl
  · rw [decide_eq_false h1, decide_eq_true (by omega)]; rfl

set_option maxHeartbeats 1000000 in
theorem pone_dy (v : Value) (z e : Int) (w : World) (h : CDy w v z e) (hl : (limbs (cman z)).length ≤ 1073741824) (le1 : -549755813888 ≤ cexp z e) (le2 : cexp z e ≤ 549755813888) (hT : TabAt 0 Lib.deBruijn64tab w) :
    Calls Tryd.prog 72 #[v] w fun en w' => ∃ v', en = .returned v' ∧ PDy w' w.heap.size v' (z) (e) ∧ Below w.heap.size w w' := by
  obtain ⟨A, n, c, rfl, hC, hn, hc⟩ := h
  have QF := Aside0.mk (fun (m : World) (hm : Below w.heap.size w m) => (by
    have q := pform_any (cneg z) (limbs (cman z)) A n c (cexp z e) hn m (Kd.C_below hC hm) hc (wf_limbs _) (by omega) (by omega) (by omega) (tab_below hT hm)
    refine q.mono ?_
    rintro en w' ⟨v', rfl, hr, hb⟩
    rw [nv_limbs] at hr
    exact ⟨v', rfl, by have := form_at_self z e (cneg z) (.inl rfl) 0 (by rw [Int.add_zero]; exact hr); rw [Int.add_zero] at this; exact this, hb⟩ : Calls Tryd.prog 43 #[.bool (cneg z), .slice A n c, .int .i64 (cexp z e)] m fun en w' => ∃ v', en = .returned v' ∧ PDy w' m.heap.size v' (z) (e) ∧ Below m.heap.size m w'))
  obtain ⟨x0, hx0⟩ : ∃ x, x = cexp z e := ⟨_, rfl⟩
  obtain ⟨b0, hb0⟩ : ∃ x, x = cneg z := ⟨_, rfl⟩
  rw [← hx0] at le1 le2
  simp only [← hx0, ← hb0] at QF
  rw [← hx0, ← hb0]
  clear hC hx0 hb0 hT
  go_enter Tryd.func72, Tryd.ntmps72
  go_wp2_with (first
    | (go_at_call 43; go_must (refine (QF.out _ (below_alloc (below_alloc (Below.refl _ _) _) _)).mono ?_; rintro e w1 ⟨v, rfl, ⟨A2, n2, c2, rfl, hr⟩, hb⟩; have HR := Aside0.mk hr; have HB := Aside0.mk (below_then (below_alloc (below_alloc (Below.refl w.heap.size w) _) _) (below_alloc (below_alloc (Below.refl w.heap.size w) _) _).size hb); have hh := blk_below (blk_new _ _) hb; rw [size_alloc'] at hh; have HH := Aside0.mk hh; clear hr hb hh))
    | ((with_reducible refine gate_store (p := 2) rfl ?_); go_must (refine store_box 27 2 (.tmp 9) rfl rfl rfl (g := (w.heap.size + 1)) (e := 27) (.agg #[.bool (cneg (z)), .slice A2 n2 c2, .int .i64 (cexp (z) (e))]) ([.bool (cneg (z)), .slice A2 n2 c2, .int .i64 (cexp (z) (e))]) rfl rfl rfl info_dyad ?b1 HH.out rfl ?_; (case b1 => intro q hq; simp at hq; rcases hq with rfl | rfl | rfl <;> rfl); intro wb hbx hgx; have HX := Aside0.mk hbx; have HG := Aside0.mk hgx; clear hbx hgx)))
  refine bodyPost_ret (results_dyad rfl _ _ (w.heap.size + 1) _ rfl HX.out rfl) rfl ?_
  refine ⟨_, rfl, PDy.lower (b := w.heap.size + 2) (PDy.grown (w := w1) ?_ HG.out (by omega)) (by omega), HB.out.grown HG.out HB.out.size (fun k hk => by cases hk; omega)⟩
  have h := HR.out
  rw [size_alloc', size_alloc'] at h
  exact ⟨A2, n2, c2, rfl, h⟩

set_option maxHeartbeats 1000000 in
theorem pneg_dy (v : Value) (z e : Int) (w : World) (h : CDy w v z e) (hl : (limbs (cman z)).length ≤ 1073741824) (le1 : -549755813888 ≤ cexp z e) (le2 : cexp z e ≤ 549755813888) (hT : TabAt 0 Lib.deBruijn64tab w) :
    Calls Tryd.prog 98 #[v] w fun en w' => ∃ v', en = .returned v' ∧ PDy w' w.heap.size v' (-z) (e) ∧ Below w.heap.size w w' := by
  obtain ⟨A, n, c, rfl, hC, hn, hc⟩ := h
  have QF := Aside0.mk (fun (m : World) (hm : Below w.heap.size w m) => (by
    have q := pform_any (!cneg z) (limbs (cman z)) A n c (cexp z e) hn m (Kd.C_below hC hm) hc (wf_limbs _) (by omega) (by omega) (by omega) (tab_below hT hm)
    refine q.mono ?_
    rintro en w' ⟨v', rfl, hr, hb⟩
    rw [nv_limbs] at hr
    exact ⟨v', rfl, by have := form_at_self (-z) e (!cneg z) (by by_cases h0 : z = 0; exact .inr (by omega); exact .inl (cneg_neg h0).symm) 0 (by rw [Int.add_zero, cman_neg, cexp_neg]; exact hr); rw [Int.add_zero] at this; exact this, hb⟩ : Calls Tryd.prog 43 #[.bool (!cneg z), .slice A n c, .int .i64 (cexp z e)] m fun en w' => ∃ v', en = .returned v' ∧ PDy w' m.heap.size v' (-z) (e) ∧ Below m.heap.size m w'))
  obtain ⟨x0, hx0⟩ : ∃ x, x = cexp z e := ⟨_, rfl⟩
  obtain ⟨b0, hb0⟩ : ∃ x, x = cneg z := ⟨_, rfl⟩
  rw [← hx0] at le1 le2
  simp only [← hx0, ← hb0] at QF
  rw [← hx0, ← hb0]
  clear hC hx0 hb0 hT
  go_enter Tryd.func98, Tryd.ntmps98
  go_wp2_with (first
    | (go_at_call 43; go_must (refine (QF.out _ (below_alloc (below_alloc (Below.refl _ _) _) _)).mono ?_; rintro e w1 ⟨v, rfl, ⟨A2, n2, c2, rfl, hr⟩, hb⟩; have HR := Aside0.mk hr; have HB := Aside0.mk (below_then (below_alloc (below_alloc (Below.refl w.heap.size w) _) _) (below_alloc (below_alloc (Below.refl w.heap.size w) _) _).size hb); have hh := blk_below (blk_new _ _) hb; rw [size_alloc'] at hh; have HH := Aside0.mk hh; clear hr hb hh))
    | ((with_reducible refine gate_store (p := 2) rfl ?_); go_must (refine store_box 27 2 (.tmp 10) rfl rfl rfl (g := (w.heap.size + 1)) (e := 27) (.agg #[.bool (cneg (-z)), .slice A2 n2 c2, .int .i64 (cexp (-z) (e))]) ([.bool (cneg (-z)), .slice A2 n2 c2, .int .i64 (cexp (-z) (e))]) rfl rfl rfl info_dyad ?b1 HH.out rfl ?_; (case b1 => intro q hq; simp at hq; rcases hq with rfl | rfl | rfl <;> rfl); intro wb hbx hgx; have HX := Aside0.mk hbx; have HG := Aside0.mk hgx; clear hbx hgx)))
  refine bodyPost_ret (results_dyad rfl _ _ (w.heap.size + 1) _ rfl HX.out rfl) rfl ?_
  refine ⟨_, rfl, PDy.lower (b := w.heap.size + 2) (PDy.grown (w := w1) ?_ HG.out (by omega)) (by omega), HB.out.grown HG.out HB.out.size (fun k hk => by cases hk; omega)⟩
  have h := HR.out
  rw [size_alloc', size_alloc'] at h
  exact ⟨A2, n2, c2, rfl, h⟩

set_option maxHeartbeats 1000000 in
theorem pabs_dy (v : Value) (z e : Int) (w : World) (h : CDy w v z e) (hl : (limbs (cman z)).length ≤ 1073741824) (le1 : -549755813888 ≤ cexp z e) (le2 : cexp z e ≤ 549755813888) (hT : TabAt 0 Lib.deBruijn64tab w) :
    Calls Tryd.prog 49 #[v] w fun en w' => ∃ v', en = .returned v' ∧ PDy w' w.heap.size v' ((z.natAbs : Int)) (e) ∧ Below w.heap.size w w' := by
  obtain ⟨A, n, c, rfl, hC, hn, hc⟩ := h
  have QF := Aside0.mk (fun (m : World) (hm : Below w.heap.size w m) => (by
    have q := pform_any (false) (limbs (cman z)) A n c (cexp z e) hn m (Kd.C_below hC hm) hc (wf_limbs _) (by omega) (by omega) (by omega) (tab_below hT hm)
    refine q.mono ?_
    rintro en w' ⟨v', rfl, hr, hb⟩
    rw [nv_limbs] at hr
    exact ⟨v', rfl, by have := form_at_self (z.natAbs : Int) e false (.inl (cneg_abs z).symm) 0 (by rw [Int.add_zero, cman_abs, cexp_abs]; exact hr); rw [Int.add_zero] at this; exact this, hb⟩ : Calls Tryd.prog 43 #[.bool (false), .slice A n c, .int .i64 (cexp z e)] m fun en w' => ∃ v', en = .returned v' ∧ PDy w' m.heap.size v' ((z.natAbs : Int)) (e) ∧ Below m.heap.size m w'))
  obtain ⟨x0, hx0⟩ : ∃ x, x = cexp z e := ⟨_, rfl⟩
  obtain ⟨b0, hb0⟩ : ∃ x, x = cneg z := ⟨_, rfl⟩
  rw [← hx0] at le1 le2
  simp only [← hx0, ← hb0] at QF
  rw [← hx0, ← hb0]
  clear hC hx0 hb0 hT
  go_enter Tryd.func49, Tryd.ntmps49
  go_wp2_with (first
    | (go_at_call 43; go_must (refine (QF.out _ (below_alloc (below_alloc (Below.refl _ _) _) _)).mono ?_; rintro e w1 ⟨v, rfl, ⟨A2, n2, c2, rfl, hr⟩, hb⟩; have HR := Aside0.mk hr; have HB := Aside0.mk (below_then (below_alloc (below_alloc (Below.refl w.heap.size w) _) _) (below_alloc (below_alloc (Below.refl w.heap.size w) _) _).size hb); have hh := blk_below (blk_new _ _) hb; rw [size_alloc'] at hh; have HH := Aside0.mk hh; clear hr hb hh))
    | ((with_reducible refine gate_store (p := 2) rfl ?_); go_must (refine store_box 27 2 (.tmp 7) rfl rfl rfl (g := (w.heap.size + 1)) (e := 27) (.agg #[.bool (cneg ((z.natAbs : Int))), .slice A2 n2 c2, .int .i64 (cexp ((z.natAbs : Int)) (e))]) ([.bool (cneg ((z.natAbs : Int))), .slice A2 n2 c2, .int .i64 (cexp ((z.natAbs : Int)) (e))]) rfl rfl rfl info_dyad ?b1 HH.out rfl ?_; (case b1 => intro q hq; simp at hq; rcases hq with rfl | rfl | rfl <;> rfl); intro wb hbx hgx; have HX := Aside0.mk hbx; have HG := Aside0.mk hgx; clear hbx hgx)))
  refine bodyPost_ret (results_dyad rfl _ _ (w.heap.size + 1) _ rfl HX.out rfl) rfl ?_
  refine ⟨_, rfl, PDy.lower (b := w.heap.size + 2) (PDy.grown (w := w1) ?_ HG.out (by omega)) (by omega), HB.out.grown HG.out HB.out.size (fun k hk => by cases hk; omega)⟩
  have h := HR.out
  rw [size_alloc', size_alloc'] at h
  exact ⟨A2, n2, c2, rfl, h⟩

set_option maxHeartbeats 1000000 in
theorem pshift_dy (v : Value) (z e : Int) (k : Int) (w : World) (h : CDy w v z e) (hl : (limbs (cman z)).length ≤ 1073741824) (le1 : -549755813888 ≤ cexp z e) (le2 : cexp z e ≤ 549755813888) (lk1 : -549755813888 ≤ k) (lk2 : k ≤ 549755813888) (hT : TabAt 0 Lib.deBruijn64tab w) :
    Calls Tryd.prog 69 #[v, .int .i64 k] w fun en w' => ∃ v', en = .returned v' ∧ PDy w' w.heap.size v' (z) (e + k) ∧ Below w.heap.size w w' := by
  obtain ⟨A, n, c, rfl, hC, hn, hc⟩ := h
  have QF := Aside0.mk (fun (m : World) (hm : Below w.heap.size w m) => (by
    have q := pform_any (cneg z) (limbs (cman z)) A n c (cexp z e + k) hn m (Kd.C_below hC hm) hc (wf_limbs _) (by omega) (by omega) (by omega) (tab_below hT hm)
    refine q.mono ?_
    rintro en w' ⟨v', rfl, hr, hb⟩
    rw [nv_limbs] at hr
    exact ⟨v', rfl, form_at_self z e (cneg z) (.inl rfl) k hr, hb⟩ : Calls Tryd.prog 43 #[.bool (cneg z), .slice A n c, .int .i64 (cexp z e + k)] m fun en w' => ∃ v', en = .returned v' ∧ PDy w' m.heap.size v' (z) (e + k) ∧ Below m.heap.size m w'))
  obtain ⟨x0, hx0⟩ : ∃ x, x = cexp z e := ⟨_, rfl⟩
  obtain ⟨b0, hb0⟩ : ∃ x, x = cneg z := ⟨_, rfl⟩
  rw [← hx0] at le1 le2
  simp only [← hx0, ← hb0] at QF
  rw [← hx0, ← hb0]
  clear hC hx0 hb0 hT
  have hk : IntKind.i64.wrap (x0 + k) = x0 + k := wrap_i64 (by omega) (by omega)
  go_enter Tryd.func69, Tryd.ntmps69
  go_wp2_with (first
    | (go_at_call 43; go_must (refine (QF.out _ (below_alloc (below_alloc (Below.refl _ _) _) _)).mono ?_; rintro e w1 ⟨v, rfl, ⟨A2, n2, c2, rfl, hr⟩, hb⟩; have HR := Aside0.mk hr; have HB := Aside0.mk (below_then (below_alloc (below_alloc (Below.refl w.heap.size w) _) _) (below_alloc (below_alloc (Below.refl w.heap.size w) _) _).size hb); have hh := blk_below (blk_new _ _) hb; rw [size_alloc'] at hh; have HH := Aside0.mk hh; clear hr hb hh))
    | ((with_reducible refine gate_store (p := 4) rfl ?_); go_must (refine store_box 27 4 (.tmp 13) rfl rfl rfl (g := (w.heap.size + 1)) (e := 27) (.agg #[.bool (cneg (z)), .slice A2 n2 c2, .int .i64 (cexp (z) (e + k))]) ([.bool (cneg (z)), .slice A2 n2 c2, .int .i64 (cexp (z) (e + k))]) rfl rfl rfl info_dyad ?b1 HH.out rfl ?_; (case b1 => intro q hq; simp at hq; rcases hq with rfl | rfl | rfl <;> rfl); intro wb hbx hgx; have HX := Aside0.mk hbx; have HG := Aside0.mk hgx; clear hbx hgx)))
  refine bodyPost_ret (results_dyad rfl _ _ (w.heap.size + 1) _ rfl HX.out rfl) rfl ?_
  refine ⟨_, rfl, PDy.lower (b := w.heap.size + 2) (PDy.grown (w := w1) ?_ HG.out (by omega)) (by omega), HB.out.grown HG.out HB.out.size (fun k hk => by cases hk; omega)⟩
  have h := HR.out
  rw [size_alloc', size_alloc'] at h
  exact ⟨A2, n2, c2, rfl, h⟩

set_option maxHeartbeats 1000000 in
theorem ppower_dy (n : Int) (w : World) :
    Calls Tryd.prog 79 #[.int .i64 n] w fun en w' => ∃ v', en = .returned v' ∧ PDy w' w.heap.size v' 1 n ∧ Below w.heap.size w w' := by
  have HV := Aside0.mk (show (Value.agg #[.bool false, .slice (some ⟨w.heap.size + 1, 0, none⟩) 1 1, .int .i64 n]) = .agg #[.bool (cneg 1), .slice (some ⟨w.heap.size + 1, 0, none⟩) 1 1, .int .i64 (cexp 1 n)] by
    rw [show cneg 1 = false from rfl, show cexp 1 n = n by unfold cexp; simp [tz_odd]])
  have HL := Aside0.mk (show limbs (cman 1) = [1] by rw [show cman 1 = 1 by unfold cman; simp [tz_odd]]; exact limbs_one (by decide) (by decide))
  go_enter Tryd.func79, Tryd.ntmps79
  go_wp2
  refine bodyPost_ret (results_dyad rfl _ _ w.heap.size _ rfl (blk_alloc (blk_new _ _) _) rfl) rfl ?_
  refine ⟨_, rfl, ⟨some ⟨w.heap.size + 1, 0, none⟩, 1, 1, HV.out, ?_⟩, below_alloc (below_alloc (Below.refl _ _) _) _⟩
  rw [HL.out]
  have h := row_one (w.alloc (.cells #[.bool false, .slice (some ⟨w.heap.size + 1, 0, none⟩) 1 1, .int .i64 n] 27)) 1
  rw [size_alloc'] at h
  exact PL.lower (PL.of_R h) (by omega)

set_option maxHeartbeats 1000000 in
theorem pzero_dy (v : Value) (z e : Int) (w : World) (h : CDy w v z e) (hl : (limbs (cman z)).length ≤ 1073741824) :
    Calls Tryd.prog 22 #[v] w fun en w' => en = .returned (.bool (decide (z = 0))) ∧ Below w.heap.size w w' := by
  obtain ⟨A, n, c, rfl, hC, hn, hc⟩ := h
  have QN := Aside0.mk (fun (m : World) (hm : Below w.heap.size w m) => trim_any (limbs (cman z)) A c m (by rw [hn]; exact Kd.C_below hC hm) (by omega) (wf_limbs _) (by omega))
  rw [hn, nv_limbs] at QN
  obtain ⟨n1, hn1⟩ : ∃ k, k = (limbs (cman z)).length := ⟨_, rfl⟩
  obtain ⟨x, hx⟩ : ∃ x, x = cexp z e := ⟨_, rfl⟩
  obtain ⟨b, hb⟩ : ∃ x, x = cneg z := ⟨_, rfl⟩
  have hz : ((n1 : Int) == 0) = decide (z = 0) := by
    rw [Bool.eq_iff_iff]
    simp only [beq_iff_eq, decide_eq_true_eq]
    rw [hn1]
    constructor
    · intro h
      exact cman_eq_zero.1 (limbs_eq_nil.1 (List.length_eq_zero_iff.1 (by omega)))
    · rintro rfl
      rw [cman_zero, limbs_zero]; rfl
  rw [← hn1] at QN
  rw [← hx, ← hb]
  clear hC hn1 hn hx hb
  go_enter Tryd.func22, Tryd.ntmps22
  go_wp2_with (go_at_call 44; go_must (refine (QN.out _ (below_alloc (Below.refl _ _) _)).mono ?_; rintro e w1 ⟨rfl, hw⟩; have hb := quiet_below hw; have HB : Aside0 (Below w.heap.size w w1) := ⟨(by exact below_of_alloc hb)⟩; clear hb hw))
  go_ret
  exact ⟨ret_bool (by first | rfl | exact hz), HB.out⟩

set_option maxHeartbeats 1000000 in
theorem psign_dy (v : Value) (z e : Int) (w : World) (h : CDy w v z e) (hl : (limbs (cman z)).length ≤ 1073741824) :
    Calls Tryd.prog 45 #[v] w fun en w' => en = .returned (.int .i64 (sgnI z)) ∧ Below w.heap.size w w' := by
  have QZ := Aside0.mk (fun (m : World) (hm : Below w.heap.size w m) => pzero_dy v z e m (h.below hm) hl)
  obtain ⟨A, n, c, rfl, hC, hn, hc⟩ := h
  obtain ⟨x, hx⟩ : ∃ x, x = cexp z e := ⟨_, rfl⟩
  obtain ⟨b, hb⟩ : ∃ x, x = cneg z := ⟨_, rfl⟩
  rw [← hx, ← hb] at QZ
  rw [← hx, ← hb]
  obtain ⟨d, hd⟩ : ∃ d, d = decide (z = 0) := ⟨_, rfl⟩
  rw [← hd] at QZ
  have HS := Aside0.mk (show sgnI z = if d then 0 else if b then -1 else 1 by
    rw [hd, hb]; unfold sgnI cneg
    by_cases h0 : z = 0
    · simp [h0]
    · simp [h0])
  clear hC hx hb hd
  cases d
  all_goals cases b
  all_goals
    go_enter Tryd.func45, Tryd.ntmps45
    go_wp2_with (go_at_call 22; go_must (refine (QZ.out _ (below_alloc (Below.refl _ _) _)).mono ?_; rintro e w1 ⟨rfl, hb⟩; have HB : Aside0 (Below w.heap.size w w1) := ⟨(by exact below_of_alloc hb)⟩; have hh : w1.heap[w.heap.size]? = some (.cells #[.bool _, .slice A n c, .int .i64 x] 27 (0, 0)) := (by exact blk_below (blk_new _ _) hb); have c0 := (cell_of_row w1 _ 0 _ _ _ hh).trans rfl; clear hb hh))
    go_ret
    exact ⟨ret_int (by rw [HS.out]; rfl), HB.out⟩

set_option maxHeartbeats 4000000 in
theorem ptop_dy (v : Value) (z e : Int) (w : World) (h : CDy w v z e) (hl : (limbs (cman z)).length ≤ 1073741824) (le1 : -1099511627776 ≤ cexp z e) (le2 : cexp z e ≤ 1099511627776) :
    Calls Tryd.prog 70 #[v] w fun en w' => en = .returned (.int .i64 (cexp z e + bl (cman z) - 1)) ∧ Below w.heap.size w w' := by
  obtain ⟨A, n, c, rfl, hC, hn, hc⟩ := h
  have QL := Aside0.mk (fun (m : World) (hm : Below w.heap.size w m) => plen_any (limbs (cman z)) A c m (by rw [hn]; exact Kd.C_below hC hm) (by omega) (wf_limbs _) (by omega))
  rw [hn] at QL
  obtain ⟨T, hT⟩ : ∃ T, T = bl (cman z) := ⟨_, rfl⟩
  have hTb : T ≤ 68719476736 := by
    have := nv_lt (wf_limbs (cman z))
    rw [nv_limbs] at this
    have := bl_le_iff.2 this
    omega
  rw [nv_limbs, ← hT] at QL
  rw [← hT]
  obtain ⟨x, hx⟩ : ∃ x, x = cexp z e := ⟨_, rfl⟩
  rw [← hx] at le1 le2 ⊢
  have hw3 : IntKind.i64.wrap (IntKind.i64.wrap (x + T) - 1) = x + T - 1 := by rw [show IntKind.i64.wrap (x + T) = x + T from wrap_i64 (by omega) (by omega)]; exact wrap_i64 (by omega) (by omega)
  clear hC hT hx
  go_enter Tryd.func70, Tryd.ntmps70
  go_wp2
  go_region_with (go_at_call 94; refine (QL.out _ ?hB).mono ?_; (case hB => first | exact below_alloc (Below.refl _ _) _ | exact below_drew (below_alloc (Below.refl _ _) _) | exact pw_below_drewN (below_alloc (Below.refl _ _) _) _); rintro e w1 ⟨rfl, hw⟩; have hb := quiet_below hw; have HB : Aside0 (Below w.heap.size w w1) := ⟨(by first | exact below_of_alloc hb | exact below_of_drew hb)⟩; have hh : w1.heap[w.heap.size]? = some (.cells #[.bool (cneg z), .slice A n c, .int .i64 x] 27 (0, 0)) := (by first | exact blk_below (blk_new _ _) hb | exact blk_below (blk_drew (blk_new _ _)) hb | exact blk_below (blk_drewN (blk_new _ _) _) hb); have c2 : w1.cell? ⟨w.heap.size, 2, none⟩ = some (.int .i64 x) := (cell_of_row w1 _ 2 _ _ _ hh).trans rfl; clear hb hh hw)
  all_goals
    go_wp2
    go_ret
    exact ⟨ret_int (by first | rfl | exact hw3), HB.out⟩
end Go.Proofs.YtgpjplelgffocaaDoor

namespace Go.Proofs.YtgpjplelgffocaaDoor
open Go.RowKit Go.Proofs.YtgpjplelgffocaaDoorW.PrintWords Limb
set_option linter.unusedVariables false
set_option linter.unusedSimpArgs false

theorem times_pform {w : World} {b : Nat} {v : Value} {y z e e' : Int} (h : PDy w b v (sgn (!(cneg y == cneg z)) (cman y * cman z)) (cexp y e + cexp z e')) : PDy w b v (y * z) (e + e') := by
  by_cases hy : y = 0
  · subst hy
    rw [cman_zero, Nat.zero_mul, sgn_zero] at h
    rw [Int.zero_mul]
    obtain ⟨A, n, c, rfl, hr⟩ := h
    exact ⟨A, n, c, rfl, hr⟩
  by_cases hz : z = 0
  · subst hz
    rw [cman_zero, Nat.mul_zero, sgn_zero] at h
    rw [Int.mul_zero]
    obtain ⟨A, n, c, rfl, hr⟩ := h
    exact ⟨A, n, c, rfl, hr⟩
  obtain ⟨j, e1, e2, _⟩ := of_form (e := e) hy
  obtain ⟨k, e3, e4, _⟩ := of_form (e := e') hz
  rw [e1, e3, show e + (j : Int) + (e' + (k : Int)) = e + e' + ((j + k : Nat) : Int) by omega] at h
  have h2 := PDy.scale (j + k) h
  rw [← sgn_pow] at h2
  have e5 : cman y * cman z * 2 ^ (j + k) = (cman y * 2 ^ j) * (cman z * 2 ^ k) := by rw [Nat.pow_add]; simp only [Nat.mul_assoc, Nat.mul_comm, Nat.mul_left_comm]
  have e6 : (!(cneg y == cneg z)) = (cneg y != cneg z) := rfl
  rw [e5, e6, sgn_mul, ← e2, ← e4] at h2
  exact h2

set_option maxRecDepth 100000 in
set_option maxHeartbeats 4000000 in
theorem pmul_dy (u v : Value) (y z e e' : Int) (w : World) (h : CDy w u y e) (h' : CDy w v z e') (hl : (limbs (cman y)).length ≤ 268435456) (hl' : (limbs (cman z)).length ≤ 268435456) (le1 : -137438953472 ≤ cexp y e) (le2 : cexp y e ≤ 137438953472) (le1' : -137438953472 ≤ cexp z e') (le2' : cexp z e' ≤ 137438953472) (hT : TabAt 0 Lib.deBruijn64tab w) :
    Calls Tryd.prog 97 #[u, v] w fun en w' => ∃ v', en = .returned v' ∧ PDy w' w.heap.size v' (y * z) (e + e') ∧ Below w.heap.size w w' := by
  obtain ⟨A, n, c, rfl, hC, hn, hc⟩ := h
  obtain ⟨A', n', c', rfl, hC', hn', hc'⟩ := h'
  obtain ⟨x0, hx0⟩ : ∃ x, x = cexp y e := ⟨_, rfl⟩
  obtain ⟨x1, hx1⟩ : ∃ x, x = cexp z e' := ⟨_, rfl⟩
  obtain ⟨b0, hb0⟩ : ∃ x, x = cneg y := ⟨_, rfl⟩
  obtain ⟨b1, hb1⟩ : ∃ x, x = cneg z := ⟨_, rfl⟩
  have QM := Aside0.mk (fun (m : World) (hm : Below w.heap.size w m) => (by have q := pmul_any (limbs (cman y)) (limbs (cman z)) A A' n n' c c' hn hn' m (Kd.C_below hC hm) (Kd.C_below hC' hm) hc hc' (wf_limbs _) (wf_limbs _) (by omega) (by omega); rw [nv_limbs, nv_limbs] at q; exact q : Calls Tryd.prog 105 #[.slice A n c, .slice A' n' c'] m fun e w' => ∃ v, e = .returned v ∧ PL w' m.heap.size v (limbs (cman y * cman z)) ∧ Below m.heap.size m w'))
  have HX := Aside0.mk (show IntKind.i64.wrap (x0 + x1) = x0 + x1 from wrap_i64 (by omega) (by omega))
  have QF := Aside0.mk (fun (A3 : Option Addr) (c3 : Nat) (m : World) (hm : Below w.heap.size w m) (hC3 : kU.C m A3 (limbs (cman y * cman z)).length (limbs (cman y * cman z))) (hc3 : (limbs (cman y * cman z)).length ≤ c3) => (by
    have hlen : (limbs (cman y * cman z)).length ≤ 1073741824 := by
      refine Nat.le_trans (limbs_len_le (k := (limbs (cman y)).length + (limbs (cman z)).length) ?_) (by omega)
      have q1 := nv_lt (wf_limbs (cman y))
      have q2 := nv_lt (wf_limbs (cman z))
      rw [nv_limbs] at q1 q2
      rw [Nat.mul_add, Nat.pow_add]
      exact Nat.mul_lt_mul'' q1 q2
    have hm2 := pform_any (!(b0 == b1)) (limbs (cman y * cman z)) A3 _ c3 (x0 + x1) rfl m hC3 hc3 (wf_limbs _) hlen (by omega) (by omega) (tab_below hT hm)
    rw [nv_limbs] at hm2
    refine hm2.mono ?_
    rintro en w' ⟨v', rfl, hr, hb⟩
    refine ⟨v', rfl, times_pform ?_, hb⟩
    rw [hx0, hx1, hb0, hb1] at hr
    exact hr : Calls Tryd.prog 43 #[.bool (!(b0 == b1)), .slice A3 (limbs (cman y * cman z)).length c3, .int .i64 (x0 + x1)] m fun en w' => ∃ v', en = .returned v' ∧ PDy w' m.heap.size v' (y * z) (e + e') ∧ Below m.heap.size m w'))
  rw [← hx0, ← hb0, ← hx1, ← hb1]
  clear hC hC' hx0 hx1 hb0 hb1 hT
  obtain ⟨W0, hW0⟩ : ∃ W0, W0 = ((w.alloc (.cells #[.bool b0, .slice A n c, .int .i64 x0] 27)).alloc (.cells #[.bool b1, .slice A' n' c', .int .i64 x1] 27)).alloc (.cells #[.bool false, .slice none 0 0, .int .i64 0] 27) := ⟨_, rfl⟩
  have hh0 : Aside0 (W0.heap[w.heap.size]? = some (.cells #[.bool b0, .slice A n c, .int .i64 x0] 27 (0, 0))) := ⟨by rw [hW0]; exact blk_alloc (blk_alloc (blk_new _ _) _) _⟩
  have hh1 : Aside0 (W0.heap[w.heap.size + 1]? = some (.cells #[.bool b1, .slice A' n' c', .int .i64 x1] 27 (0, 0))) := ⟨by rw [hW0]; have := blk_new (w.alloc (.cells #[.bool b0, .slice A n c, .int .i64 x0] 27)) (.cells #[.bool b1, .slice A' n' c', .int .i64 x1] 27); rw [size_alloc'] at this; exact blk_alloc this _⟩
  have hh2 : Aside0 (W0.heap[w.heap.size + 2]? = some (.cells #[.bool false, .slice none 0 0, .int .i64 0] 27 (0, 0))) := ⟨by rw [hW0]; have := blk_new ((w.alloc (.cells #[.bool b0, .slice A n c, .int .i64 x0] 27)).alloc (.cells #[.bool b1, .slice A' n' c', .int .i64 x1] 27)) (.cells #[.bool false, .slice none 0 0, .int .i64 0] 27); rw [size_alloc', size_alloc'] at this; exact this⟩
  have HW : Aside0 (Below w.heap.size w W0 ∧ w.heap.size + 3 ≤ W0.heap.size) := ⟨by rw [hW0]; exact ⟨below_alloc (below_alloc (below_alloc (Below.refl _ _) _) _) _, by rw [size_alloc', size_alloc', size_alloc']; exact Nat.le_refl _⟩⟩
  go_enter Tryd.func97, Tryd.ntmps97
  go_upto_region 1 with fail
  rw [← hW0]
  clear hW0
  obtain ⟨JM, hJM⟩ : ∃ J : (Nat → Prop) → World → Prop, J = fun L0 W => (Below w.heap.size w W ∧ w.heap.size + 3 ≤ W.heap.size) ∧ W.heap[w.heap.size]? = some (.cells #[.bool b0, .slice A n c, .int .i64 x0] 27 (0, 0)) ∧ W.heap[w.heap.size + 1]? = some (.cells #[.bool b1, .slice A' n' c', .int .i64 x1] 27 (0, 0)) ∧ (¬ L0 16 → W.heap[w.heap.size + 2]? = some (.cells #[.bool false, .slice none 0 0, .int .i64 0] 27 (0, 0))) ∧ (L0 16 → ∃ A2 n2 c2, W.heap[w.heap.size + 2]? = some (.cells #[.bool (cneg (y * z)), .slice A2 n2 c2, .int .i64 (cexp (y * z) (e + e'))] 27 (0, 0)) ∧ PL W (w.heap.size + 3) (.slice A2 n2 c2) (limbs (cman (y * z)))) := ⟨_, rfl⟩
  refine wp_region_slotsL [5, 6, 7, 8, 9, 10, 11, 12, 13, 14, 15, 16, 17, 18, 19, 20] (by kernel_rfl) (by kernel_rfl)
    (F := fun j q W => match j with | 0 => q = .pointer (some ⟨w.heap.size, 0, none⟩) | 1 => q = .bool b0 | 2 => q = .pointer (some ⟨w.heap.size + 1, 0, none⟩) | 3 => q = .bool b1 | 4 => q = .bool (!(b0 == b1)) | 5 => q = .pointer (some ⟨w.heap.size, 1, none⟩) | 6 => q = .slice A n c | 7 => q = .pointer (some ⟨w.heap.size + 1, 1, none⟩) | 8 => q = .slice A' n' c' | 9 => PL W (w.heap.size + 3) q (limbs (cman y * cman z)) | 10 => q = .pointer (some ⟨w.heap.size, 2, none⟩) | 11 => q = .int .i64 x0 | 12 => q = .pointer (some ⟨w.heap.size + 1, 2, none⟩) | 13 => q = .int .i64 x1 | 14 => q = .int .i64 (x0 + x1) | 15 => PDy W (w.heap.size + 3) q (y * z) (e + e') | 16 => True | _ => True)
    (J := JM) ?h0M ?hstepM ?hendM
  case h0M =>
    rw [hJM]
    have hd := below_drew (Below.refl W0.heap.size W0)
    exact ⟨⟨below_drew HW.out.1, HW.out.2⟩, blk_below hh0.out hd, blk_below hh1.out hd, fun _ => blk_below hh2.out hd, fun h => h.elim⟩
  case hstepM =>
    intro k o ho v W L0 hJW hF hnk haft hcl K hK
    rw [hJM] at hJW
    obtain ⟨hBW, hb0, hb1, hold, hnew⟩ := hJW
    have hJM : ∀ (k : Nat) (w4 : World), k ≠ 16 → Below W.heap.size W w4 → JM (fun j => L0 j ∨ j = k) w4 := by
      intro k w4 hkK hb
      rw [hJM]
      refine ⟨⟨below_then hBW.1 hBW.1.size hb, Nat.le_trans hBW.2 hb.size⟩, blk_below hb0 hb, blk_below hb1 hb, fun h => blk_below (hold (fun h2 => h (.inl h2))) hb, fun h => ?_⟩
      obtain ⟨A2, n2, c2, y1, y2⟩ := hnew (h.resolve_right (fun e => hkK e.symm))
      exact ⟨A2, n2, c2, blk_below y1 hb, y2.below hb⟩
    have HJM := Aside0.mk hJM
    have HOLD := Aside0.mk hold
    clear hold hnew
    clear hJM hcl
    rcases k with _ | _ | _ | _ | _ | _ | _ | _ | _ | _ | _ | _ | _ | _ | _ | _ | _ | k
    all_goals first
      | (cases ho; done)
      | (obtain rfl := (Option.some.inj ho).symm
         clear ho
         rw [if_pos (by rfl)]
         simp only [setAll, List.setIfInBounds_toArray, List.set_cons_zero, List.set_cons_succ, List.getElem_toArray, List.getElem_cons_zero, List.getElem_cons_succ, Nat.reduceAdd] at haft hF hK ⊢)
    case zero =>
      have key := hK.out (.pointer (some ⟨w.heap.size, 0, none⟩)) W (HJM.out 0 W (by decide) (Below.refl _ _)) (fun _ _ h => h) rfl
      go_simp
      simpa [upd] using key
    case succ.zero =>
      have f0 : v 0 = .pointer (some ⟨w.heap.size, 0, none⟩) := hF 0 (haft { on := 0, ground := .data } (by simp) rfl)
      have cc := (box_cell (v := .bool b0) hb0 0 rfl).1
      have key := hK.out (.bool b0) W (HJM.out 1 W (by decide) (Below.refl _ _)) (fun _ _ h => h) rfl
      go_simp
      simpa [upd, f0] using key
    case succ.succ.zero =>
      have key := hK.out (.pointer (some ⟨w.heap.size + 1, 0, none⟩)) W (HJM.out 2 W (by decide) (Below.refl _ _)) (fun _ _ h => h) rfl
      go_simp
      simpa [upd] using key
    case succ.succ.succ.zero =>
      have f2 : v 2 = .pointer (some ⟨w.heap.size + 1, 0, none⟩) := hF 2 (haft { on := 2, ground := .data } (by simp) rfl)
      have cc := (box_cell (v := .bool b1) hb1 0 rfl).1
      have key := hK.out (.bool b1) W (HJM.out 3 W (by decide) (Below.refl _ _)) (fun _ _ h => h) rfl
      go_simp
      simpa [upd, f2] using key
    case succ.succ.succ.succ.zero =>
      have f1 : v 1 = .bool b0 := hF 1 (haft { on := 1, ground := .data } (by simp) rfl)
      have f3 : v 3 = .bool b1 := hF 3 (haft { on := 3, ground := .data } (by simp) rfl)
      have key := hK.out (.bool (!(b0 == b1))) W (HJM.out 4 W (by decide) (Below.refl _ _)) (fun _ _ h => h) rfl
      go_simp
      simpa [upd, f1, f3] using key
    case succ.succ.succ.succ.succ.zero =>
      have key := hK.out (.pointer (some ⟨w.heap.size, 1, none⟩)) W (HJM.out 5 W (by decide) (Below.refl _ _)) (fun _ _ h => h) rfl
      go_simp
      simpa [upd] using key
    case succ.succ.succ.succ.succ.succ.zero =>
      have f5 : v 5 = .pointer (some ⟨w.heap.size, 1, none⟩) := hF 5 (haft { on := 5, ground := .data } (by simp) rfl)
      have cc := (box_cell (v := .slice A n c) hb0 1 rfl).1
      have key := hK.out (.slice A n c) W (HJM.out 6 W (by decide) (Below.refl _ _)) (fun _ _ h => h) rfl
      go_simp
      simpa [upd, f5] using key
    case succ.succ.succ.succ.succ.succ.succ.zero =>
      have key := hK.out (.pointer (some ⟨w.heap.size + 1, 1, none⟩)) W (HJM.out 7 W (by decide) (Below.refl _ _)) (fun _ _ h => h) rfl
      go_simp
      simpa [upd] using key
    case succ.succ.succ.succ.succ.succ.succ.succ.zero =>
      have f7 : v 7 = .pointer (some ⟨w.heap.size + 1, 1, none⟩) := hF 7 (haft { on := 7, ground := .data } (by simp) rfl)
      have cc := (box_cell (v := .slice A' n' c') hb1 1 rfl).1
      have key := hK.out (.slice A' n' c') W (HJM.out 8 W (by decide) (Below.refl _ _)) (fun _ _ h => h) rfl
      go_simp
      simpa [upd, f7] using key
    case succ.succ.succ.succ.succ.succ.succ.succ.succ.zero =>
      have f6 : v 6 = .slice A n c := hF 6 (haft { on := 6, ground := .data } (by simp) rfl)
      have f8 : v 8 = .slice A' n' c' := hF 8 (haft { on := 8, ground := .data } (by simp) rfl)
      go_simp
      go_at_call 105
      refine (QM.out W hBW.1).mono ?_
      rintro en w4 ⟨v1, rfl, hr, hb⟩
      have key := hK.out (v1) w4 (HJM.out 9 w4 (by decide) hb) ?monoM_9 (hr.lower hBW.2)
      · simpa [upd, f6, f8] using key
      intro j hj hf
      rcases j with _ | _ | _ | _ | _ | _ | _ | _ | _ | _ | _ | _ | _ | _ | _ | _ | _ | j <;> first | exact hf | exact PDy.below hf hb | exact PL.below hf hb | exact RDy.below hf hb
    case succ.succ.succ.succ.succ.succ.succ.succ.succ.succ.zero =>
      have key := hK.out (.pointer (some ⟨w.heap.size, 2, none⟩)) W (HJM.out 10 W (by decide) (Below.refl _ _)) (fun _ _ h => h) rfl
      go_simp
      simpa [upd] using key
    case succ.succ.succ.succ.succ.succ.succ.succ.succ.succ.succ.zero =>
      have f10 : v 10 = .pointer (some ⟨w.heap.size, 2, none⟩) := hF 10 (haft { on := 10, ground := .data } (by simp) rfl)
      have cc := (box_cell (v := .int .i64 x0) hb0 2 rfl).1
      have key := hK.out (.int .i64 x0) W (HJM.out 11 W (by decide) (Below.refl _ _)) (fun _ _ h => h) rfl
      go_simp
      simpa [upd, f10] using key
    case succ.succ.succ.succ.succ.succ.succ.succ.succ.succ.succ.succ.zero =>
      have key := hK.out (.pointer (some ⟨w.heap.size + 1, 2, none⟩)) W (HJM.out 12 W (by decide) (Below.refl _ _)) (fun _ _ h => h) rfl
      go_simp
      simpa [upd] using key
    case succ.succ.succ.succ.succ.succ.succ.succ.succ.succ.succ.succ.succ.zero =>
      have f12 : v 12 = .pointer (some ⟨w.heap.size + 1, 2, none⟩) := hF 12 (haft { on := 12, ground := .data } (by simp) rfl)
      have cc := (box_cell (v := .int .i64 x1) hb1 2 rfl).1
      have key := hK.out (.int .i64 x1) W (HJM.out 13 W (by decide) (Below.refl _ _)) (fun _ _ h => h) rfl
      go_simp
      simpa [upd, f12] using key
    case succ.succ.succ.succ.succ.succ.succ.succ.succ.succ.succ.succ.succ.succ.zero =>
      have f11 : v 11 = .int .i64 x0 := hF 11 (haft { on := 11, ground := .data } (by simp) rfl)
      have f13 : v 13 = .int .i64 x1 := hF 13 (haft { on := 13, ground := .data } (by simp) rfl)
      have hw := HX.out
      have key := hK.out (.int .i64 (x0 + x1)) W (HJM.out 14 W (by decide) (Below.refl _ _)) (fun _ _ h => h) rfl
      go_simp
      simpa [upd, f11, f13, hw] using key
    case succ.succ.succ.succ.succ.succ.succ.succ.succ.succ.succ.succ.succ.succ.succ.zero =>
      have f4 : v 4 = .bool (!(b0 == b1)) := hF 4 (haft { on := 4, ground := .data } (by simp) rfl)
      have f9 : PL W (w.heap.size + 3) (v 9) (limbs (cman y * cman z)) := hF 9 (haft { on := 9, ground := .data } (by simp) rfl)
      have f14 : v 14 = .int .i64 (x0 + x1) := hF 14 (haft { on := 14, ground := .data } (by simp) rfl)
      obtain ⟨A3, c3, f9v, hc3, hC3⟩ := f9.c
      have hm := QF.out A3 c3 W hBW.1 hC3 hc3
      go_simp
      go_at_call 43
      refine hm.mono ?_
      rintro en w4 ⟨v1, rfl, hr, hb⟩
      have key := hK.out (v1) w4 (HJM.out 15 w4 (by decide) hb) ?monoM_15 (hr.lower hBW.2)
      · simpa [upd, f4, f14, f9v] using key
      intro j hj hf
      rcases j with _ | _ | _ | _ | _ | _ | _ | _ | _ | _ | _ | _ | _ | _ | _ | _ | _ | j <;> first | exact hf | exact PDy.below hf hb | exact PL.below hf hb | exact RDy.below hf hb
    case succ.succ.succ.succ.succ.succ.succ.succ.succ.succ.succ.succ.succ.succ.succ.succ.zero =>
      have fz : PDy W (w.heap.size + 3) (v 15) (y * z) (e + e') := hF 15 (haft { on := 15, ground := .data } (by simp) rfl)
      obtain ⟨A3, n3, c3, fz2, _⟩ := id fz
      refine wp_store_box 27 4 (.tmp 20) rfl rfl (g := w.heap.size + 2) (e := 27) (v 15) [.bool (cneg (y * z)), .slice A3 n3 c3, .int .i64 (cexp (y * z) (e + e'))] rfl rfl (by rw [fz2]; rfl) info_dyad ?_ (HOLD.out hnk) rfl ?_
      · intro q hq; simp at hq; rcases hq with rfl | rfl | rfl <;> rfl
      · intro w1 hw1 hg1
        have hn2 := fz.grown hg1 (by omega)
        obtain ⟨A4, n4, c4, fz4, hr4⟩ := hn2
        rw [fz2] at fz4
        injection fz4 with fz4
        simp at fz4
        obtain ⟨rfl, rfl, rfl⟩ := fz4
        have key := hK.out undef w1 (by rw [hJM]; exact ⟨⟨hBW.1.grown hg1 hBW.1.size (fun k hk => by have := Option.some.inj hk; omega), Nat.le_trans hBW.2 hg1.size⟩, (hg1.block _ (blk_lt hb0) (fun he => by have := Option.some.inj he; omega)).trans hb0, (hg1.block _ (blk_lt hb1) (fun he => by have := Option.some.inj he; omega)).trans hb1, fun h => (h (by simp)).elim, fun _ => ⟨_, _, _, hw1, hr4⟩⟩) ?mstM trivial
        · simpa [upd] using key
        intro j hj hf
        rcases j with _ | _ | _ | _ | _ | _ | _ | _ | _ | _ | _ | _ | _ | _ | _ | _ | _ | j <;> first | exact hf | exact PDy.grown hf hg1 (by omega) | exact PL.grown hf hg1 (by omega)
  case hendM =>
    intro v W L0 hall hJW hF
    rw [hJM] at hJW
    obtain ⟨hBW, _, _, _, hnew⟩ := hJW
    obtain ⟨A2, n2, c2, p1, p2⟩ := hnew (hall 16 (by decide))
    clear hF hall hnew
    have P1 := Aside0.mk p1
    have P2 := Aside0.mk (p2.lower (b' := w.heap.size) (by omega))
    have BF := Aside0.mk hBW.1
    clear p1 p2 hBW
    simp only [setAll, List.setIfInBounds_toArray, List.set_cons_zero, List.set_cons_succ, Nat.reduceAdd]
    go_wp2
    refine bodyPost_ret (results_dyad rfl _ _ (w.heap.size + 1 + 1) _ rfl P1.out rfl) rfl ?_
    exact ⟨_, rfl, ⟨A2, n2, c2, rfl, P2.out⟩, BF.out⟩
end Go.Proofs.YtgpjplelgffocaaDoor

namespace Go.Proofs.YtgpjplelgffocaaDoor
open Go.RowKit Go.Proofs.YtgpjplelgffocaaDoorW.PrintWords Limb
set_option linter.unusedVariables false
set_option linter.unusedSimpArgs false

set_option maxHeartbeats 1000000 in
theorem pint_dy (n : Int) (w : World) (h1 : -9223372036854775808 ≤ n) (h2 : n < 9223372036854775808) (hT : TabAt 0 Lib.deBruijn64tab w) :
    Calls Tryd.prog 68 #[.int .i64 n] w fun en w' => ∃ v', en = .returned v' ∧ PDy w' w.heap.size v' n 0 ∧ Below w.heap.size w w' := by
  obtain ⟨m, hm⟩ : ∃ m, m = n.natAbs := ⟨_, rfl⟩
  have hm64 : m < 18446744073709551616 := by omega
  have QO := Aside0.mk (fun (W : World) => pof_any m hm64 W)
  have QF := Aside0.mk (fun (A : Option Addr) (c : Nat) (W : World) (hb : Below w.heap.size w W) (hC : kU.C W A (limbs m).length (limbs m)) (hc : (limbs m).length ≤ c) => (by
    have hl : (limbs m).length ≤ 1 := limbs_len_le (by omega)
    have q := pform_any (decide (n < 0)) (limbs m) A _ c 0 rfl W hC hc (wf_limbs _) (by omega) (by omega) (by omega) (tab_below hT hb)
    rw [nv_limbs, hm, show sgn (decide (n < 0)) n.natAbs = n from sgn_self n, ← hm] at q
    exact q : Calls Tryd.prog 43 #[.bool (decide (n < 0)), .slice A (limbs m).length c, .int .i64 0] W fun en w' => ∃ v', en = .returned v' ∧ PDy w' W.heap.size v' n 0 ∧ Below W.heap.size W w'))
  by_cases hn : n < 0
  · obtain ⟨a0, e1, e2⟩ : ∃ a0 : Nat, IntKind.u64.wrap n = (a0 : Int) ∧ IntKind.u64.wrap (-(a0 : Int)) = (m : Int) := ⟨(n % 18446744073709551616).toNat, by unfold IntKind.wrap; simp [IntKind.bits, IntKind.signed]; omega, by unfold IntKind.wrap; simp [IntKind.bits, IntKind.signed]; omega⟩
    have hd : decide (n < 0) = true := decide_eq_true hn
    rw [hd] at QF
    clear hm hn
    go_enter Tryd.func68, Tryd.ntmps68
    go_wp2_with (first
      | (go_at_call 93; refine (QO.out _).mono ?_; rintro e w1 ⟨v1, rfl, hr, hb⟩; obtain ⟨A, c, rfl, hc1, hC1⟩ := hr.c; have HC := Aside0.mk hC1; have HCC := Aside0.mk hc1; have HB := Aside0.mk (below_then (below_alloc (Below.refl _ _) _) (below_alloc (Below.refl w.heap.size w) _).size hb); have HH := Aside0.mk (blk_below (blk_new w _) hb); clear hr hb hc1 hC1)
      | (go_at_call 43; refine (QF.out A c _ HB.out HC.out HCC.out).mono ?_; rintro e w2 ⟨v2, rfl, ⟨A2, n2, c2, rfl, hr⟩, hb⟩; have HR := Aside0.mk hr; have HB2 := Aside0.mk (below_then HB.out HB.out.size hb); have HH2 := Aside0.mk (blk_below HH.out hb); have HSZ := Aside0.mk (blk_lt HH.out); clear hr hb)
      | ((with_reducible refine gate_store (p := 2) rfl ?_); go_must (refine store_box 27 2 (.tmp 14) rfl rfl rfl (g := w.heap.size) (e := 27) (.agg #[.bool (cneg n), .slice A2 n2 c2, .int .i64 (cexp n 0)]) ([.bool (cneg n), .slice A2 n2 c2, .int .i64 (cexp n 0)]) rfl rfl rfl info_dyad ?b1 HH2.out rfl ?_; (case b1 => intro q hq; simp at hq; rcases hq with rfl | rfl | rfl <;> rfl); intro wb hbx hgx; have HX := Aside0.mk hbx; have HG := Aside0.mk hgx; clear hbx hgx)))
    refine bodyPost_ret (results_dyad rfl _ _ w.heap.size _ rfl HX.out rfl) rfl ?_
    exact ⟨_, rfl, PDy.lower (PDy.grown (w := w2) ⟨A2, n2, c2, rfl, HR.out⟩ HG.out HSZ.out) HB.out.size, HB2.out.grown HG.out HB2.out.size (fun k hk => by cases hk; exact Nat.le_refl _)⟩
  · have e1 : IntKind.u64.wrap n = (m : Int) := by unfold IntKind.wrap; simp [IntKind.bits, IntKind.signed]; omega
    have hd : decide (n < 0) = false := decide_eq_false hn
    have hn2 : 0 ≤ n := by omega
    rw [hd] at QF
    clear hm hn
    go_enter Tryd.func68, Tryd.ntmps68
    go_wp2_with (first
      | (go_at_call 93; refine (QO.out _).mono ?_; rintro e w1 ⟨v1, rfl, hr, hb⟩; obtain ⟨A, c, rfl, hc1, hC1⟩ := hr.c; have HC := Aside0.mk hC1; have HCC := Aside0.mk hc1; have HB := Aside0.mk (below_then (below_alloc (Below.refl _ _) _) (below_alloc (Below.refl w.heap.size w) _).size hb); have HH := Aside0.mk (blk_below (blk_new w _) hb); clear hr hb hc1 hC1)
      | (go_at_call 43; refine (QF.out A c _ HB.out HC.out HCC.out).mono ?_; rintro e w2 ⟨v2, rfl, ⟨A2, n2, c2, rfl, hr⟩, hb⟩; have HR := Aside0.mk hr; have HB2 := Aside0.mk (below_then HB.out HB.out.size hb); have HH2 := Aside0.mk (blk_below HH.out hb); have HSZ := Aside0.mk (blk_lt HH.out); clear hr hb)
      | ((with_reducible refine gate_store (p := 2) rfl ?_); go_must (refine store_box 27 2 (.tmp 14) rfl rfl rfl (g := w.heap.size) (e := 27) (.agg #[.bool (cneg n), .slice A2 n2 c2, .int .i64 (cexp n 0)]) ([.bool (cneg n), .slice A2 n2 c2, .int .i64 (cexp n 0)]) rfl rfl rfl info_dyad ?b1 HH2.out rfl ?_; (case b1 => intro q hq; simp at hq; rcases hq with rfl | rfl | rfl <;> rfl); intro wb hbx hgx; have HX := Aside0.mk hbx; have HG := Aside0.mk hgx; clear hbx hgx)))
    refine bodyPost_ret (results_dyad rfl _ _ w.heap.size _ rfl HX.out rfl) rfl ?_
    exact ⟨_, rfl, PDy.lower (PDy.grown (w := w2) ⟨A2, n2, c2, rfl, HR.out⟩ HG.out HSZ.out) HB.out.size, HB2.out.grown HG.out HB2.out.size (fun k hk => by cases hk; exact Nat.le_refl _)⟩

set_option maxRecDepth 100000 in
set_option maxHeartbeats 4000000 in
/-- Two numbers over the lesser exponent. -/
theorem pamounts_dy (u v : Value) (y z e : Int) (E : Int) (k0 k1 : Nat) (w : World) (h : CDy w u y e) (h' : CDy w v z e) (hE : E = min (cexp y e) (cexp z e)) (hk0 : cexp y e - E = k0) (hk1 : cexp z e - E = k1) (hl : (limbs (cman y)).length ≤ 268435456) (hl' : (limbs (cman z)).length ≤ 268435456) (le1 : -8589934592 ≤ cexp y e) (le2 : cexp y e ≤ 8589934592) (le1' : -8589934592 ≤ cexp z e) (le2' : cexp z e ≤ 8589934592) :
    Calls Tryd.prog 71 #[u, v] w fun en w' => ∃ p q, en = .returned (.tuple #[p, q, .int .i64 E]) ∧ PL w' w.heap.size p (limbs (cman y * 2 ^ k0)) ∧ PL w' w.heap.size q (limbs (cman z * 2 ^ k1)) ∧ Below w.heap.size w w' := by
  obtain ⟨A, n, c, rfl, hC, hn, hc⟩ := h
  obtain ⟨A', n', c', rfl, hC', hn', hc'⟩ := h'
  obtain ⟨x0, hx0⟩ : ∃ x, x = cexp y e := ⟨_, rfl⟩
  obtain ⟨x1, hx1⟩ : ∃ x, x = cexp z e := ⟨_, rfl⟩
  obtain ⟨b0, hb0⟩ : ∃ x, x = cneg y := ⟨_, rfl⟩
  obtain ⟨b1, hb1⟩ : ∃ x, x = cneg z := ⟨_, rfl⟩
  have QA := Aside0.mk (fun (m : World) (hm : Below w.heap.size w m) => (by have q := pshl_any (limbs (cman y)) A n c k0 hn m (Kd.C_below hC hm) hc (wf_limbs _) (by omega) (by omega); rw [nv_limbs] at q; exact q : Calls Tryd.prog 95 #[.slice A n c, .int .i64 (k0 : Int)] m fun e w' => ∃ v, e = .returned v ∧ PL w' m.heap.size v (limbs (cman y * 2 ^ k0)) ∧ Below m.heap.size m w'))
  have QB := Aside0.mk (fun (m : World) (hm : Below w.heap.size w m) => (by have q := pshl_any (limbs (cman z)) A' n' c' k1 hn' m (Kd.C_below hC' hm) hc' (wf_limbs _) (by omega) (by omega); rw [nv_limbs] at q; exact q : Calls Tryd.prog 95 #[.slice A' n' c', .int .i64 (k1 : Int)] m fun e w' => ∃ v, e = .returned v ∧ PL w' m.heap.size v (limbs (cman z * 2 ^ k1)) ∧ Below m.heap.size m w'))
  have HX0 := Aside0.mk (show IntKind.i64.wrap (x0 - E) = (k0 : Int) by rw [hx0, hk0]; exact wrap_i64 (by omega) (by omega))
  have HX1 := Aside0.mk (show IntKind.i64.wrap (x1 - E) = (k1 : Int) by rw [hx1, hk1]; exact wrap_i64 (by omega) (by omega))
  have hmin : (if x0 ≤ x1 then x0 else x1) = E := by rw [hE, hx0, hx1]; split <;> omega
  rw [← hx0, ← hb0, ← hx1, ← hb1]
  clear hC hC' hb0 hb1
  have hEx : E = min x0 x1 := by rw [hx0, hx1]; exact hE
  clear hx0 hx1 hE hk0 hk1 le1 le2 le1' le2'
  obtain ⟨W0, hW0⟩ : ∃ W0, W0 = ((w.alloc (.cells #[.bool b0, .slice A n c, .int .i64 x0] 27)).alloc (.cells #[.bool b1, .slice A' n' c', .int .i64 x1] 27)) := ⟨_, rfl⟩
  have hh0 : Aside0 (W0.heap[w.heap.size]? = some (.cells #[.bool b0, .slice A n c, .int .i64 x0] 27 (0, 0))) := ⟨by rw [hW0]; exact blk_alloc (blk_new _ _) _⟩
  have hh1 : Aside0 (W0.heap[w.heap.size + 1]? = some (.cells #[.bool b1, .slice A' n' c', .int .i64 x1] 27 (0, 0))) := ⟨by rw [hW0]; have := blk_new (w.alloc (.cells #[.bool b0, .slice A n c, .int .i64 x0] 27)) (.cells #[.bool b1, .slice A' n' c', .int .i64 x1] 27); rw [size_alloc'] at this; exact this⟩
  have HW : Aside0 (Below w.heap.size w W0 ∧ w.heap.size + 2 ≤ W0.heap.size) := ⟨by rw [hW0]; exact ⟨below_alloc (below_alloc (Below.refl _ _) _) _, by rw [size_alloc', size_alloc']; exact Nat.le_refl _⟩⟩
  go_enter Tryd.func71, Tryd.ntmps71
  go_upto_region 1 with fail
  rw [← hW0]
  clear hW0
  obtain ⟨q0, _⟩ := box_cell (v := .int .i64 x0) hh0.out 2 rfl
  obtain ⟨q1, _⟩ := box_cell (v := .int .i64 x1) hh1.out 2 rfl
  go_upto_region 2 with fail
  rw [← hEx]
  clear hEx q0 q1
  obtain ⟨JA, hJA⟩ : ∃ J : (Nat → Prop) → World → Prop, J = fun L0 W => (Below w.heap.size w W ∧ w.heap.size + 2 ≤ W.heap.size) ∧ W.heap[w.heap.size]? = some (.cells #[.bool b0, .slice A n c, .int .i64 x0] 27 (0, 0)) ∧ W.heap[w.heap.size + 1]? = some (.cells #[.bool b1, .slice A' n' c', .int .i64 x1] 27 (0, 0)) := ⟨_, rfl⟩
  refine wp_region_slotsL [13, 14, 15, 16, 17, 18, 19, 20, 21, 22, 23, 24, 25, 26, 27, 4, 5, 6] (by kernel_rfl) (by kernel_rfl)
    (F := fun j q W => match j with | 0 => q = .pointer (some ⟨w.heap.size, 1, none⟩) | 1 => q = .slice A n c | 2 => q = .pointer (some ⟨w.heap.size, 2, none⟩) | 3 => q = .int .i64 x0 | 4 => q = .int .i64 E | 5 => q = .int .i64 (k0 : Int) | 6 => PL W (w.heap.size + 2) q (limbs (cman y * 2 ^ k0)) | 7 => q = .pointer (some ⟨w.heap.size + 1, 1, none⟩) | 8 => q = .slice A' n' c' | 9 => q = .pointer (some ⟨w.heap.size + 1, 2, none⟩) | 10 => q = .int .i64 x1 | 11 => q = .int .i64 E | 12 => q = .int .i64 (k1 : Int) | 13 => PL W (w.heap.size + 2) q (limbs (cman z * 2 ^ k1)) | 14 => q = .int .i64 E | 15 => PL W (w.heap.size + 2) q (limbs (cman y * 2 ^ k0)) | 16 => PL W (w.heap.size + 2) q (limbs (cman z * 2 ^ k1)) | 17 => q = .int .i64 E | _ => True)
    (J := JA) ?h0A ?hstepA ?hendA
  case h0A =>
    rw [hJA]
    have hd := below_drew (Below.refl W0.heap.size W0)
    exact ⟨⟨below_drew HW.out.1, HW.out.2⟩, blk_below hh0.out hd, blk_below hh1.out hd⟩
  case hstepA =>
    intro k o ho v W L0 hJW hF hnk haft hcl K hK
    rw [hJA] at hJW
    obtain ⟨hBW, hb0, hb1⟩ := hJW
    have hJM : ∀ (k : Nat) (w4 : World), Below W.heap.size W w4 → JA (fun j => L0 j ∨ j = k) w4 := by
      intro k w4 hb
      rw [hJA]
      refine ⟨⟨below_then hBW.1 hBW.1.size hb, Nat.le_trans hBW.2 hb.size⟩, blk_below hb0 hb, blk_below hb1 hb⟩
    have HJM := Aside0.mk hJM
    clear hJM hcl
    rcases k with _ | _ | _ | _ | _ | _ | _ | _ | _ | _ | _ | _ | _ | _ | _ | _ | _ | _ | k
    all_goals first
      | (cases ho; done)
      | (obtain rfl := (Option.some.inj ho).symm
         clear ho
         rw [if_pos (by rfl)]
         simp only [setAll, List.setIfInBounds_toArray, List.set_cons_zero, List.set_cons_succ, List.getElem_toArray, List.getElem_cons_zero, List.getElem_cons_succ, Nat.reduceAdd] at haft hF hK ⊢)
    case zero =>
      have key := hK.out (.pointer (some ⟨w.heap.size, 1, none⟩)) W (HJM.out 0 W (Below.refl _ _)) (fun _ _ h => h) rfl
      go_simp
      simpa [upd] using key
    case succ.zero =>
      have f0 : v 0 = .pointer (some ⟨w.heap.size, 1, none⟩) := hF 0 (haft { on := 0, ground := .data } (by simp) rfl)
      have cc := (box_cell (v := .slice A n c) hb0 1 rfl).1
      have key := hK.out (.slice A n c) W (HJM.out 1 W (Below.refl _ _)) (fun _ _ h => h) rfl
      go_simp
      simpa [upd, f0] using key
    case succ.succ.zero =>
      have key := hK.out (.pointer (some ⟨w.heap.size, 2, none⟩)) W (HJM.out 2 W (Below.refl _ _)) (fun _ _ h => h) rfl
      go_simp
      simpa [upd] using key
    case succ.succ.succ.zero =>
      have f2 : v 2 = .pointer (some ⟨w.heap.size, 2, none⟩) := hF 2 (haft { on := 2, ground := .data } (by simp) rfl)
      have cc := (box_cell (v := .int .i64 x0) hb0 2 rfl).1
      have key := hK.out (.int .i64 x0) W (HJM.out 3 W (Below.refl _ _)) (fun _ _ h => h) rfl
      go_simp
      simpa [upd, f2] using key
    case succ.succ.succ.succ.zero =>
      have key := hK.out (.int .i64 E) W (HJM.out 4 W (Below.refl _ _)) (fun _ _ h => h) rfl
      go_simp
      simpa [upd] using key
    case succ.succ.succ.succ.succ.zero =>
      have f3 : v 3 = .int .i64 x0 := hF 3 (haft { on := 3, ground := .data } (by simp) rfl)
      have f4 : v 4 = .int .i64 E := hF 4 (haft { on := 4, ground := .data } (by simp) rfl)
      have hw := HX0.out
      have key := hK.out (.int .i64 (k0 : Int)) W (HJM.out 5 W (Below.refl _ _)) (fun _ _ h => h) rfl
      go_simp
      simpa [upd, f3, f4, hw] using key
    case succ.succ.succ.succ.succ.succ.zero =>
      have f1 : v 1 = .slice A n c := hF 1 (haft { on := 1, ground := .data } (by simp) rfl)
      have f5 : v 5 = .int .i64 (k0 : Int) := hF 5 (haft { on := 5, ground := .data } (by simp) rfl)
      go_simp
      go_at_call 95
      refine (QA.out W hBW.1).mono ?_
      rintro en w4 ⟨v1, rfl, hr, hb⟩
      have key := hK.out (v1) w4 (HJM.out 6 w4 hb) ?monoA_6 (hr.lower hBW.2)
      · simpa [upd, f1, f5] using key
      intro j hj hf
      rcases j with _ | _ | _ | _ | _ | _ | _ | _ | _ | _ | _ | _ | _ | _ | _ | _ | _ | _ | j <;> first | exact hf | exact PDy.below hf hb | exact PL.below hf hb | exact RDy.below hf hb
    case succ.succ.succ.succ.succ.succ.succ.zero =>
      have key := hK.out (.pointer (some ⟨w.heap.size + 1, 1, none⟩)) W (HJM.out 7 W (Below.refl _ _)) (fun _ _ h => h) rfl
      go_simp
      simpa [upd] using key
    case succ.succ.succ.succ.succ.succ.succ.succ.zero =>
      have f7 : v 7 = .pointer (some ⟨w.heap.size + 1, 1, none⟩) := hF 7 (haft { on := 7, ground := .data } (by simp) rfl)
      have cc := (box_cell (v := .slice A' n' c') hb1 1 rfl).1
      have key := hK.out (.slice A' n' c') W (HJM.out 8 W (Below.refl _ _)) (fun _ _ h => h) rfl
      go_simp
      simpa [upd, f7] using key
    case succ.succ.succ.succ.succ.succ.succ.succ.succ.zero =>
      have key := hK.out (.pointer (some ⟨w.heap.size + 1, 2, none⟩)) W (HJM.out 9 W (Below.refl _ _)) (fun _ _ h => h) rfl
      go_simp
      simpa [upd] using key
    case succ.succ.succ.succ.succ.succ.succ.succ.succ.succ.zero =>
      have f9 : v 9 = .pointer (some ⟨w.heap.size + 1, 2, none⟩) := hF 9 (haft { on := 9, ground := .data } (by simp) rfl)
      have cc := (box_cell (v := .int .i64 x1) hb1 2 rfl).1
      have key := hK.out (.int .i64 x1) W (HJM.out 10 W (Below.refl _ _)) (fun _ _ h => h) rfl
      go_simp
      simpa [upd, f9] using key
    case succ.succ.succ.succ.succ.succ.succ.succ.succ.succ.succ.zero =>
      have key := hK.out (.int .i64 E) W (HJM.out 11 W (Below.refl _ _)) (fun _ _ h => h) rfl
      go_simp
      simpa [upd] using key
    case succ.succ.succ.succ.succ.succ.succ.succ.succ.succ.succ.succ.zero =>
      have f10 : v 10 = .int .i64 x1 := hF 10 (haft { on := 10, ground := .data } (by simp) rfl)
      have f11 : v 11 = .int .i64 E := hF 11 (haft { on := 11, ground := .data } (by simp) rfl)
      have hw := HX1.out
      have key := hK.out (.int .i64 (k1 : Int)) W (HJM.out 12 W (Below.refl _ _)) (fun _ _ h => h) rfl
      go_simp
      simpa [upd, f10, f11, hw] using key
    case succ.succ.succ.succ.succ.succ.succ.succ.succ.succ.succ.succ.succ.zero =>
      have f8 : v 8 = .slice A' n' c' := hF 8 (haft { on := 8, ground := .data } (by simp) rfl)
      have f12 : v 12 = .int .i64 (k1 : Int) := hF 12 (haft { on := 12, ground := .data } (by simp) rfl)
      go_simp
      go_at_call 95
      refine (QB.out W hBW.1).mono ?_
      rintro en w4 ⟨v1, rfl, hr, hb⟩
      have key := hK.out (v1) w4 (HJM.out 13 w4 hb) ?monoA_13 (hr.lower hBW.2)
      · simpa [upd, f8, f12] using key
      intro j hj hf
      rcases j with _ | _ | _ | _ | _ | _ | _ | _ | _ | _ | _ | _ | _ | _ | _ | _ | _ | _ | j <;> first | exact hf | exact PDy.below hf hb | exact PL.below hf hb | exact RDy.below hf hb
    case succ.succ.succ.succ.succ.succ.succ.succ.succ.succ.succ.succ.succ.succ.zero =>
      have key := hK.out (.int .i64 E) W (HJM.out 14 W (Below.refl _ _)) (fun _ _ h => h) rfl
      go_simp
      simpa [upd] using key
    case succ.succ.succ.succ.succ.succ.succ.succ.succ.succ.succ.succ.succ.succ.succ.zero =>
      have f6 : PL W (w.heap.size + 2) (v 6) (limbs (cman y * 2 ^ k0)) := hF 6 (haft { on := 6, ground := .data } (by simp) rfl)
      have key := hK.out (v 6) W (HJM.out 15 W (Below.refl _ _)) (fun _ _ h => h) f6
      go_simp
      simpa [upd] using key
    case succ.succ.succ.succ.succ.succ.succ.succ.succ.succ.succ.succ.succ.succ.succ.succ.zero =>
      have f13 : PL W (w.heap.size + 2) (v 13) (limbs (cman z * 2 ^ k1)) := hF 13 (haft { on := 13, ground := .data } (by simp) rfl)
      have key := hK.out (v 13) W (HJM.out 16 W (Below.refl _ _)) (fun _ _ h => h) f13
      go_simp
      simpa [upd] using key
    case succ.succ.succ.succ.succ.succ.succ.succ.succ.succ.succ.succ.succ.succ.succ.succ.succ.zero =>
      have f14 : v 14 = .int .i64 E := hF 14 (haft { on := 14, ground := .data } (by simp) rfl)
      have key := hK.out (.int .i64 E) W (HJM.out 17 W (Below.refl _ _)) (fun _ _ h => h) rfl
      go_simp
      simpa [upd, f14] using key
  case hendA =>
    intro v W L0 hall hJW hF
    rw [hJA] at hJW
    obtain ⟨hBW, _, _⟩ := hJW
    have f15 : PL W (w.heap.size + 2) (v 15) (limbs (cman y * 2 ^ k0)) := hF 15 (by decide)
    have f16 : PL W (w.heap.size + 2) (v 16) (limbs (cman z * 2 ^ k1)) := hF 16 (by decide)
    have f17 : v 17 = .int .i64 E := hF 17 (by decide)
    have P1 := Aside0.mk (f15.lower (b' := w.heap.size) (by omega))
    have P2 := Aside0.mk (f16.lower (b' := w.heap.size) (by omega))
    have BF := Aside0.mk hBW.1
    clear hF hall f15 f16 hBW
    simp only [setAll, List.setIfInBounds_toArray, List.set_cons_zero, List.set_cons_succ, Nat.reduceAdd, f17]
    go_wp2
    go_ret3
    exact ⟨_, _, rfl, P1.out, P2.out, BF.out⟩
end Go.Proofs.YtgpjplelgffocaaDoor

namespace Go.Proofs.YtgpjplelgffocaaDoor
open Go.RowKit Go.Proofs.YtgpjplelgffocaaDoorW.PrintWords Limb
set_option linter.unusedVariables false
set_option linter.unusedSimpArgs false

def cmpZ (y z : Int) : Int := if y < z then -1 else if z < y then 1 else 0
def Two (w : World) (b : Nat) (v : Value) (l m : List Nat) (E : Int) : Prop := ∃ p q, v = .tuple #[p, q, .int .i64 E] ∧ PL w b p l ∧ PL w b q m
theorem pow_le2 (a b : Nat) (h : a ≤ b) : 2 ^ a ≤ 2 ^ b := Nat.pow_le_pow_right (by decide) h
theorem Two.below {w w1 : World} {b : Nat} {v : Value} {l m : List Nat} {E : Int} (h : Two w b v l m E) (hb : Below w.heap.size w w1) : Two w1 b v l m E := by
  obtain ⟨p, q, e, h1, h2⟩ := h
  exact ⟨p, q, e, h1.below hb, h2.below hb⟩
theorem abs_form {z e : Int} (h : z ≠ 0) : ∃ k : Nat, cexp z e = e + k ∧ z.natAbs = cman z * 2 ^ k := by
  obtain ⟨k, e1, e2, _⟩ := of_form (e := e) h
  refine ⟨k, e1, ?_⟩
  have := congrArg Int.natAbs e2
  rw [sgn_abs] at this
  exact this
theorem top_lt {y z e : Int} (hy : y ≠ 0) (hz : z ≠ 0) (h : cexp y e + bl (cman y) - 1 < cexp z e + bl (cman z) - 1) : y.natAbs < z.natAbs := by
  obtain ⟨j, e1, e2⟩ := abs_form (e := e) hy
  obtain ⟨k, e3, e4⟩ := abs_form (e := e) hz
  have h1 : bl y.natAbs = bl (cman y) + j := by rw [e2]; exact bl_mul_pow (fun h => hy (cman_eq_zero.1 h)) j
  have h2 : bl z.natAbs = bl (cman z) + k := by rw [e4]; exact bl_mul_pow (fun h => hz (cman_eq_zero.1 h)) k
  refine Classical.byContradiction fun hc => ?_
  have h3 := bl_lt y.natAbs
  have h4 : z.natAbs < 2 ^ bl y.natAbs := by omega
  have h5 := bl_le_iff.2 h4
  omega
theorem cmp_amounts {y z e E : Int} {k0 k1 : Nat} (hy : y ≠ 0) (hz : z ≠ 0) (hE : E = min (cexp y e) (cexp z e)) (h0 : cexp y e - E = k0) (h1 : cexp z e - E = k1) : cmpN (cman y * 2 ^ k0) (cman z * 2 ^ k1) = cmpN y.natAbs z.natAbs := by
  obtain ⟨j, e1, e2⟩ := abs_form (e := e) hy
  obtain ⟨k, e3, e4⟩ := abs_form (e := e) hz
  obtain ⟨d, hd⟩ : ∃ d : Nat, E = e + d := ⟨min j k, by omega⟩
  have a1 : j = k0 + d := by omega
  have a2 : k = k1 + d := by omega
  rw [e2, e4, a1, a2, Nat.pow_add, Nat.pow_add, ← Nat.mul_assoc, ← Nat.mul_assoc]
  have hp := Nat.two_pow_pos d
  unfold cmpN
  simp only [Nat.mul_lt_mul_right hp]
theorem cmpZ_sign {y z s : Int} (hy : sgnI y = s) (hz : sgnI z = s) (h0 : s ≠ 0) : cmpZ y z = s * cmpN y.natAbs z.natAbs := by
  unfold sgnI at hy hz
  unfold cmpZ cmpN
  split at hy
  · omega
  · split at hz
    · omega
    · split at hy <;> split at hz <;> subst hy <;> first | (exfalso; revert hz; decide) | skip
      all_goals
        repeat' split
        all_goals omega
theorem cmpZ_lt {y z : Int} (h : sgnI y < sgnI z) : cmpZ y z = -1 := by
  unfold sgnI at h
  unfold cmpZ
  rw [if_pos]
  revert h
  repeat' split
  all_goals omega
theorem cmpZ_gt {y z : Int} (h : sgnI z < sgnI y) : cmpZ y z = 1 := by
  unfold sgnI at h
  unfold cmpZ
  rw [if_neg, if_pos]
  all_goals
    revert h
    repeat' split
    all_goals omega

set_option maxRecDepth 100000 in
set_option maxHeartbeats 8000000 in
theorem pcmp_dy (u v : Value) (y z e : Int) (w : World) (h : CDy w u y e) (h' : CDy w v z e) (hl : (limbs (cman y)).length ≤ 268435456) (hl' : (limbs (cman z)).length ≤ 268435456) (le1 : -8589934592 ≤ cexp y e) (le2 : cexp y e ≤ 8589934592) (le1' : -8589934592 ≤ cexp z e) (le2' : cexp z e ≤ 8589934592) (hT : TabAt 0 Lib.deBruijn64tab w) :
    Calls Tryd.prog 48 #[u, v] w fun en w' => en = .returned (.int .i64 (cmpZ y z)) ∧ Below w.heap.size w w' := by
  have QS0 := Aside0.mk (fun (m : World) (hm : Below w.heap.size w m) => psign_dy u y e m (h.below hm) (by omega))
  have QS1 := Aside0.mk (fun (m : World) (hm : Below w.heap.size w m) => psign_dy v z e m (h'.below hm) (by omega))
  have QT0 := Aside0.mk (fun (m : World) (hm : Below w.heap.size w m) => ptop_dy u y e m (h.below hm) (by omega) (by omega) (by omega))
  have QT1 := Aside0.mk (fun (m : World) (hm : Below w.heap.size w m) => ptop_dy v z e m (h'.below hm) (by omega) (by omega) (by omega))
  have QO0 := Aside0.mk (fun (m : World) (hm : Below w.heap.size w m) => pone_dy u y e m (h.below hm) (by omega) (by omega) (by omega) (tab_below hT hm))
  have QO1 := Aside0.mk (fun (m : World) (hm : Below w.heap.size w m) => pone_dy v z e m (h'.below hm) (by omega) (by omega) (by omega) (tab_below hT hm))
  obtain ⟨E, hE⟩ : ∃ E, E = min (cexp y e) (cexp z e) := ⟨_, rfl⟩
  obtain ⟨k0, hk0⟩ : ∃ k : Nat, cexp y e - E = k := ⟨(cexp y e - E).toNat, by omega⟩
  obtain ⟨k1, hk1⟩ : ∃ k : Nat, cexp z e - E = k := ⟨(cexp z e - E).toNat, by omega⟩
  have QAM := Aside0.mk (fun (u v : Value) (m : World) (h : CDy m u y e) (h' : CDy m v z e) => pamounts_dy u v y z e E k0 k1 m h h' hE hk0 hk1 (by omega) (by omega) (by omega) (by omega) (by omega) (by omega))
  obtain ⟨na, hna⟩ : ∃ x, x = cman y * 2 ^ k0 := ⟨_, rfl⟩
  obtain ⟨nb, hnb⟩ : ∃ x, x = cman z * 2 ^ k1 := ⟨_, rfl⟩
  have HCA := Aside0.mk (fun (hy : y ≠ 0) (hz : z ≠ 0) => (by have q := cmp_amounts hy hz hE hk0 hk1; rw [← hna, ← hnb] at q; exact q : cmpN na nb = cmpN y.natAbs z.natAbs))
  have la1 : (limbs na).length ≤ 4294967296 := by
    rw [hna]
    refine limbs_len_le ?_
    have q1 := nv_lt (wf_limbs (cman y))
    rw [nv_limbs] at q1
    refine Nat.lt_of_lt_of_le (Nat.mul_lt_mul_of_pos_right q1 (Nat.two_pow_pos k0)) ?_
    rw [← Nat.pow_add]
    have q2 : 64 * (limbs (cman y)).length + k0 ≤ 64 * 4294967296 := by omega
    generalize 64 * 4294967296 = E2 at q2 ⊢
    exact pow_le2 _ _ q2
  have lb1 : (limbs nb).length ≤ 4294967296 := by
    rw [hnb]
    refine limbs_len_le ?_
    have q1 := nv_lt (wf_limbs (cman z))
    rw [nv_limbs] at q1
    refine Nat.lt_of_lt_of_le (Nat.mul_lt_mul_of_pos_right q1 (Nat.two_pow_pos k1)) ?_
    rw [← Nat.pow_add]
    have q2 : 64 * (limbs (cman z)).length + k1 ≤ 64 * 4294967296 := by omega
    generalize 64 * 4294967296 = E2 at q2 ⊢
    exact pow_le2 _ _ q2
  obtain ⟨la, hla⟩ : ∃ x, x = limbs na := ⟨_, rfl⟩
  obtain ⟨lb, hlb⟩ : ∃ x, x = limbs nb := ⟨_, rfl⟩
  rw [← hna, ← hnb, ← hla, ← hlb] at QAM
  have QC := Aside0.mk (fun (A B : Option Addr) (c d : Nat) (m : World) (ha : kU.C m A la.length la) (hb : kU.C m B lb.length lb) (hc : la.length ≤ c) (hd : lb.length ≤ d) => (by
    have q := pcmp_any la lb A B la.length lb.length c d rfl rfl m ha hb hc hd (by rw [hla]; exact wf_limbs _) (by rw [hlb]; exact wf_limbs _) (by rw [hla]; exact la1) (by rw [hlb]; exact lb1)
    rw [show nv la = na by rw [hla, nv_limbs], show nv lb = nb by rw [hlb, nv_limbs]] at q
    exact q : Calls Tryd.prog 73 #[.slice A la.length c, .slice B lb.length d] m fun e w' => e = .returned (.int .i64 (cmpN na nb)) ∧ ∃ n, w' = m.drewN n))
  obtain ⟨s0, hs0⟩ : ∃ s, sgnI y = s := ⟨_, rfl⟩
  obtain ⟨s1, hs1⟩ : ∃ s, sgnI z = s := ⟨_, rfl⟩
  obtain ⟨t0, ht0⟩ : ∃ t, cexp y e + bl (cman y) - 1 = t := ⟨_, rfl⟩
  obtain ⟨t1, ht1⟩ : ∃ t, cexp z e + bl (cman z) - 1 = t := ⟨_, rfl⟩
  have HSV := Aside0.mk (And.intro hs0 (And.intro hs1 (And.intro ht0 ht1)))
  have hsr0 : s0 = -1 ∨ s0 = 0 ∨ s0 = 1 := by rw [← hs0]; unfold sgnI; split; exact .inr (.inl rfl); split; exact .inl rfl; exact .inr (.inr rfl)
  rw [hs0] at QS0
  rw [hs1] at QS1
  rw [ht0] at QT0
  rw [ht1] at QT1
  obtain ⟨A, n, c, rfl, hC, hn, hc⟩ := h
  obtain ⟨A', n', c', rfl, hC', hn', hc'⟩ := h'
  obtain ⟨x0, hx0⟩ : ∃ x, x = cexp y e := ⟨_, rfl⟩
  obtain ⟨x1, hx1⟩ : ∃ x, x = cexp z e := ⟨_, rfl⟩
  obtain ⟨b0, hb0⟩ : ∃ x, x = cneg y := ⟨_, rfl⟩
  obtain ⟨b1, hb1⟩ : ∃ x, x = cneg z := ⟨_, rfl⟩
  rw [← hx0, ← hb0] at QS0 QT0 QO0
  rw [← hx1, ← hb1] at QS1 QT1 QO1
  rw [← hx0, ← hb0, ← hx1, ← hb1]
  clear hC hC' hx0 hx1 hb0 hb1 hT hE hk0 hk1 hna hnb hla hlb la1 lb1 hs0 hs1 ht0 ht1 le1 le2 le1' le2' hl hl'
  obtain ⟨W0, hW0⟩ : ∃ W0, W0 = ((w.alloc (.cells #[.bool b0, .slice A n c, .int .i64 x0] 27)).alloc (.cells #[.bool b1, .slice A' n' c', .int .i64 x1] 27)) := ⟨_, rfl⟩
  have hh0 : Aside0 (W0.heap[w.heap.size]? = some (.cells #[.bool b0, .slice A n c, .int .i64 x0] 27 (0, 0))) := ⟨by rw [hW0]; exact blk_alloc (blk_new _ _) _⟩
  have hh1 : Aside0 (W0.heap[w.heap.size + 1]? = some (.cells #[.bool b1, .slice A' n' c', .int .i64 x1] 27 (0, 0))) := ⟨by rw [hW0]; have := blk_new (w.alloc (.cells #[.bool b0, .slice A n c, .int .i64 x0] 27)) (.cells #[.bool b1, .slice A' n' c', .int .i64 x1] 27); rw [size_alloc'] at this; exact this⟩
  have HW : Aside0 (Below w.heap.size w W0 ∧ w.heap.size + 2 ≤ W0.heap.size) := ⟨by rw [hW0]; exact ⟨below_alloc (below_alloc (Below.refl _ _) _) _, by rw [size_alloc', size_alloc']; exact Nat.le_refl _⟩⟩
  go_enter Tryd.func48, Tryd.ntmps48
  go_upto_region 1 with fail
  rw [← hW0]
  clear hW0
  obtain ⟨JP, hJP⟩ : ∃ J : (Nat → Prop) → World → Prop, J = fun L0 W => (Below w.heap.size w W ∧ w.heap.size + 2 ≤ W.heap.size) ∧ W.heap[w.heap.size]? = some (.cells #[.bool b0, .slice A n c, .int .i64 x0] 27 (0, 0)) ∧ W.heap[w.heap.size + 1]? = some (.cells #[.bool b1, .slice A' n' c', .int .i64 x1] 27 (0, 0)) := ⟨_, rfl⟩
  refine wp_region_slotsL [12, 13, 14, 15, 5, 6] (by kernel_rfl) (by kernel_rfl)
    (F := fun j q W => match j with | 0 => q = .agg #[.bool b0, .slice A n c, .int .i64 x0] | 1 => q = .int .i64 s0 | 2 => q = .agg #[.bool b1, .slice A' n' c', .int .i64 x1] | 3 => q = .int .i64 s1 | 4 => q = .int .i64 s0 | 5 => q = .int .i64 s1 | _ => True)
    (J := JP) ?h0P ?hstepP ?hendP
  case h0P =>
    rw [hJP]
    have hd := below_drew (Below.refl W0.heap.size W0)
    exact ⟨⟨below_drew HW.out.1, HW.out.2⟩, blk_below hh0.out hd, blk_below hh1.out hd⟩
  case hstepP =>
    intro k o ho v W L0 hJW hF hnk haft hcl K hK
    rw [hJP] at hJW
    obtain ⟨hBW, hb0, hb1⟩ := hJW
    have hJM : ∀ (k : Nat) (w4 : World), Below W.heap.size W w4 → JP (fun j => L0 j ∨ j = k) w4 := by
      intro k w4 hb
      rw [hJP]
      refine ⟨⟨below_then hBW.1 hBW.1.size hb, Nat.le_trans hBW.2 hb.size⟩, blk_below hb0 hb, blk_below hb1 hb⟩
    have HJM := Aside0.mk hJM
    clear hJM hcl
    rcases k with _ | _ | _ | _ | _ | _ | k
    all_goals first
      | (cases ho; done)
      | (obtain rfl := (Option.some.inj ho).symm
         clear ho
         rw [if_pos (by rfl)]
         simp only [setAll, List.setIfInBounds_toArray, List.set_cons_zero, List.set_cons_succ, List.getElem_toArray, List.getElem_cons_zero, List.getElem_cons_succ, Nat.reduceAdd] at haft hF hK ⊢)
    case zero =>
      have cc0 := (box_cell (v := .bool b0) hb0 0 rfl).1
      have cc1 := (box_cell (v := .slice A n c) hb0 1 rfl).1
      have cc2 := (box_cell (v := .int .i64 x0) hb0 2 rfl).1
      have key := hK.out (.agg #[.bool b0, .slice A n c, .int .i64 x0]) W (HJM.out 0 W (Below.refl _ _)) (fun _ _ h => h) rfl
      go_simp
      simpa [upd] using key
    case succ.zero =>
      have f0 : v 0 = .agg #[.bool b0, .slice A n c, .int .i64 x0] := hF 0 (haft { on := 0, ground := .data } (by simp) rfl)
      go_simp
      go_at_call 45
      refine (QS0.out W hBW.1).mono ?_
      rintro en w4 ⟨rfl, hb⟩
      have key := hK.out (.int .i64 s0) w4 (HJM.out 1 w4 hb) ?monoP_1 (rfl)
      · simpa [upd, f0] using key
      intro j hj hf
      rcases j with _ | _ | _ | _ | _ | _ | j <;> first | exact hf | exact PDy.below hf hb | exact PL.below hf hb | exact Two.below hf hb | exact RDy.below hf hb
    case succ.succ.zero =>
      have cc0 := (box_cell (v := .bool b1) hb1 0 rfl).1
      have cc1 := (box_cell (v := .slice A' n' c') hb1 1 rfl).1
      have cc2 := (box_cell (v := .int .i64 x1) hb1 2 rfl).1
      have key := hK.out (.agg #[.bool b1, .slice A' n' c', .int .i64 x1]) W (HJM.out 2 W (Below.refl _ _)) (fun _ _ h => h) rfl
      go_simp
      simpa [upd] using key
    case succ.succ.succ.zero =>
      have f2 : v 2 = .agg #[.bool b1, .slice A' n' c', .int .i64 x1] := hF 2 (haft { on := 2, ground := .data } (by simp) rfl)
      go_simp
      go_at_call 45
      refine (QS1.out W hBW.1).mono ?_
      rintro en w4 ⟨rfl, hb⟩
      have key := hK.out (.int .i64 s1) w4 (HJM.out 3 w4 hb) ?monoP_3 (rfl)
      · simpa [upd, f2] using key
      intro j hj hf
      rcases j with _ | _ | _ | _ | _ | _ | j <;> first | exact hf | exact PDy.below hf hb | exact PL.below hf hb | exact Two.below hf hb | exact RDy.below hf hb
    case succ.succ.succ.succ.zero =>
      have f1 : v 1 = .int .i64 s0 := hF 1 (haft { on := 1, ground := .data } (by simp) rfl)
      have key := hK.out (.int .i64 s0) W (HJM.out 4 W (Below.refl _ _)) (fun _ _ h => h) rfl
      go_simp
      simpa [upd, f1] using key
    case succ.succ.succ.succ.succ.zero =>
      have f3 : v 3 = .int .i64 s1 := hF 3 (haft { on := 3, ground := .data } (by simp) rfl)
      have key := hK.out (.int .i64 s1) W (HJM.out 5 W (Below.refl _ _)) (fun _ _ h => h) rfl
      go_simp
      simpa [upd, f3] using key
  case hendP =>
    intro v1 W1 L1 hall hJW hF
    rw [hJP] at hJW
    obtain ⟨hB1, hbx0, hbx1⟩ := hJW
    have f4 : v1 4 = .int .i64 s0 := hF 4 (by decide)
    have f5 : v1 5 = .int .i64 s1 := hF 5 (by decide)
    have HB1 := Aside0.mk hB1
    have HX0 := Aside0.mk hbx0
    have HX1 := Aside0.mk hbx1
    clear hF hall hB1 hbx0 hbx1 hJP
    simp only [setAll, List.setIfInBounds_toArray, List.set_cons_zero, List.set_cons_succ, Nat.reduceAdd, f4, f5]
    rcases Int.lt_trichotomy s0 s1 with hlt | heq | hgt
    · have HV := Aside0.mk (show cmpZ y z = -1 from cmpZ_lt (by rw [HSV.out.1, HSV.out.2.1]; exact hlt))
      go_wp2
      go_ret
      exact ⟨ret_int (by rw [HV.out]), HB1.out.1⟩
    · subst heq
      have hirr : ¬ s0 < s0 := by omega
      by_cases hz0 : s0 = 0
      · subst hz0
        have HV := Aside0.mk (show cmpZ y z = 0 by
          have q1 := HSV.out.1
          have q2 := HSV.out.2.1
          have hy0 : y = 0 := by unfold sgnI at q1; split at q1; assumption; split at q1 <;> omega
          have hz0 : z = 0 := by unfold sgnI at q2; split at q2; assumption; split at q2 <;> omega
          rw [hy0, hz0]; decide)
        go_wp2
        go_ret
        exact ⟨ret_int (by rw [HV.out]), HB1.out.1⟩
      · have hz1 : (s0 == 0) = false := by simp; exact hz0
        have HNE := Aside0.mk (show y ≠ 0 ∧ z ≠ 0 by
          have q1 := HSV.out.1
          have q2 := HSV.out.2.1
          constructor
          · rintro rfl; exact hz0 q1.symm
          · rintro rfl; exact hz0 q2.symm)
        have HZS := Aside0.mk (show cmpZ y z = s0 * cmpN y.natAbs z.natAbs from cmpZ_sign HSV.out.1 HSV.out.2.1 hz0)
        clear hz0
        go_upto_region 8 with fail
        obtain ⟨JR, hJR⟩ : ∃ J : (Nat → Prop) → World → Prop, J = fun L0 W => (Below w.heap.size w W ∧ w.heap.size + 2 ≤ W.heap.size) ∧ W.heap[w.heap.size]? = some (.cells #[.bool b0, .slice A n c, .int .i64 x0] 27 (0, 0)) ∧ W.heap[w.heap.size + 1]? = some (.cells #[.bool b1, .slice A' n' c', .int .i64 x1] 27 (0, 0)) := ⟨_, rfl⟩
        refine wp_region_slotsL [27, 28, 29, 30, 7, 8] (by kernel_rfl) (by kernel_rfl)
          (F := fun j q W => match j with | 0 => q = .agg #[.bool b0, .slice A n c, .int .i64 x0] | 1 => q = .int .i64 t0 | 2 => q = .agg #[.bool b1, .slice A' n' c', .int .i64 x1] | 3 => q = .int .i64 t1 | 4 => q = .int .i64 t0 | 5 => q = .int .i64 t1 | _ => True)
          (J := JR) ?h0R ?hstepR ?hendR
        case h0R =>
          rw [hJR]
          have hd := below_drew (Below.refl W1.heap.size W1)
          exact ⟨⟨below_drew HB1.out.1, HB1.out.2⟩, blk_below HX0.out hd, blk_below HX1.out hd⟩
        case hstepR =>
          intro k o ho v W L0 hJW hF hnk haft hcl K hK
          rw [hJR] at hJW
          obtain ⟨hBW, hb0, hb1⟩ := hJW
          have hJM : ∀ (k : Nat) (w4 : World), Below W.heap.size W w4 → JR (fun j => L0 j ∨ j = k) w4 := by
            intro k w4 hb
            rw [hJR]
            refine ⟨⟨below_then hBW.1 hBW.1.size hb, Nat.le_trans hBW.2 hb.size⟩, blk_below hb0 hb, blk_below hb1 hb⟩
          have HJM := Aside0.mk hJM
          clear hJM hcl
          rcases k with _ | _ | _ | _ | _ | _ | k
          all_goals first
            | (cases ho; done)
            | (obtain rfl := (Option.some.inj ho).symm
               clear ho
               rw [if_pos (by rfl)]
               simp only [setAll, List.setIfInBounds_toArray, List.set_cons_zero, List.set_cons_succ, List.getElem_toArray, List.getElem_cons_zero, List.getElem_cons_succ, Nat.reduceAdd] at haft hF hK ⊢)
          case zero =>
            have cc0 := (box_cell (v := .bool b0) hb0 0 rfl).1
            have cc1 := (box_cell (v := .slice A n c) hb0 1 rfl).1
            have cc2 := (box_cell (v := .int .i64 x0) hb0 2 rfl).1
            have key := hK.out (.agg #[.bool b0, .slice A n c, .int .i64 x0]) W (HJM.out 0 W (Below.refl _ _)) (fun _ _ h => h) rfl
            go_simp
            simpa [upd] using key
          case succ.zero =>
            have f0 : v 0 = .agg #[.bool b0, .slice A n c, .int .i64 x0] := hF 0 (haft { on := 0, ground := .data } (by simp) rfl)
            go_simp
            go_at_call 70
            refine (QT0.out W hBW.1).mono ?_
            rintro en w4 ⟨rfl, hb⟩
            have key := hK.out (.int .i64 t0) w4 (HJM.out 1 w4 hb) ?monoR_1 (rfl)
            · simpa [upd, f0] using key
            intro j hj hf
            rcases j with _ | _ | _ | _ | _ | _ | j <;> first | exact hf | exact PDy.below hf hb | exact PL.below hf hb | exact Two.below hf hb | exact RDy.below hf hb
          case succ.succ.zero =>
            have cc0 := (box_cell (v := .bool b1) hb1 0 rfl).1
            have cc1 := (box_cell (v := .slice A' n' c') hb1 1 rfl).1
            have cc2 := (box_cell (v := .int .i64 x1) hb1 2 rfl).1
            have key := hK.out (.agg #[.bool b1, .slice A' n' c', .int .i64 x1]) W (HJM.out 2 W (Below.refl _ _)) (fun _ _ h => h) rfl
            go_simp
            simpa [upd] using key
          case succ.succ.succ.zero =>
            have f2 : v 2 = .agg #[.bool b1, .slice A' n' c', .int .i64 x1] := hF 2 (haft { on := 2, ground := .data } (by simp) rfl)
            go_simp
            go_at_call 70
            refine (QT1.out W hBW.1).mono ?_
            rintro en w4 ⟨rfl, hb⟩
            have key := hK.out (.int .i64 t1) w4 (HJM.out 3 w4 hb) ?monoR_3 (rfl)
            · simpa [upd, f2] using key
            intro j hj hf
            rcases j with _ | _ | _ | _ | _ | _ | j <;> first | exact hf | exact PDy.below hf hb | exact PL.below hf hb | exact Two.below hf hb | exact RDy.below hf hb
          case succ.succ.succ.succ.zero =>
            have f1 : v 1 = .int .i64 t0 := hF 1 (haft { on := 1, ground := .data } (by simp) rfl)
            have key := hK.out (.int .i64 t0) W (HJM.out 4 W (Below.refl _ _)) (fun _ _ h => h) rfl
            go_simp
            simpa [upd, f1] using key
          case succ.succ.succ.succ.succ.zero =>
            have f3 : v 3 = .int .i64 t1 := hF 3 (haft { on := 3, ground := .data } (by simp) rfl)
            have key := hK.out (.int .i64 t1) W (HJM.out 5 W (Below.refl _ _)) (fun _ _ h => h) rfl
            go_simp
            simpa [upd, f3] using key
        case hendR =>
          intro v2 W2 L2 hall hJW hF
          rw [hJR] at hJW
          obtain ⟨hB2, hbx0, hbx1⟩ := hJW
          have f42 : v2 4 = .int .i64 t0 := hF 4 (by decide)
          have f52 : v2 5 = .int .i64 t1 := hF 5 (by decide)
          have HB2 := Aside0.mk hB2
          have HX02 := Aside0.mk hbx0
          have HX12 := Aside0.mk hbx1
          clear hF hall hB2 hbx0 hbx1 hJR
          simp only [setAll, List.setIfInBounds_toArray, List.set_cons_zero, List.set_cons_succ, Nat.reduceAdd, f42, f52]
          rcases Int.lt_trichotomy t0 t1 with hlt | heq | hgt
          · have hne : (t0 != t1) = true := by simp; omega
            have HV := Aside0.mk (show cmpZ y z = -s0 by
              have q := top_lt (y := y) (z := z) (e := e) HNE.out.1 HNE.out.2 (by rw [HSV.out.2.2.1, HSV.out.2.2.2]; exact hlt)
              rw [HZS.out, show cmpN y.natAbs z.natAbs = -1 by unfold cmpN; rw [if_pos q]]; omega)
            have hw : IntKind.i64.wrap (-s0) = -s0 := wrap_i64 (by omega) (by omega)
            go_wp2
            go_ret
            exact ⟨ret_int (by first | rw [HV.out] | (rw [HV.out]; first | rfl | exact hw)), HB2.out.1⟩
          · subst heq
            have hne : (t0 != t0) = false := by simp
            go_upto_region 13 with fail
            obtain ⟨JS, hJS⟩ : ∃ J : (Nat → Prop) → World → Prop, J = fun L0 W => (Below w.heap.size w W ∧ w.heap.size + 2 ≤ W.heap.size) ∧ W.heap[w.heap.size]? = some (.cells #[.bool b0, .slice A n c, .int .i64 x0] 27 (0, 0)) ∧ W.heap[w.heap.size + 1]? = some (.cells #[.bool b1, .slice A' n' c', .int .i64 x1] 27 (0, 0)) := ⟨_, rfl⟩
            refine wp_region_slotsL [41, 42, 43, 44, 45, 40, 46, 47, 48, 9, 10, 11] (by kernel_rfl) (by kernel_rfl)
              (F := fun j q W => match j with | 0 => q = .agg #[.bool b0, .slice A n c, .int .i64 x0] | 1 => PDy W (w.heap.size + 2) q y e | 2 => q = .agg #[.bool b1, .slice A' n' c', .int .i64 x1] | 3 => PDy W (w.heap.size + 2) q z e | 4 => Two W (w.heap.size + 2) q la lb E | 5 => Two W (w.heap.size + 2) q la lb E | 6 => PL W (w.heap.size + 2) q la | 7 => PL W (w.heap.size + 2) q lb | 8 => q = .int .i64 E | 9 => PL W (w.heap.size + 2) q la | 10 => PL W (w.heap.size + 2) q lb | 11 => q = .int .i64 E | _ => True)
              (J := JS) ?h0S ?hstepS ?hendS
            case h0S =>
              rw [hJS]
              have hd := below_drew (Below.refl W2.heap.size W2)
              exact ⟨⟨below_drew HB2.out.1, HB2.out.2⟩, blk_below HX02.out hd, blk_below HX12.out hd⟩
            case hstepS =>
              intro k o ho v W L0 hJW hF hnk haft hcl K hK
              rw [hJS] at hJW
              obtain ⟨hBW, hb0, hb1⟩ := hJW
              have hJM : ∀ (k : Nat) (w4 : World), Below W.heap.size W w4 → JS (fun j => L0 j ∨ j = k) w4 := by
                intro k w4 hb
                rw [hJS]
                refine ⟨⟨below_then hBW.1 hBW.1.size hb, Nat.le_trans hBW.2 hb.size⟩, blk_below hb0 hb, blk_below hb1 hb⟩
              have HJM := Aside0.mk hJM
              clear hJM hcl
              rcases k with _ | _ | _ | _ | _ | _ | _ | _ | _ | _ | _ | _ | k
              all_goals first
                | (cases ho; done)
                | (obtain rfl := (Option.some.inj ho).symm
                   clear ho
                   rw [if_pos (by rfl)]
                   simp only [setAll, List.setIfInBounds_toArray, List.set_cons_zero, List.set_cons_succ, List.getElem_toArray, List.getElem_cons_zero, List.getElem_cons_succ, Nat.reduceAdd] at haft hF hK ⊢)
              case zero =>
                have cc0 := (box_cell (v := .bool b0) hb0 0 rfl).1
                have cc1 := (box_cell (v := .slice A n c) hb0 1 rfl).1
                have cc2 := (box_cell (v := .int .i64 x0) hb0 2 rfl).1
                have key := hK.out (.agg #[.bool b0, .slice A n c, .int .i64 x0]) W (HJM.out 0 W (Below.refl _ _)) (fun _ _ h => h) rfl
                go_simp
                simpa [upd] using key
              case succ.zero =>
                have f0 : v 0 = .agg #[.bool b0, .slice A n c, .int .i64 x0] := hF 0 (haft { on := 0, ground := .data } (by simp) rfl)
                go_simp
                go_at_call 72
                refine (QO0.out W hBW.1).mono ?_
                rintro en w4 ⟨v1, rfl, hr, hb⟩
                have key := hK.out (v1) w4 (HJM.out 1 w4 hb) ?monoS_1 (hr.lower hBW.2)
                · simpa [upd, f0] using key
                intro j hj hf
                rcases j with _ | _ | _ | _ | _ | _ | _ | _ | _ | _ | _ | _ | j <;> first | exact hf | exact PDy.below hf hb | exact PL.below hf hb | exact Two.below hf hb | exact RDy.below hf hb
              case succ.succ.zero =>
                have cc0 := (box_cell (v := .bool b1) hb1 0 rfl).1
                have cc1 := (box_cell (v := .slice A' n' c') hb1 1 rfl).1
                have cc2 := (box_cell (v := .int .i64 x1) hb1 2 rfl).1
                have key := hK.out (.agg #[.bool b1, .slice A' n' c', .int .i64 x1]) W (HJM.out 2 W (Below.refl _ _)) (fun _ _ h => h) rfl
                go_simp
                simpa [upd] using key
              case succ.succ.succ.zero =>
                have f2 : v 2 = .agg #[.bool b1, .slice A' n' c', .int .i64 x1] := hF 2 (haft { on := 2, ground := .data } (by simp) rfl)
                go_simp
                go_at_call 72
                refine (QO1.out W hBW.1).mono ?_
                rintro en w4 ⟨v1, rfl, hr, hb⟩
                have key := hK.out (v1) w4 (HJM.out 3 w4 hb) ?monoS_3 (hr.lower hBW.2)
                · simpa [upd, f2] using key
                intro j hj hf
                rcases j with _ | _ | _ | _ | _ | _ | _ | _ | _ | _ | _ | _ | j <;> first | exact hf | exact PDy.below hf hb | exact PL.below hf hb | exact Two.below hf hb | exact RDy.below hf hb
              case succ.succ.succ.succ.zero =>
                have f1 : PDy W (w.heap.size + 2) (v 1) y e := hF 1 (haft { on := 1, ground := .data } (by simp) rfl)
                have f3 : PDy W (w.heap.size + 2) (v 3) z e := hF 3 (haft { on := 3, ground := .data } (by simp) rfl)
                go_simp
                go_at_call 71
                refine (QAM.out (v 1) (v 3) W f1.c f3.c).mono ?_
                rintro en w4 ⟨p, r, rfl, g1, g2, hb⟩
                have key := hK.out (.tuple #[p, r, .int .i64 E]) w4 (HJM.out 4 w4 hb) ?monoS_4 (⟨p, r, rfl, g1.lower hBW.2, g2.lower hBW.2⟩)
                · simpa [upd] using key
                intro j hj hf
                rcases j with _ | _ | _ | _ | _ | _ | _ | _ | _ | _ | _ | _ | j <;> first | exact hf | exact PDy.below hf hb | exact PL.below hf hb | exact Two.below hf hb | exact RDy.below hf hb
              case succ.succ.succ.succ.succ.zero =>
                have f4 : Two W (w.heap.size + 2) (v 4) la lb E := hF 4 (haft { on := 4, ground := .data } (by simp) rfl)
                have key := hK.out (v 4) W (HJM.out 5 W (Below.refl _ _)) (fun _ _ h => h) f4
                go_simp
                simpa [upd] using key
              case succ.succ.succ.succ.succ.succ.zero =>
                have f5 : Two W (w.heap.size + 2) (v 5) la lb E := hF 5 (haft { on := 5, ground := .data } (by simp) rfl)
                obtain ⟨p, r, f5v, g1, g2⟩ := f5
                have key := hK.out p W (HJM.out 6 W (Below.refl _ _)) (fun _ _ h => h) g1
                go_simp
                simpa [upd, f5v] using key
              case succ.succ.succ.succ.succ.succ.succ.zero =>
                have f5 : Two W (w.heap.size + 2) (v 5) la lb E := hF 5 (haft { on := 5, ground := .data } (by simp) rfl)
                obtain ⟨p, r, f5v, g1, g2⟩ := f5
                have key := hK.out r W (HJM.out 7 W (Below.refl _ _)) (fun _ _ h => h) g2
                go_simp
                simpa [upd, f5v] using key
              case succ.succ.succ.succ.succ.succ.succ.succ.zero =>
                have f5 : Two W (w.heap.size + 2) (v 5) la lb E := hF 5 (haft { on := 5, ground := .data } (by simp) rfl)
                obtain ⟨p, r, f5v, g1, g2⟩ := f5
                have key := hK.out (.int .i64 E) W (HJM.out 8 W (Below.refl _ _)) (fun _ _ h => h) rfl
                go_simp
                simpa [upd, f5v] using key
              case succ.succ.succ.succ.succ.succ.succ.succ.succ.zero =>
                have f6 : PL W (w.heap.size + 2) (v 6) la := hF 6 (haft { on := 6, ground := .data } (by simp) rfl)
                have key := hK.out (v 6) W (HJM.out 9 W (Below.refl _ _)) (fun _ _ h => h) f6
                go_simp
                simpa [upd] using key
              case succ.succ.succ.succ.succ.succ.succ.succ.succ.succ.zero =>
                have f7 : PL W (w.heap.size + 2) (v 7) lb := hF 7 (haft { on := 7, ground := .data } (by simp) rfl)
                have key := hK.out (v 7) W (HJM.out 10 W (Below.refl _ _)) (fun _ _ h => h) f7
                go_simp
                simpa [upd] using key
              case succ.succ.succ.succ.succ.succ.succ.succ.succ.succ.succ.zero =>
                have f8 : v 8 = .int .i64 E := hF 8 (haft { on := 8, ground := .data } (by simp) rfl)
                have key := hK.out (.int .i64 E) W (HJM.out 11 W (Below.refl _ _)) (fun _ _ h => h) rfl
                go_simp
                simpa [upd, f8] using key
            case hendS =>
              intro v3 W3 L3 hall hJW hF
              rw [hJS] at hJW
              obtain ⟨hB3, _, _⟩ := hJW
              have g9 : PL W3 (w.heap.size + 2) (v3 9) la := hF 9 (by decide)
              have g10 : PL W3 (w.heap.size + 2) (v3 10) lb := hF 10 (by decide)
              obtain ⟨Aa, ca, f9v, hca, hCa⟩ := g9.c
              obtain ⟨Ab, cb, f10v, hcb, hCb⟩ := g10.c
              have HB3 := Aside0.mk hB3
              have HCa := Aside0.mk (And.intro hca hCa)
              have HCb := Aside0.mk (And.intro hcb hCb)
              clear hF hall hB3 hJS g9 g10 hca hCa hcb hCb
              simp only [setAll, List.setIfInBounds_toArray, List.set_cons_zero, List.set_cons_succ, Nat.reduceAdd, f9v, f10v]
              have HV := Aside0.mk (show cmpZ y z = s0 * cmpN na nb by rw [HZS.out, HCA.out HNE.out.1 HNE.out.2])
              obtain ⟨cc, hcc⟩ : ∃ cc, cc = cmpN na nb := ⟨_, rfl⟩
              have hcr : cc = -1 ∨ cc = 0 ∨ cc = 1 := by rw [hcc]; unfold cmpN; split; exact .inl rfl; split; exact .inr (.inr rfl); exact .inr (.inl rfl)
              rw [← hcc] at QC HV
              clear hcc
              have hw : IntKind.i64.wrap (s0 * cc) = s0 * cc := by
                rcases hsr0 with rfl | rfl | rfl <;> rcases hcr with rfl | rfl | rfl <;> decide
              go_wp2_with (go_at_call 73; refine (QC.out Aa Ab ca cb _ HCa.out.2 HCb.out.2 HCa.out.1 HCb.out.1).mono ?_; rintro e w' ⟨rfl, n5, rfl⟩)
              go_ret
              exact ⟨ret_int (by first | (rw [HV.out]; done) | (rw [HV.out]; rfl) | (rw [HV.out]; exact hw)), pw_below_drewN HB3.out.1 _⟩
          · have hne : (t0 != t1) = true := by simp; omega
            have hnl : ¬ t0 < t1 := by omega
            have HV := Aside0.mk (show cmpZ y z = s0 by
              have q := top_lt (y := z) (z := y) (e := e) HNE.out.2 HNE.out.1 (by rw [HSV.out.2.2.1, HSV.out.2.2.2]; exact hgt)
              rw [HZS.out, show cmpN y.natAbs z.natAbs = 1 by unfold cmpN; rw [if_neg (by omega), if_pos q]]; omega)
            go_wp2
            go_ret
            exact ⟨ret_int (by rw [HV.out]), HB2.out.1⟩
    · have HV := Aside0.mk (show cmpZ y z = 1 from cmpZ_gt (by rw [HSV.out.1, HSV.out.2.1]; exact hgt))
      have hnl : ¬ s0 < s1 := by omega
      go_wp2
      go_ret
      exact ⟨ret_int (by rw [HV.out]), HB1.out.1⟩
end Go.Proofs.YtgpjplelgffocaaDoor

namespace Go.Proofs.YtgpjplelgffocaaDoor
open Go.RowKit Go.Proofs.YtgpjplelgffocaaDoorW.PrintWords Limb
set_option linter.unusedVariables false
set_option linter.unusedSimpArgs false

theorem len_shift {n k m : Nat} (h : (limbs n).length ≤ 268435456) (hk : k ≤ 17179869184) (hm : 536870913 ≤ m) : n * 2 ^ k < 2 ^ (64 * m) := by
  have q1 := nv_lt (wf_limbs n)
  rw [nv_limbs] at q1
  refine Nat.lt_of_lt_of_le (Nat.mul_lt_mul_of_pos_right q1 (Nat.two_pow_pos k)) ?_
  rw [← Nat.pow_add]
  exact pow_le2 (64 * (limbs n).length + k) (64 * m) (by omega)
theorem PL.cc {w : World} {b c : Nat} {A : Option Addr} {l : List Nat} (h : PL w b (.slice A l.length c) l) : kU.C w A l.length l ∧ l.length ≤ c := by
  obtain ⟨A', c', he, hc, hC⟩ := h.c
  injection he with h1 h2 h3
  subst h1 h3
  exact ⟨hC, hc⟩
theorem len_sum {a b m : Nat} (ha : a < 2 ^ (64 * m)) (hb : b < 2 ^ (64 * m)) : a + b < 2 ^ (64 * (m + 1)) := by
  rw [pw m]
  generalize 2 ^ (64 * m) = p at *
  omega

set_option maxRecDepth 100000 in
set_option maxHeartbeats 8000000 in
theorem padd_dy (u v : Value) (y z e : Int) (w : World) (h : CDy w u y e) (h' : CDy w v z e) (hl : (limbs (cman y)).length ≤ 268435456) (hl' : (limbs (cman z)).length ≤ 268435456) (le1 : -8589934592 ≤ cexp y e) (le2 : cexp y e ≤ 8589934592) (le1' : -8589934592 ≤ cexp z e) (le2' : cexp z e ≤ 8589934592) (hT : TabAt 0 Lib.deBruijn64tab w) :
    Calls Tryd.prog 83 #[u, v] w fun en w' => ∃ v', en = .returned v' ∧ PDy w' w.heap.size v' (y + z) e ∧ Below w.heap.size w w' := by
  have QO0 := Aside0.mk (fun (m : World) (hm : Below w.heap.size w m) => pone_dy u y e m (h.below hm) (by omega) (by omega) (by omega) (tab_below hT hm))
  have QO1 := Aside0.mk (fun (m : World) (hm : Below w.heap.size w m) => pone_dy v z e m (h'.below hm) (by omega) (by omega) (by omega) (tab_below hT hm))
  have QZ0 := Aside0.mk (fun (v : Value) (m : World) (h : CDy m v y e) => pzero_dy v y e m h (by omega))
  have QZ1 := Aside0.mk (fun (v : Value) (m : World) (h : CDy m v z e) => pzero_dy v z e m h (by omega))
  obtain ⟨E, hE⟩ : ∃ E, E = min (cexp y e) (cexp z e) := ⟨_, rfl⟩
  obtain ⟨k0, hk0⟩ : ∃ k : Nat, cexp y e - E = k := ⟨(cexp y e - E).toNat, by omega⟩
  obtain ⟨k1, hk1⟩ : ∃ k : Nat, cexp z e - E = k := ⟨(cexp z e - E).toNat, by omega⟩
  have hE1 : -8589934592 ≤ E := by omega
  have hE2 : E ≤ 8589934592 := by omega
  have QAM := Aside0.mk (fun (u v : Value) (m : World) (h : CDy m u y e) (h' : CDy m v z e) => pamounts_dy u v y z e E k0 k1 m h h' hE hk0 hk1 (by omega) (by omega) (by omega) (by omega) (by omega) (by omega))
  obtain ⟨na, hna⟩ : ∃ x, x = cman y * 2 ^ k0 := ⟨_, rfl⟩
  obtain ⟨nb, hnb⟩ : ∃ x, x = cman z * 2 ^ k1 := ⟨_, rfl⟩
  obtain ⟨M, hM⟩ : ∃ M, M = 536870913 := ⟨_, rfl⟩
  have bna : na < 2 ^ (64 * M) := by rw [hna]; exact len_shift hl (by omega) (by omega)
  have bnb : nb < 2 ^ (64 * M) := by rw [hnb]; exact len_shift hl' (by omega) (by omega)
  have la1 : (limbs na).length ≤ 536870913 := by have := limbs_len_le bna; omega
  have lb1 : (limbs nb).length ≤ 536870913 := by have := limbs_len_le bnb; omega
  have ls1 : ∀ s, s ≤ na + nb → (limbs s).length ≤ 1073741824 := fun s hs => by have := limbs_len_le (Nat.lt_of_le_of_lt hs (len_sum bna bnb)); omega
  have HFM := Aside0.mk (fun (hy : y ≠ 0) (hz : z ≠ 0) => (by
    have q := plus_form (y := y) (z := z) (e := e) (E := E) (ky := k0) (kz := k1) hy hz hk0 hk1 (by omega)
    rw [← hna, ← hnb] at q
    exact q : ∃ j : Nat, E = e + j ∧ y = sgn (cneg y) na * 2 ^ j ∧ z = sgn (cneg z) nb * 2 ^ j))
  have HNZ := Aside0.mk (show y ≠ 0 → na ≠ 0 from fun hy h => by rw [hna] at h; exact hy (cman_eq_zero.1 ((Nat.mul_eq_zero.1 h).resolve_right (by have := Nat.two_pow_pos k0; omega))))
  have HNZ2 := Aside0.mk (show z ≠ 0 → nb ≠ 0 from fun hy h => by rw [hnb] at h; exact hy (cman_eq_zero.1 ((Nat.mul_eq_zero.1 h).resolve_right (by have := Nat.two_pow_pos k1; omega))))
  obtain ⟨la, hla⟩ : ∃ x, x = limbs na := ⟨_, rfl⟩
  obtain ⟨lb, hlb⟩ : ∃ x, x = limbs nb := ⟨_, rfl⟩
  rw [← hna, ← hnb, ← hla, ← hlb] at QAM
  have wla : Wf la := by rw [hla]; exact wf_limbs _
  have wlb : Wf lb := by rw [hlb]; exact wf_limbs _
  have vla : nv la = na := by rw [hla, nv_limbs]
  have vlb : nv lb = nb := by rw [hlb, nv_limbs]
  have lla : la.length ≤ 536870913 := by rw [hla]; exact la1
  have llb : lb.length ≤ 536870913 := by rw [hlb]; exact lb1
  have QADD := Aside0.mk (fun (A B : Option Addr) (c d : Nat) (m : World) (ha : kU.C m A la.length la) (hb : kU.C m B lb.length lb) (hc : la.length ≤ c) (hd : lb.length ≤ d) => (by
    have q := padd_any la lb A B la.length lb.length c d rfl rfl m ha hb hc hd wla wlb (by omega) (by omega)
    rw [vla, vlb] at q
    exact q : Calls Tryd.prog 99 #[.slice A la.length c, .slice B lb.length d] m fun e w' => ∃ v, e = .returned v ∧ PL w' m.heap.size v (limbs (na + nb)) ∧ Below m.heap.size m w'))
  have QS1 := Aside0.mk (fun (hle : nb ≤ na) (hn0 : na ≠ 0) (A B : Option Addr) (c d : Nat) (m : World) (ha : kU.C m A la.length la) (hb : kU.C m B lb.length lb) (hc : la.length ≤ c) (hd : lb.length ≤ d) => (by
    have q := psub_any la lb A B la.length lb.length c d rfl rfl m ha hb hc hd wla wlb (by omega) (by omega) (by rw [hla]; refine List.length_pos_iff.2 (fun h => hn0 (limbs_eq_nil.1 h))) (by rw [vla, vlb]; exact hle)
    rw [vla, vlb] at q
    exact q : Calls Tryd.prog 100 #[.slice A la.length c, .slice B lb.length d] m fun e w' => ∃ v, e = .returned v ∧ PL w' m.heap.size v (limbs (na - nb)) ∧ Below m.heap.size m w'))
  have QS2 := Aside0.mk (fun (hle : na ≤ nb) (hn0 : nb ≠ 0) (A B : Option Addr) (c d : Nat) (m : World) (ha : kU.C m A la.length la) (hb : kU.C m B lb.length lb) (hc : la.length ≤ c) (hd : lb.length ≤ d) => (by
    have q := psub_any lb la B A lb.length la.length d c rfl rfl m hb ha hd hc wlb wla (by omega) (by omega) (by rw [hlb]; refine List.length_pos_iff.2 (fun h => hn0 (limbs_eq_nil.1 h))) (by rw [vla, vlb]; exact hle)
    rw [vla, vlb] at q
    exact q : Calls Tryd.prog 100 #[.slice B lb.length d, .slice A la.length c] m fun e w' => ∃ v, e = .returned v ∧ PL w' m.heap.size v (limbs (nb - na)) ∧ Below m.heap.size m w'))
  have QC := Aside0.mk (fun (A B : Option Addr) (c d : Nat) (m : World) (ha : kU.C m A la.length la) (hb : kU.C m B lb.length lb) (hc : la.length ≤ c) (hd : lb.length ≤ d) => (by
    have q := pcmp_any la lb A B la.length lb.length c d rfl rfl m ha hb hc hd wla wlb (by omega) (by omega)
    rw [vla, vlb] at q
    exact q : Calls Tryd.prog 73 #[.slice A la.length c, .slice B lb.length d] m fun e w' => e = .returned (.int .i64 (cmpN na nb)) ∧ ∃ n, w' = m.drewN n))
  have QF := Aside0.mk (fun (b : Bool) (s : Nat) (hs : s ≤ na + nb) (hval : ∃ j : Nat, E = e + j ∧ y + z = sgn b s * 2 ^ j) (A3 : Option Addr) (c3 : Nat) (m : World) (hm : Below w.heap.size w m) (hC3 : kU.C m A3 (limbs s).length (limbs s)) (hc3 : (limbs s).length ≤ c3) => (by
    have q := pform_any b (limbs s) A3 _ c3 E rfl m hC3 hc3 (wf_limbs _) (ls1 s hs) (by omega) (by omega) (tab_below hT hm)
    rw [nv_limbs] at q
    refine q.mono ?_
    rintro en w' ⟨v', rfl, hr, hb⟩
    obtain ⟨j, hj1, hj2⟩ := hval
    rw [hj1] at hr
    have := PDy.scale j hr
    rw [← hj2] at this
    exact ⟨v', rfl, this, hb⟩ : Calls Tryd.prog 43 #[.bool b, .slice A3 (limbs s).length c3, .int .i64 E] m fun en w' => ∃ v', en = .returned v' ∧ PDy w' m.heap.size v' (y + z) e ∧ Below m.heap.size m w'))
  obtain ⟨A, n, c, rfl, hC, hn, hc⟩ := h
  obtain ⟨A', n', c', rfl, hC', hn', hc'⟩ := h'
  obtain ⟨x0, hx0⟩ : ∃ x, x = cexp y e := ⟨_, rfl⟩
  obtain ⟨x1, hx1⟩ : ∃ x, x = cexp z e := ⟨_, rfl⟩
  obtain ⟨b0, hb0⟩ : ∃ x, x = cneg y := ⟨_, rfl⟩
  obtain ⟨b1, hb1⟩ : ∃ x, x = cneg z := ⟨_, rfl⟩
  have HXZ := Aside0.mk (And.intro hb0.symm (And.intro hx0.symm (And.intro hb1.symm hx1.symm)))
  rw [← hx0, ← hb0] at QO0
  rw [← hx1, ← hb1] at QO1
  rw [← hx0, ← hb0, ← hx1, ← hb1]
  clear hC hC' hx0 hx1 hb0 hb1 hT hE hk0 hk1 hna hnb hla hlb la1 lb1 le1 le2 le1' le2' hl hl' wla wlb vla vlb lla llb bna bnb ls1 hM hE1 hE2
  obtain ⟨W0, hW0⟩ : ∃ W0, W0 = ((w.alloc (.cells #[.bool b0, .slice A n c, .int .i64 x0] 27)).alloc (.cells #[.bool b1, .slice A' n' c', .int .i64 x1] 27)).alloc (.cells #[.bool false, .slice none 0 0, .int .i64 0] 27) := ⟨_, rfl⟩
  have hh0 : Aside0 (W0.heap[w.heap.size]? = some (.cells #[.bool b0, .slice A n c, .int .i64 x0] 27 (0, 0))) := ⟨by rw [hW0]; exact blk_alloc (blk_alloc (blk_new _ _) _) _⟩
  have hh1 : Aside0 (W0.heap[w.heap.size + 1]? = some (.cells #[.bool b1, .slice A' n' c', .int .i64 x1] 27 (0, 0))) := ⟨by rw [hW0]; have := blk_new (w.alloc (.cells #[.bool b0, .slice A n c, .int .i64 x0] 27)) (.cells #[.bool b1, .slice A' n' c', .int .i64 x1] 27); rw [size_alloc'] at this; exact blk_alloc this _⟩
  have hh2 : Aside0 (W0.heap[w.heap.size + 2]? = some (.cells #[.bool false, .slice none 0 0, .int .i64 0] 27 (0, 0))) := ⟨by rw [hW0]; have := blk_new ((w.alloc (.cells #[.bool b0, .slice A n c, .int .i64 x0] 27)).alloc (.cells #[.bool b1, .slice A' n' c', .int .i64 x1] 27)) (.cells #[.bool false, .slice none 0 0, .int .i64 0] 27); rw [size_alloc', size_alloc'] at this; exact this⟩
  have HW : Aside0 (Below w.heap.size w W0 ∧ w.heap.size + 3 ≤ W0.heap.size) := ⟨by rw [hW0]; exact ⟨below_alloc (below_alloc (below_alloc (Below.refl _ _) _) _) _, by rw [size_alloc', size_alloc', size_alloc']; exact Nat.le_refl _⟩⟩
  go_enter Tryd.func83, Tryd.ntmps83
  go_upto_region 1 with fail
  rw [← hW0]
  clear hW0
  obtain ⟨JO, hJO⟩ : ∃ J : (Nat → Prop) → World → Prop, J = fun L0 W => (Below w.heap.size w W ∧ w.heap.size + 3 ≤ W.heap.size) ∧ W.heap[w.heap.size + 2]? = some (.cells #[.bool false, .slice none 0 0, .int .i64 0] 27 (0, 0)) ∧ (¬ L0 4 → W.heap[w.heap.size]? = some (.cells #[.bool b0, .slice A n c, .int .i64 x0] 27 (0, 0))) ∧ (L0 4 → ∃ A2 n2 c2, W.heap[w.heap.size]? = some (.cells #[.bool b0, .slice A2 n2 c2, .int .i64 x0] 27 (0, 0)) ∧ PL W (w.heap.size + 3) (.slice A2 n2 c2) (limbs (cman y))) ∧ (¬ L0 5 → W.heap[w.heap.size + 1]? = some (.cells #[.bool b1, .slice A' n' c', .int .i64 x1] 27 (0, 0))) ∧ (L0 5 → ∃ A3 n3 c3, W.heap[w.heap.size + 1]? = some (.cells #[.bool b1, .slice A3 n3 c3, .int .i64 x1] 27 (0, 0)) ∧ PL W (w.heap.size + 3) (.slice A3 n3 c3) (limbs (cman z))) := ⟨_, rfl⟩
  refine wp_region_slotsL [8, 9, 10, 11] (by kernel_rfl) (by kernel_rfl)
    (F := fun j q W => match j with | 0 => q = .agg #[.bool b0, .slice A n c, .int .i64 x0] | 1 => PDy W (w.heap.size + 3) q y e | 2 => q = .agg #[.bool b1, .slice A' n' c', .int .i64 x1] | 3 => PDy W (w.heap.size + 3) q z e | _ => True)
    (J := JO) ?h0O ?hstepO ?hendO
  case h0O =>
    rw [hJO]
    have hd := below_drew (Below.refl W0.heap.size W0)
    exact ⟨⟨below_drew HW.out.1, HW.out.2⟩, blk_below hh2.out hd, fun _ => blk_below hh0.out hd, fun h => h.elim, fun _ => blk_below hh1.out hd, fun h => h.elim⟩
  case hstepO =>
    intro k o ho v W L0 hJW hF hnk haft hcl K hK
    rw [hJO] at hJW
    obtain ⟨hBW, hb2, ho4, hn4, ho5, hn5⟩ := hJW
    have HJM := Aside0.mk (show ∀ (k : Nat) (w4 : World), k ≠ 4 → k ≠ 5 → Below W.heap.size W w4 → JO (fun j => L0 j ∨ j = k) w4 from by
      intro k w4 hk4 hk5 hb
      rw [hJO]
      refine ⟨⟨below_then hBW.1 hBW.1.size hb, Nat.le_trans hBW.2 hb.size⟩, blk_below hb2 hb, fun h => blk_below (ho4 (fun h2 => h (.inl h2))) hb, fun h => ?_, fun h => blk_below (ho5 (fun h2 => h (.inl h2))) hb, fun h => ?_⟩
      · obtain ⟨A2, n2, c2, y1, y2⟩ := hn4 (h.resolve_right (fun e => hk4 e.symm))
        exact ⟨A2, n2, c2, blk_below y1 hb, y2.below hb⟩
      · obtain ⟨A2, n2, c2, y1, y2⟩ := hn5 (h.resolve_right (fun e => hk5 e.symm))
        exact ⟨A2, n2, c2, blk_below y1 hb, y2.below hb⟩)
    have HCL := Aside0.mk hcl
    have HO4 := Aside0.mk ho4
    have HO5 := Aside0.mk ho5
    have HN4 := Aside0.mk hn4
    have HN5 := Aside0.mk hn5
    clear hcl ho4 ho5 hn4 hn5
    rcases k with _ | _ | _ | _ | _ | _ | k
    all_goals first
      | (cases ho; done)
      | (obtain rfl := (Option.some.inj ho).symm
         clear ho
         rw [if_pos (by rfl)]
         simp only [setAll, List.setIfInBounds_toArray, List.set_cons_zero, List.set_cons_succ, List.getElem_toArray, List.getElem_cons_zero, List.getElem_cons_succ, Nat.reduceAdd] at haft hF hK ⊢)
    case zero =>
      have h4 : ¬ L0 4 := fun h => hnk (HCL.out 4 _ rfl h { on := 0, ground := .phase } (by simp) rfl)
      have hh := HO4.out h4
      have cc0 := (box_cell (v := .bool b0) hh 0 rfl).1
      have cc1 := (box_cell (v := .slice A n c) hh 1 rfl).1
      have cc2 := (box_cell (v := .int .i64 x0) hh 2 rfl).1
      have key := hK.out (.agg #[.bool b0, .slice A n c, .int .i64 x0]) W (HJM.out 0 W (by decide) (by decide) (Below.refl _ _)) (fun _ _ h => h) rfl
      go_simp
      simpa [upd] using key
    case succ.zero =>
      have f0 : v 0 = .agg #[.bool b0, .slice A n c, .int .i64 x0] := hF 0 (haft { on := 0, ground := .data } (by simp) rfl)
      go_simp
      go_at_call 72
      refine (QO0.out W hBW.1).mono ?_
      rintro en w4 ⟨v1, rfl, hr, hb⟩
      have key := hK.out v1 w4 (HJM.out 1 w4 (by decide) (by decide) hb) ?monoO1 (hr.lower hBW.2)
      · simpa [upd, f0] using key
      intro j hj hf
      rcases j with _ | _ | _ | _ | _ | _ | j <;> first | exact hf | exact PDy.below hf hb
    case succ.succ.zero =>
      have h5 : ¬ L0 5 := fun h => hnk (HCL.out 5 _ rfl h { on := 2, ground := .phase } (by simp) rfl)
      have hh := HO5.out h5
      have cc0 := (box_cell (v := .bool b1) hh 0 rfl).1
      have cc1 := (box_cell (v := .slice A' n' c') hh 1 rfl).1
      have cc2 := (box_cell (v := .int .i64 x1) hh 2 rfl).1
      have key := hK.out (.agg #[.bool b1, .slice A' n' c', .int .i64 x1]) W (HJM.out 2 W (by decide) (by decide) (Below.refl _ _)) (fun _ _ h => h) rfl
      go_simp
      simpa [upd] using key
    case succ.succ.succ.zero =>
      have f2 : v 2 = .agg #[.bool b1, .slice A' n' c', .int .i64 x1] := hF 2 (haft { on := 2, ground := .data } (by simp) rfl)
      go_simp
      go_at_call 72
      refine (QO1.out W hBW.1).mono ?_
      rintro en w4 ⟨v1, rfl, hr, hb⟩
      have key := hK.out v1 w4 (HJM.out 3 w4 (by decide) (by decide) hb) ?monoO3 (hr.lower hBW.2)
      · simpa [upd, f2] using key
      intro j hj hf
      rcases j with _ | _ | _ | _ | _ | _ | j <;> first | exact hf | exact PDy.below hf hb
    case succ.succ.succ.succ.zero =>
      have fz : PDy W (w.heap.size + 3) (v 1) y e := hF 1 (haft { on := 1, ground := .data } (by simp) rfl)
      obtain ⟨A9, n9, c9, fz2, _⟩ := id fz
      have hxz := HXZ.out
      rw [hxz.1, hxz.2.1] at fz2
      refine wp_store_box 27 2 (.tmp 9) rfl rfl (g := w.heap.size) (e := 27) (v 1) [.bool b0, .slice A9 n9 c9, .int .i64 x0] rfl rfl (by rw [fz2]; rfl) info_dyad ?_ (HO4.out hnk) rfl ?_
      · intro q hq; simp at hq; rcases hq with rfl | rfl | rfl <;> rfl
      · intro w1 hw1 hg1
        have hn9 := fz.grown hg1 (by omega)
        obtain ⟨A4, n4, c4, fz4, hr4⟩ := hn9
        rw [hxz.1, hxz.2.1, fz2] at fz4
        injection fz4 with fz4
        simp at fz4
        obtain ⟨rfl, rfl, rfl⟩ := fz4
        have key := hK.out undef w1 (by rw [hJO]; exact ⟨⟨hBW.1.grown hg1 hBW.1.size (fun k hk => by have := Option.some.inj hk; omega), Nat.le_trans hBW.2 hg1.size⟩, (hg1.block _ (blk_lt hb2) (fun he => by have := Option.some.inj he; omega)).trans hb2, fun h => (h (by simp)).elim, fun _ => ⟨_, _, _, hw1, hr4⟩, fun h => (hg1.block _ (blk_lt (HO5.out (fun h2 => h (.inl h2)))) (fun he => by have := Option.some.inj he; omega)).trans (HO5.out (fun h2 => h (.inl h2))), fun h => (by obtain ⟨Ax, nx, cx, y1, y2⟩ := HN5.out (h.resolve_right (by decide)); exact ⟨Ax, nx, cx, (hg1.block _ (blk_lt y1) (fun he => by have := Option.some.inj he; omega)).trans y1, y2.grown hg1 (by omega)⟩)⟩) ?mstO4 trivial
        · simpa [upd] using key
        intro j hj hf
        rcases j with _ | _ | _ | _ | _ | _ | j <;> first | exact hf | exact PDy.grown hf hg1 (by omega)
    case succ.succ.succ.succ.succ.zero =>
      have fz : PDy W (w.heap.size + 3) (v 3) z e := hF 3 (haft { on := 3, ground := .data } (by simp) rfl)
      obtain ⟨A9, n9, c9, fz2, _⟩ := id fz
      have hxz := HXZ.out
      rw [hxz.2.2.1, hxz.2.2.2] at fz2
      refine wp_store_box 27 3 (.tmp 11) rfl rfl (g := w.heap.size + 1) (e := 27) (v 3) [.bool b1, .slice A9 n9 c9, .int .i64 x1] rfl rfl (by rw [fz2]; rfl) info_dyad ?_ (HO5.out hnk) rfl ?_
      · intro q hq; simp at hq; rcases hq with rfl | rfl | rfl <;> rfl
      · intro w1 hw1 hg1
        have hn9 := fz.grown hg1 (by omega)
        obtain ⟨A4, n4, c4, fz4, hr4⟩ := hn9
        rw [hxz.2.2.1, hxz.2.2.2, fz2] at fz4
        injection fz4 with fz4
        simp at fz4
        obtain ⟨rfl, rfl, rfl⟩ := fz4
        have key := hK.out undef w1 (by rw [hJO]; exact ⟨⟨hBW.1.grown hg1 hBW.1.size (fun k hk => by have := Option.some.inj hk; omega), Nat.le_trans hBW.2 hg1.size⟩, (hg1.block _ (blk_lt hb2) (fun he => by have := Option.some.inj he; omega)).trans hb2, fun h => (hg1.block _ (blk_lt (HO4.out (fun h2 => h (.inl h2)))) (fun he => by have := Option.some.inj he; omega)).trans (HO4.out (fun h2 => h (.inl h2))), fun h => (by obtain ⟨Ax, nx, cx, y1, y2⟩ := HN4.out (h.resolve_right (by decide)); exact ⟨Ax, nx, cx, (hg1.block _ (blk_lt y1) (fun he => by have := Option.some.inj he; omega)).trans y1, y2.grown hg1 (by omega)⟩), fun h => (h (by simp)).elim, fun _ => ⟨_, _, _, hw1, hr4⟩⟩) ?mstO5 trivial
        · simpa [upd] using key
        intro j hj hf
        rcases j with _ | _ | _ | _ | _ | _ | j <;> first | exact hf | exact PDy.grown hf hg1 (by omega)
  case hendO =>
    intro v1 W1 L1 hall hJW hF
    rw [hJO] at hJW
    obtain ⟨hB1, hbx2, _, hn4, _, hn5⟩ := hJW
    obtain ⟨A2, n2, c2, hbx0, hP0⟩ := hn4 (hall 4 (by decide))
    obtain ⟨A3, n3, c3, hbx1, hP1⟩ := hn5 (hall 5 (by decide))
    have HB1 := Aside0.mk hB1
    have HX0 := Aside0.mk hbx0
    have HX1 := Aside0.mk hbx1
    have HX2 := Aside0.mk hbx2
    have HD0 := Aside0.mk (show PDy W1 (w.heap.size + 3) (.agg #[.bool b0, .slice A2 n2 c2, .int .i64 x0]) y e from ⟨A2, n2, c2, by rw [HXZ.out.1, HXZ.out.2.1], hP0⟩)
    have HD1 := Aside0.mk (show PDy W1 (w.heap.size + 3) (.agg #[.bool b1, .slice A3 n3 c3, .int .i64 x1]) z e from ⟨A3, n3, c3, by rw [HXZ.out.2.2.1, HXZ.out.2.2.2], hP1⟩)
    obtain ⟨q00, _⟩ := box_cell (v := .bool b0) hbx0 0 rfl
    obtain ⟨q01, _⟩ := box_cell (v := .slice A2 n2 c2) hbx0 1 rfl
    obtain ⟨q02, _⟩ := box_cell (v := .int .i64 x0) hbx0 2 rfl
    obtain ⟨q10, _⟩ := box_cell (v := .bool b1) hbx1 0 rfl
    obtain ⟨q11, _⟩ := box_cell (v := .slice A3 n3 c3) hbx1 1 rfl
    obtain ⟨q12, _⟩ := box_cell (v := .int .i64 x1) hbx1 2 rfl
    clear hF hall hB1 hJO hn4 hn5 hbx0 hbx1 hbx2 hP0 hP1
    simp only [setAll, List.setIfInBounds_toArray, List.set_cons_zero, List.set_cons_succ, Nat.reduceAdd]
    have ZERO0 := Aside0.mk (QZ0.out _ W1 HD0.out.c)
    by_cases hy : y = 0
    · rw [decide_eq_true hy] at ZERO0
      go_upto_region 3 with (go_at_call 22; refine ZERO0.out.mono ?_; rintro e2 W2 ⟨rfl, hb⟩; have r10 := (box_cell (v := .bool b1) (blk_below HX1.out hb) 0 rfl).1; have r11 := (box_cell (v := .slice A3 n3 c3) (blk_below HX1.out hb) 1 rfl).1; have r12 := (box_cell (v := .int .i64 x1) (blk_below HX1.out hb) 2 rfl).1; have HB2 := Aside0.mk hb; clear hb)
      have HR2 := Aside0.mk (blk_below HX2.out HB2.out)
      go_wp2_with ((with_reducible refine gate_store (p := 4) rfl ?_); go_must (refine store_box 27 4 (.tmp 15) rfl rfl rfl (g := (w.heap.size + 1 + 1)) (e := 27) (.agg #[.bool b1, .slice A3 n3 c3, .int .i64 x1]) ([.bool b1, .slice A3 n3 c3, .int .i64 x1]) rfl rfl rfl info_dyad ?b1 HR2.out rfl ?_; (case b1 => intro q hq; simp at hq; rcases hq with rfl | rfl | rfl <;> rfl); intro wb hbx hgx; have HX := Aside0.mk hbx; have HG := Aside0.mk hgx; clear hbx hgx))
      refine bodyPost_ret (results_dyad rfl _ _ (w.heap.size + 1 + 1) _ rfl HX.out rfl) rfl ?_
      have hb2 := below_then HB1.out.1 HB1.out.1.size HB2.out
      refine ⟨_, rfl, ?_, hb2.grown HG.out hb2.size (fun k hk => by cases hk; omega)⟩
      rw [hy, Int.zero_add]
      exact ((HD1.out.below HB2.out).grown HG.out (by omega)).lower (by omega)
    rw [decide_eq_false hy] at ZERO0
    go_upto_region 4 with (go_at_call 22; refine ZERO0.out.mono ?_; rintro e2 W2 ⟨rfl, hb⟩; have r10 := (box_cell (v := .bool b1) (blk_below HX1.out hb) 0 rfl).1; have r11 := (box_cell (v := .slice A3 n3 c3) (blk_below HX1.out hb) 1 rfl).1; have r12 := (box_cell (v := .int .i64 x1) (blk_below HX1.out hb) 2 rfl).1; have HB2 := Aside0.mk hb; clear hb)
    have ZERO1 := Aside0.mk (QZ1.out _ W2 (HD1.out.below HB2.out).c)
    by_cases hz : z = 0
    · rw [decide_eq_true hz] at ZERO1
      go_upto_region 5 with (go_at_call 22; refine ZERO1.out.mono ?_; rintro e3 W3 ⟨rfl, hb⟩; have HB3 := Aside0.mk (below_then HB2.out HB2.out.size hb); clear hb)
      have s00 := (box_cell (v := .bool b0) (blk_below HX0.out HB3.out) 0 rfl).1
      have s01 := (box_cell (v := .slice A2 n2 c2) (blk_below HX0.out HB3.out) 1 rfl).1
      have s02 := (box_cell (v := .int .i64 x0) (blk_below HX0.out HB3.out) 2 rfl).1
      have HR3 := Aside0.mk (blk_below HX2.out HB3.out)
      go_wp2_with ((with_reducible refine gate_store (p := 4) rfl ?_); go_must (refine store_box 27 4 (.tmp 19) rfl rfl rfl (g := (w.heap.size + 1 + 1)) (e := 27) (.agg #[.bool b0, .slice A2 n2 c2, .int .i64 x0]) ([.bool b0, .slice A2 n2 c2, .int .i64 x0]) rfl rfl rfl info_dyad ?b1 HR3.out rfl ?_; (case b1 => intro q hq; simp at hq; rcases hq with rfl | rfl | rfl <;> rfl); intro wb hbx hgx; have HX := Aside0.mk hbx; have HG := Aside0.mk hgx; clear hbx hgx))
      refine bodyPost_ret (results_dyad rfl _ _ (w.heap.size + 1 + 1) _ rfl HX.out rfl) rfl ?_
      have hb2 := below_then HB1.out.1 HB1.out.1.size HB3.out
      refine ⟨_, rfl, ?_, hb2.grown HG.out hb2.size (fun k hk => by cases hk; omega)⟩
      rw [hz, Int.add_zero]
      exact ((HD0.out.below HB3.out).grown HG.out (by omega)).lower (by omega)
    rw [decide_eq_false hz] at ZERO1
    go_upto_region 6 with (go_at_call 22; refine ZERO1.out.mono ?_; rintro e3 W3 ⟨rfl, hb⟩; have HB3 := Aside0.mk (below_then HB2.out HB2.out.size hb); clear hb)
    have s00 := (box_cell (v := .bool b0) (blk_below HX0.out HB3.out) 0 rfl).1
    have s01 := (box_cell (v := .slice A2 n2 c2) (blk_below HX0.out HB3.out) 1 rfl).1
    have s02 := (box_cell (v := .int .i64 x0) (blk_below HX0.out HB3.out) 2 rfl).1
    have s10 := (box_cell (v := .bool b1) (blk_below HX1.out HB3.out) 0 rfl).1
    have s11 := (box_cell (v := .slice A3 n3 c3) (blk_below HX1.out HB3.out) 1 rfl).1
    have s12 := (box_cell (v := .int .i64 x1) (blk_below HX1.out HB3.out) 2 rfl).1
    go_upto_region 7 with (go_at_call 71; refine (QAM.out _ _ _ (HD0.out.below HB3.out).c (HD1.out.below HB3.out).c).mono ?_; rintro e4 W4 ⟨p, q, rfl, g1, g2, hb⟩; obtain ⟨Pa, ca, rfl, _, _⟩ := g1.c; obtain ⟨Pb, cb, rfl, _, _⟩ := g2.c; have HB34 := Aside0.mk hb; have HG1 := Aside0.mk g1; have HG2 := Aside0.mk g2; clear hb g1 g2)
    have hsz3 : w.heap.size + 3 ≤ W3.heap.size := Nat.le_trans HB1.out.2 HB3.out.size
    have HPA := Aside0.mk (HG1.out.lower hsz3)
    have HPB := Aside0.mk (HG2.out.lower hsz3)
    have HB14 := Aside0.mk (below_then HB3.out HB3.out.size HB34.out)
    have HB4 := Aside0.mk (show Below w.heap.size w W4 ∧ w.heap.size + 3 ≤ W4.heap.size from ⟨below_then HB1.out.1 HB1.out.1.size HB14.out, Nat.le_trans hsz3 HB34.out.size⟩)
    have HY0 := Aside0.mk (blk_below HX0.out HB14.out)
    have HY1 := Aside0.mk (blk_below HX1.out HB14.out)
    have HY2 := Aside0.mk (blk_below HX2.out HB14.out)
    have t00 := (box_cell (v := .bool b0) HY0.out 0 rfl).1
    have t10 := (box_cell (v := .bool b1) HY1.out 0 rfl).1
    obtain ⟨j, hjE, hyv, hzv⟩ := HFM.out hy hz
    have HYV := Aside0.mk hyv
    have HZV := Aside0.mk hzv
    have HJE := Aside0.mk hjE
    have hna0 := Aside0.mk (HNZ.out hy)
    have hnb0 := Aside0.mk (HNZ2.out hz)
    have HYNE := Aside0.mk hy
    clear hyv hzv hjE hy hz hsz3
    by_cases hs : b0 = b1
    · have hse : (b0 == b1) = true := by simp [hs]
      have HVAL := Aside0.mk (show ∃ j : Nat, E = e + j ∧ y + z = sgn b0 (na + nb) * 2 ^ j from ⟨j, HJE.out, by
        rw [sgn_add, Int.add_mul]
        have q1 := HYV.out
        have q2 := HZV.out
        rw [HXZ.out.1] at q1
        rw [HXZ.out.2.2.1, ← hs] at q2
        rw [← q1, ← q2]⟩)
      clear hs
      go_upto_region 8 with fail
      obtain ⟨JX, hJX⟩ : ∃ J : (Nat → Prop) → World → Prop, J = fun L0 W => (Below w.heap.size w W ∧ w.heap.size + 3 ≤ W.heap.size) ∧ W.heap[w.heap.size]? = some (.cells #[.bool b0, .slice A2 n2 c2, .int .i64 x0] 27 (0, 0)) ∧ W.heap[w.heap.size + 1]? = some (.cells #[.bool b1, .slice A3 n3 c3, .int .i64 x1] 27 (0, 0)) ∧ PL W (w.heap.size + 3) (.slice Pa la.length ca) la ∧ PL W (w.heap.size + 3) (.slice Pb lb.length cb) lb ∧ (¬ L0 7 → W.heap[w.heap.size + 2]? = some (.cells #[.bool false, .slice none 0 0, .int .i64 0] 27 (0, 0))) ∧ (L0 7 → ∃ A2 n2 c2, W.heap[w.heap.size + 2]? = some (.cells #[.bool (cneg (y + z)), .slice A2 n2 c2, .int .i64 (cexp (y + z) (e))] 27 (0, 0)) ∧ PL W (w.heap.size + 3) (.slice A2 n2 c2) (limbs (cman (y + z)))) := ⟨_, rfl⟩
      refine wp_region_slotsL [32, 33, 34, 35, 36, 37, 38] (by kernel_rfl) (by kernel_rfl)
        (F := fun j q W => match j with | 0 => q = .pointer (some ⟨w.heap.size, 0, none⟩) | 1 => q = .bool b0 | 2 => q = .slice Pa la.length ca | 3 => q = .slice Pb lb.length cb | 4 => PL W (w.heap.size + 3) q (limbs (na + nb)) | 5 => q = .int .i64 E | 6 => PDy W (w.heap.size + 3) q (y + z) e | 7 => True | _ => True)
        (J := JX) ?h0X ?hstepX ?hendX
      case h0X =>
        rw [hJX]
        have hd := below_drew (Below.refl W4.heap.size W4)
        exact ⟨⟨below_then HB4.out.1 HB4.out.1.size hd, Nat.le_trans HB4.out.2 hd.size⟩, blk_below HY0.out hd, blk_below HY1.out hd, HPA.out.below hd, HPB.out.below hd, fun _ => blk_below HY2.out hd, fun h => h.elim⟩
      case hstepX =>
        intro k o ho v W L0 hJW hF hnk haft hcl K hK
        rw [hJX] at hJW
        obtain ⟨hBW, hb0, hb1, hx0, hx1, hold, hnew⟩ := hJW
        have hJM : ∀ (k : Nat) (w4 : World), k ≠ 7 → Below W.heap.size W w4 → JX (fun j => L0 j ∨ j = k) w4 := by
          intro k w4 hkK hb
          rw [hJX]
          refine ⟨⟨below_then hBW.1 hBW.1.size hb, Nat.le_trans hBW.2 hb.size⟩, blk_below hb0 hb, blk_below hb1 hb, hx0.below hb, hx1.below hb, fun h => blk_below (hold (fun h2 => h (.inl h2))) hb, fun h => ?_⟩
          obtain ⟨A2, n2, c2, y1, y2⟩ := hnew (h.resolve_right (fun e => hkK e.symm))
          exact ⟨A2, n2, c2, blk_below y1 hb, y2.below hb⟩
        have HJM := Aside0.mk hJM
        have HOLD := Aside0.mk hold
        clear hold hnew
        clear hJM hcl
        rcases k with _ | _ | _ | _ | _ | _ | _ | _ | k
        all_goals first
          | (cases ho; done)
          | (obtain rfl := (Option.some.inj ho).symm
             clear ho
             rw [if_pos (by rfl)]
             simp only [setAll, List.setIfInBounds_toArray, List.set_cons_zero, List.set_cons_succ, List.getElem_toArray, List.getElem_cons_zero, List.getElem_cons_succ, Nat.reduceAdd] at haft hF hK ⊢)
        case zero =>
          have key := hK.out (.pointer (some ⟨w.heap.size, 0, none⟩)) W (HJM.out 0 W (by decide) (Below.refl _ _)) (fun _ _ h => h) rfl
          go_simp
          simpa [upd] using key
        case succ.zero =>
          have f0 : v 0 = .pointer (some ⟨w.heap.size, 0, none⟩) := hF 0 (haft { on := 0, ground := .data } (by simp) rfl)
          have cc := (box_cell (v := .bool b0) hb0 0 rfl).1
          have key := hK.out (.bool b0) W (HJM.out 1 W (by decide) (Below.refl _ _)) (fun _ _ h => h) rfl
          go_simp
          simpa [upd, f0] using key
        case succ.succ.zero =>
          have key := hK.out (.slice Pa la.length ca) W (HJM.out 2 W (by decide) (Below.refl _ _)) (fun _ _ h => h) rfl
          go_simp
          simpa [upd] using key
        case succ.succ.succ.zero =>
          have key := hK.out (.slice Pb lb.length cb) W (HJM.out 3 W (by decide) (Below.refl _ _)) (fun _ _ h => h) rfl
          go_simp
          simpa [upd] using key
        case succ.succ.succ.succ.zero =>
          have f2 : v 2 = .slice Pa la.length ca := hF 2 (haft { on := 2, ground := .data } (by simp) rfl)
          have f3 : v 3 = .slice Pb lb.length cb := hF 3 (haft { on := 3, ground := .data } (by simp) rfl)
          go_simp
          go_at_call 99
          refine (QADD.out Pa Pb ca cb W hx0.cc.1 hx1.cc.1 hx0.cc.2 hx1.cc.2).mono ?_
          rintro en w4 ⟨v1, rfl, hr, hb⟩
          have key := hK.out (v1) w4 (HJM.out 4 w4 (by decide) hb) ?monoX_4 (hr.lower hBW.2)
          · simpa [upd, f2, f3] using key
          intro j hj hf
          rcases j with _ | _ | _ | _ | _ | _ | _ | _ | j <;> first | exact hf | exact PDy.below hf hb | exact PL.below hf hb | exact Two.below hf hb | exact RDy.below hf hb
        case succ.succ.succ.succ.succ.zero =>
          have key := hK.out (.int .i64 E) W (HJM.out 5 W (by decide) (Below.refl _ _)) (fun _ _ h => h) rfl
          go_simp
          simpa [upd] using key
        case succ.succ.succ.succ.succ.succ.zero =>
          have f1 : v 1 = .bool b0 := hF 1 (haft { on := 1, ground := .data } (by simp) rfl)
          have f4 : PL W (w.heap.size + 3) (v 4) (limbs (na + nb)) := hF 4 (haft { on := 4, ground := .data } (by simp) rfl)
          have f5 : v 5 = .int .i64 E := hF 5 (haft { on := 5, ground := .data } (by simp) rfl)
          obtain ⟨A8, c8, f4v, hc8, hC8⟩ := f4.c
          have hm := QF.out b0 (na + nb) (Nat.le_refl _) HVAL.out A8 c8 W hBW.1 hC8 hc8
          go_simp
          go_at_call 43
          refine hm.mono ?_
          rintro en w4 ⟨v1, rfl, hr, hb⟩
          have key := hK.out (v1) w4 (HJM.out 6 w4 (by decide) hb) ?monoX_6 (hr.lower hBW.2)
          · simpa [upd, f1, f5, f4v] using key
          intro j hj hf
          rcases j with _ | _ | _ | _ | _ | _ | _ | _ | j <;> first | exact hf | exact PDy.below hf hb | exact PL.below hf hb | exact Two.below hf hb | exact RDy.below hf hb
        case succ.succ.succ.succ.succ.succ.succ.zero =>
          have fz : PDy W (w.heap.size + 3) (v 6) (y + z) (e) := hF 6 (haft { on := 6, ground := .data } (by simp) rfl)
          obtain ⟨A3, n3, c3, fz2, _⟩ := id fz
          refine wp_store_box 27 4 (.tmp 38) rfl rfl (g := w.heap.size + 2) (e := 27) (v 6) [.bool (cneg (y + z)), .slice A3 n3 c3, .int .i64 (cexp (y + z) (e))] rfl rfl (by rw [fz2]; rfl) info_dyad ?_ (HOLD.out hnk) rfl ?_
          · intro q hq; simp at hq; rcases hq with rfl | rfl | rfl <;> rfl
          · intro w1 hw1 hg1
            have hn2 := fz.grown hg1 (by omega)
            obtain ⟨A4, n4, c4, fz4, hr4⟩ := hn2
            rw [fz2] at fz4
            injection fz4 with fz4
            simp at fz4
            obtain ⟨rfl, rfl, rfl⟩ := fz4
            have key := hK.out undef w1 (by rw [hJX]; exact ⟨⟨hBW.1.grown hg1 hBW.1.size (fun k hk => by have := Option.some.inj hk; omega), Nat.le_trans hBW.2 hg1.size⟩, (hg1.block _ (blk_lt hb0) (fun he => by have := Option.some.inj he; omega)).trans hb0, (hg1.block _ (blk_lt hb1) (fun he => by have := Option.some.inj he; omega)).trans hb1, hx0.grown hg1 (by omega), hx1.grown hg1 (by omega), fun h => (h (by simp)).elim, fun _ => ⟨_, _, _, hw1, hr4⟩⟩) ?mstX trivial
            · simpa [upd] using key
            intro j hj hf
            rcases j with _ | _ | _ | _ | _ | _ | _ | _ | j <;> first | exact hf | exact PDy.grown hf hg1 (by omega) | exact PL.grown hf hg1 (by omega)
      case hendX =>
        intro v W L0 hall hJW hF
        rw [hJX] at hJW
        obtain ⟨hBW, _, _, _, _, _, hnew⟩ := hJW
        obtain ⟨A7, n7, c7, p1, p2⟩ := hnew (hall 7 (by decide))
        have P1 := Aside0.mk p1
        have P2 := Aside0.mk (p2.lower (b' := w.heap.size) (by omega))
        have BF := Aside0.mk hBW.1
        clear hF hall hnew p1 p2 hBW
        simp only [setAll, List.setIfInBounds_toArray, List.set_cons_zero, List.set_cons_succ, Nat.reduceAdd]
        go_wp2
        refine bodyPost_ret (results_dyad rfl _ _ (w.heap.size + 1 + 1) _ rfl P1.out rfl) rfl ?_
        exact ⟨_, rfl, ⟨A7, n7, c7, rfl, P2.out⟩, BF.out⟩
    · have hse : (b0 == b1) = false := by simpa using hs
      go_upto_region 9 with fail
      have HCC := Aside0.mk (QC.out Pa Pb ca cb W4 HPA.out.cc.1 HPB.out.cc.1 HPA.out.cc.2 HPB.out.cc.2)
      by_cases hle : nb ≤ na
      · have hge : decide ((0 : Int) ≤ cmpN na nb) = true := decide_eq_true (by unfold cmpN; rw [if_neg (by omega)]; split <;> decide)
        have HVAL := Aside0.mk (show ∃ j : Nat, E = e + j ∧ y + z = sgn b0 (na - nb) * 2 ^ j from ⟨j, HJE.out, by
          rw [sgn_sub hs hle, Int.add_mul]
          have q1 := HYV.out
          have q2 := HZV.out
          rw [HXZ.out.1] at q1
          rw [HXZ.out.2.2.1] at q2
          rw [← q1, ← q2]⟩)
        obtain ⟨cc, hcc⟩ : ∃ c, c = cmpN na nb := ⟨_, rfl⟩
        rw [← hcc] at hge HCC
        have HLE := Aside0.mk hle
        clear hs hle hcc
        go_upto_region 10 with (go_at_call 73; refine HCC.out.mono ?_; rintro e5 w5 ⟨rfl, n5, rfl⟩)
        obtain ⟨JY, hJY⟩ : ∃ J : (Nat → Prop) → World → Prop, J = fun L0 W => (Below w.heap.size w W ∧ w.heap.size + 3 ≤ W.heap.size) ∧ W.heap[w.heap.size]? = some (.cells #[.bool b0, .slice A2 n2 c2, .int .i64 x0] 27 (0, 0)) ∧ W.heap[w.heap.size + 1]? = some (.cells #[.bool b1, .slice A3 n3 c3, .int .i64 x1] 27 (0, 0)) ∧ PL W (w.heap.size + 3) (.slice Pa la.length ca) la ∧ PL W (w.heap.size + 3) (.slice Pb lb.length cb) lb ∧ (¬ L0 7 → W.heap[w.heap.size + 2]? = some (.cells #[.bool false, .slice none 0 0, .int .i64 0] 27 (0, 0))) ∧ (L0 7 → ∃ A2 n2 c2, W.heap[w.heap.size + 2]? = some (.cells #[.bool (cneg (y + z)), .slice A2 n2 c2, .int .i64 (cexp (y + z) (e))] 27 (0, 0)) ∧ PL W (w.heap.size + 3) (.slice A2 n2 c2) (limbs (cman (y + z)))) := ⟨_, rfl⟩
        refine wp_region_slotsL [43, 44, 45, 46, 47, 48, 49] (by kernel_rfl) (by kernel_rfl)
          (F := fun j q W => match j with | 0 => q = .pointer (some ⟨w.heap.size, 0, none⟩) | 1 => q = .bool b0 | 2 => q = .slice Pa la.length ca | 3 => q = .slice Pb lb.length cb | 4 => PL W (w.heap.size + 3) q (limbs (na - nb)) | 5 => q = .int .i64 E | 6 => PDy W (w.heap.size + 3) q (y + z) e | 7 => True | _ => True)
          (J := JY) ?h0Y ?hstepY ?hendY
        case h0Y =>
          rw [hJY]
          have hd := below_drew (pw_below_drewN (Below.refl W4.heap.size W4) n5)
          exact ⟨⟨below_then HB4.out.1 HB4.out.1.size hd, Nat.le_trans HB4.out.2 hd.size⟩, blk_below HY0.out hd, blk_below HY1.out hd, HPA.out.below hd, HPB.out.below hd, fun _ => blk_below HY2.out hd, fun h => h.elim⟩
        case hstepY =>
          intro k o ho v W L0 hJW hF hnk haft hcl K hK
          rw [hJY] at hJW
          obtain ⟨hBW, hb0, hb1, hx0, hx1, hold, hnew⟩ := hJW
          have hJM : ∀ (k : Nat) (w4 : World), k ≠ 7 → Below W.heap.size W w4 → JY (fun j => L0 j ∨ j = k) w4 := by
            intro k w4 hkK hb
            rw [hJY]
            refine ⟨⟨below_then hBW.1 hBW.1.size hb, Nat.le_trans hBW.2 hb.size⟩, blk_below hb0 hb, blk_below hb1 hb, hx0.below hb, hx1.below hb, fun h => blk_below (hold (fun h2 => h (.inl h2))) hb, fun h => ?_⟩
            obtain ⟨A2, n2, c2, y1, y2⟩ := hnew (h.resolve_right (fun e => hkK e.symm))
            exact ⟨A2, n2, c2, blk_below y1 hb, y2.below hb⟩
          have HJM := Aside0.mk hJM
          have HOLD := Aside0.mk hold
          clear hold hnew
          clear hJM hcl
          rcases k with _ | _ | _ | _ | _ | _ | _ | _ | k
          all_goals first
            | (cases ho; done)
            | (obtain rfl := (Option.some.inj ho).symm
               clear ho
               rw [if_pos (by rfl)]
               simp only [setAll, List.setIfInBounds_toArray, List.set_cons_zero, List.set_cons_succ, List.getElem_toArray, List.getElem_cons_zero, List.getElem_cons_succ, Nat.reduceAdd] at haft hF hK ⊢)
          case zero =>
            have key := hK.out (.pointer (some ⟨w.heap.size, 0, none⟩)) W (HJM.out 0 W (by decide) (Below.refl _ _)) (fun _ _ h => h) rfl
            go_simp
            simpa [upd] using key
          case succ.zero =>
            have f0 : v 0 = .pointer (some ⟨w.heap.size, 0, none⟩) := hF 0 (haft { on := 0, ground := .data } (by simp) rfl)
            have cc := (box_cell (v := .bool b0) hb0 0 rfl).1
            have key := hK.out (.bool b0) W (HJM.out 1 W (by decide) (Below.refl _ _)) (fun _ _ h => h) rfl
            go_simp
            simpa [upd, f0] using key
          case succ.succ.zero =>
            have key := hK.out (.slice Pa la.length ca) W (HJM.out 2 W (by decide) (Below.refl _ _)) (fun _ _ h => h) rfl
            go_simp
            simpa [upd] using key
          case succ.succ.succ.zero =>
            have key := hK.out (.slice Pb lb.length cb) W (HJM.out 3 W (by decide) (Below.refl _ _)) (fun _ _ h => h) rfl
            go_simp
            simpa [upd] using key
          case succ.succ.succ.succ.zero =>
            have f2 : v 2 = .slice Pa la.length ca := hF 2 (haft { on := 2, ground := .data } (by simp) rfl)
            have f3 : v 3 = .slice Pb lb.length cb := hF 3 (haft { on := 3, ground := .data } (by simp) rfl)
            go_simp
            go_at_call 100
            refine (QS1.out HLE.out hna0.out Pa Pb ca cb W hx0.cc.1 hx1.cc.1 hx0.cc.2 hx1.cc.2).mono ?_
            rintro en w4 ⟨v1, rfl, hr, hb⟩
            have key := hK.out (v1) w4 (HJM.out 4 w4 (by decide) hb) ?monoY_4 (hr.lower hBW.2)
            · simpa [upd, f2, f3] using key
            intro j hj hf
            rcases j with _ | _ | _ | _ | _ | _ | _ | _ | j <;> first | exact hf | exact PDy.below hf hb | exact PL.below hf hb | exact Two.below hf hb | exact RDy.below hf hb
          case succ.succ.succ.succ.succ.zero =>
            have key := hK.out (.int .i64 E) W (HJM.out 5 W (by decide) (Below.refl _ _)) (fun _ _ h => h) rfl
            go_simp
            simpa [upd] using key
          case succ.succ.succ.succ.succ.succ.zero =>
            have f1 : v 1 = .bool b0 := hF 1 (haft { on := 1, ground := .data } (by simp) rfl)
            have f4 : PL W (w.heap.size + 3) (v 4) (limbs (na - nb)) := hF 4 (haft { on := 4, ground := .data } (by simp) rfl)
            have f5 : v 5 = .int .i64 E := hF 5 (haft { on := 5, ground := .data } (by simp) rfl)
            obtain ⟨A8, c8, f4v, hc8, hC8⟩ := f4.c
            have hm := QF.out b0 (na - nb) (Nat.le_trans (Nat.sub_le _ _) (Nat.le_add_right _ _)) HVAL.out A8 c8 W hBW.1 hC8 hc8
            go_simp
            go_at_call 43
            refine hm.mono ?_
            rintro en w4 ⟨v1, rfl, hr, hb⟩
            have key := hK.out (v1) w4 (HJM.out 6 w4 (by decide) hb) ?monoY_6 (hr.lower hBW.2)
            · simpa [upd, f1, f5, f4v] using key
            intro j hj hf
            rcases j with _ | _ | _ | _ | _ | _ | _ | _ | j <;> first | exact hf | exact PDy.below hf hb | exact PL.below hf hb | exact Two.below hf hb | exact RDy.below hf hb
          case succ.succ.succ.succ.succ.succ.succ.zero =>
            have fz : PDy W (w.heap.size + 3) (v 6) (y + z) (e) := hF 6 (haft { on := 6, ground := .data } (by simp) rfl)
            obtain ⟨A3, n3, c3, fz2, _⟩ := id fz
            refine wp_store_box 27 4 (.tmp 49) rfl rfl (g := w.heap.size + 2) (e := 27) (v 6) [.bool (cneg (y + z)), .slice A3 n3 c3, .int .i64 (cexp (y + z) (e))] rfl rfl (by rw [fz2]; rfl) info_dyad ?_ (HOLD.out hnk) rfl ?_
            · intro q hq; simp at hq; rcases hq with rfl | rfl | rfl <;> rfl
            · intro w1 hw1 hg1
              have hn2 := fz.grown hg1 (by omega)
              obtain ⟨A4, n4, c4, fz4, hr4⟩ := hn2
              rw [fz2] at fz4
              injection fz4 with fz4
              simp at fz4
              obtain ⟨rfl, rfl, rfl⟩ := fz4
              have key := hK.out undef w1 (by rw [hJY]; exact ⟨⟨hBW.1.grown hg1 hBW.1.size (fun k hk => by have := Option.some.inj hk; omega), Nat.le_trans hBW.2 hg1.size⟩, (hg1.block _ (blk_lt hb0) (fun he => by have := Option.some.inj he; omega)).trans hb0, (hg1.block _ (blk_lt hb1) (fun he => by have := Option.some.inj he; omega)).trans hb1, hx0.grown hg1 (by omega), hx1.grown hg1 (by omega), fun h => (h (by simp)).elim, fun _ => ⟨_, _, _, hw1, hr4⟩⟩) ?mstY trivial
              · simpa [upd] using key
              intro j hj hf
              rcases j with _ | _ | _ | _ | _ | _ | _ | _ | j <;> first | exact hf | exact PDy.grown hf hg1 (by omega) | exact PL.grown hf hg1 (by omega)
        case hendY =>
          intro v W L0 hall hJW hF
          rw [hJY] at hJW
          obtain ⟨hBW, _, _, _, _, _, hnew⟩ := hJW
          obtain ⟨A7, n7, c7, p1, p2⟩ := hnew (hall 7 (by decide))
          have P1 := Aside0.mk p1
          have P2 := Aside0.mk (p2.lower (b' := w.heap.size) (by omega))
          have BF := Aside0.mk hBW.1
          clear hF hall hnew p1 p2 hBW
          simp only [setAll, List.setIfInBounds_toArray, List.set_cons_zero, List.set_cons_succ, Nat.reduceAdd]
          go_wp2
          refine bodyPost_ret (results_dyad rfl _ _ (w.heap.size + 1 + 1) _ rfl P1.out rfl) rfl ?_
          exact ⟨_, rfl, ⟨A7, n7, c7, rfl, P2.out⟩, BF.out⟩
      · have hge : decide ((0 : Int) ≤ cmpN na nb) = false := decide_eq_false (by unfold cmpN; rw [if_pos (by omega)]; decide)
        have HVAL := Aside0.mk (show ∃ j : Nat, E = e + j ∧ y + z = sgn b1 (nb - na) * 2 ^ j from ⟨j, HJE.out, by
          rw [sgn_sub (Ne.symm hs) (show na ≤ nb by omega), Int.add_mul]
          have q1 := HYV.out
          have q2 := HZV.out
          rw [HXZ.out.1] at q1
          rw [HXZ.out.2.2.1] at q2
          rw [← q1, ← q2, Int.add_comm]⟩)
        obtain ⟨cc, hcc⟩ : ∃ c, c = cmpN na nb := ⟨_, rfl⟩
        rw [← hcc] at hge HCC
        have HLE := Aside0.mk (show na ≤ nb by omega)
        clear hs hle hcc
        go_upto_region 11 with (go_at_call 73; refine HCC.out.mono ?_; rintro e5 w5 ⟨rfl, n5, rfl⟩)
        obtain ⟨JZ, hJZ⟩ : ∃ J : (Nat → Prop) → World → Prop, J = fun L0 W => (Below w.heap.size w W ∧ w.heap.size + 3 ≤ W.heap.size) ∧ W.heap[w.heap.size]? = some (.cells #[.bool b0, .slice A2 n2 c2, .int .i64 x0] 27 (0, 0)) ∧ W.heap[w.heap.size + 1]? = some (.cells #[.bool b1, .slice A3 n3 c3, .int .i64 x1] 27 (0, 0)) ∧ PL W (w.heap.size + 3) (.slice Pa la.length ca) la ∧ PL W (w.heap.size + 3) (.slice Pb lb.length cb) lb ∧ (¬ L0 7 → W.heap[w.heap.size + 2]? = some (.cells #[.bool false, .slice none 0 0, .int .i64 0] 27 (0, 0))) ∧ (L0 7 → ∃ A2 n2 c2, W.heap[w.heap.size + 2]? = some (.cells #[.bool (cneg (y + z)), .slice A2 n2 c2, .int .i64 (cexp (y + z) (e))] 27 (0, 0)) ∧ PL W (w.heap.size + 3) (.slice A2 n2 c2) (limbs (cman (y + z)))) := ⟨_, rfl⟩
        refine wp_region_slotsL [50, 51, 52, 53, 54, 55, 56] (by kernel_rfl) (by kernel_rfl)
          (F := fun j q W => match j with | 0 => q = .pointer (some ⟨w.heap.size + 1, 0, none⟩) | 1 => q = .bool b1 | 2 => q = .slice Pb lb.length cb | 3 => q = .slice Pa la.length ca | 4 => PL W (w.heap.size + 3) q (limbs (nb - na)) | 5 => q = .int .i64 E | 6 => PDy W (w.heap.size + 3) q (y + z) e | 7 => True | _ => True)
          (J := JZ) ?h0Z ?hstepZ ?hendZ
        case h0Z =>
          rw [hJZ]
          have hd := below_drew (pw_below_drewN (Below.refl W4.heap.size W4) n5)
          exact ⟨⟨below_then HB4.out.1 HB4.out.1.size hd, Nat.le_trans HB4.out.2 hd.size⟩, blk_below HY0.out hd, blk_below HY1.out hd, HPA.out.below hd, HPB.out.below hd, fun _ => blk_below HY2.out hd, fun h => h.elim⟩
        case hstepZ =>
          intro k o ho v W L0 hJW hF hnk haft hcl K hK
          rw [hJZ] at hJW
          obtain ⟨hBW, hb0, hb1, hx0, hx1, hold, hnew⟩ := hJW
          have hJM : ∀ (k : Nat) (w4 : World), k ≠ 7 → Below W.heap.size W w4 → JZ (fun j => L0 j ∨ j = k) w4 := by
            intro k w4 hkK hb
            rw [hJZ]
            refine ⟨⟨below_then hBW.1 hBW.1.size hb, Nat.le_trans hBW.2 hb.size⟩, blk_below hb0 hb, blk_below hb1 hb, hx0.below hb, hx1.below hb, fun h => blk_below (hold (fun h2 => h (.inl h2))) hb, fun h => ?_⟩
            obtain ⟨A2, n2, c2, y1, y2⟩ := hnew (h.resolve_right (fun e => hkK e.symm))
            exact ⟨A2, n2, c2, blk_below y1 hb, y2.below hb⟩
          have HJM := Aside0.mk hJM
          have HOLD := Aside0.mk hold
          clear hold hnew
          clear hJM hcl
          rcases k with _ | _ | _ | _ | _ | _ | _ | _ | k
          all_goals first
            | (cases ho; done)
            | (obtain rfl := (Option.some.inj ho).symm
               clear ho
               rw [if_pos (by rfl)]
               simp only [setAll, List.setIfInBounds_toArray, List.set_cons_zero, List.set_cons_succ, List.getElem_toArray, List.getElem_cons_zero, List.getElem_cons_succ, Nat.reduceAdd] at haft hF hK ⊢)
          case zero =>
            have key := hK.out (.pointer (some ⟨w.heap.size + 1, 0, none⟩)) W (HJM.out 0 W (by decide) (Below.refl _ _)) (fun _ _ h => h) rfl
            go_simp
            simpa [upd] using key
          case succ.zero =>
            have f0 : v 0 = .pointer (some ⟨w.heap.size + 1, 0, none⟩) := hF 0 (haft { on := 0, ground := .data } (by simp) rfl)
            have cc := (box_cell (v := .bool b1) hb1 0 rfl).1
            have key := hK.out (.bool b1) W (HJM.out 1 W (by decide) (Below.refl _ _)) (fun _ _ h => h) rfl
            go_simp
            simpa [upd, f0] using key
          case succ.succ.zero =>
            have key := hK.out (.slice Pb lb.length cb) W (HJM.out 2 W (by decide) (Below.refl _ _)) (fun _ _ h => h) rfl
            go_simp
            simpa [upd] using key
          case succ.succ.succ.zero =>
            have key := hK.out (.slice Pa la.length ca) W (HJM.out 3 W (by decide) (Below.refl _ _)) (fun _ _ h => h) rfl
            go_simp
            simpa [upd] using key
          case succ.succ.succ.succ.zero =>
            have f2 : v 2 = .slice Pb lb.length cb := hF 2 (haft { on := 2, ground := .data } (by simp) rfl)
            have f3 : v 3 = .slice Pa la.length ca := hF 3 (haft { on := 3, ground := .data } (by simp) rfl)
            go_simp
            go_at_call 100
            refine (QS2.out HLE.out hnb0.out Pa Pb ca cb W hx0.cc.1 hx1.cc.1 hx0.cc.2 hx1.cc.2).mono ?_
            rintro en w4 ⟨v1, rfl, hr, hb⟩
            have key := hK.out (v1) w4 (HJM.out 4 w4 (by decide) hb) ?monoZ_4 (hr.lower hBW.2)
            · simpa [upd, f2, f3] using key
            intro j hj hf
            rcases j with _ | _ | _ | _ | _ | _ | _ | _ | j <;> first | exact hf | exact PDy.below hf hb | exact PL.below hf hb | exact Two.below hf hb | exact RDy.below hf hb
          case succ.succ.succ.succ.succ.zero =>
            have key := hK.out (.int .i64 E) W (HJM.out 5 W (by decide) (Below.refl _ _)) (fun _ _ h => h) rfl
            go_simp
            simpa [upd] using key
          case succ.succ.succ.succ.succ.succ.zero =>
            have f1 : v 1 = .bool b1 := hF 1 (haft { on := 1, ground := .data } (by simp) rfl)
            have f4 : PL W (w.heap.size + 3) (v 4) (limbs (nb - na)) := hF 4 (haft { on := 4, ground := .data } (by simp) rfl)
            have f5 : v 5 = .int .i64 E := hF 5 (haft { on := 5, ground := .data } (by simp) rfl)
            obtain ⟨A8, c8, f4v, hc8, hC8⟩ := f4.c
            have hm := QF.out b1 (nb - na) (Nat.le_trans (Nat.sub_le _ _) (Nat.le_add_left _ _)) HVAL.out A8 c8 W hBW.1 hC8 hc8
            go_simp
            go_at_call 43
            refine hm.mono ?_
            rintro en w4 ⟨v1, rfl, hr, hb⟩
            have key := hK.out (v1) w4 (HJM.out 6 w4 (by decide) hb) ?monoZ_6 (hr.lower hBW.2)
            · simpa [upd, f1, f5, f4v] using key
            intro j hj hf
            rcases j with _ | _ | _ | _ | _ | _ | _ | _ | j <;> first | exact hf | exact PDy.below hf hb | exact PL.below hf hb | exact Two.below hf hb | exact RDy.below hf hb
          case succ.succ.succ.succ.succ.succ.succ.zero =>
            have fz : PDy W (w.heap.size + 3) (v 6) (y + z) (e) := hF 6 (haft { on := 6, ground := .data } (by simp) rfl)
            obtain ⟨A3, n3, c3, fz2, _⟩ := id fz
            refine wp_store_box 27 4 (.tmp 56) rfl rfl (g := w.heap.size + 2) (e := 27) (v 6) [.bool (cneg (y + z)), .slice A3 n3 c3, .int .i64 (cexp (y + z) (e))] rfl rfl (by rw [fz2]; rfl) info_dyad ?_ (HOLD.out hnk) rfl ?_
            · intro q hq; simp at hq; rcases hq with rfl | rfl | rfl <;> rfl
            · intro w1 hw1 hg1
              have hn2 := fz.grown hg1 (by omega)
              obtain ⟨A4, n4, c4, fz4, hr4⟩ := hn2
              rw [fz2] at fz4
              injection fz4 with fz4
              simp at fz4
              obtain ⟨rfl, rfl, rfl⟩ := fz4
              have key := hK.out undef w1 (by rw [hJZ]; exact ⟨⟨hBW.1.grown hg1 hBW.1.size (fun k hk => by have := Option.some.inj hk; omega), Nat.le_trans hBW.2 hg1.size⟩, (hg1.block _ (blk_lt hb0) (fun he => by have := Option.some.inj he; omega)).trans hb0, (hg1.block _ (blk_lt hb1) (fun he => by have := Option.some.inj he; omega)).trans hb1, hx0.grown hg1 (by omega), hx1.grown hg1 (by omega), fun h => (h (by simp)).elim, fun _ => ⟨_, _, _, hw1, hr4⟩⟩) ?mstZ trivial
              · simpa [upd] using key
              intro j hj hf
              rcases j with _ | _ | _ | _ | _ | _ | _ | _ | j <;> first | exact hf | exact PDy.grown hf hg1 (by omega) | exact PL.grown hf hg1 (by omega)
        case hendZ =>
          intro v W L0 hall hJW hF
          rw [hJZ] at hJW
          obtain ⟨hBW, _, _, _, _, _, hnew⟩ := hJW
          obtain ⟨A7, n7, c7, p1, p2⟩ := hnew (hall 7 (by decide))
          have P1 := Aside0.mk p1
          have P2 := Aside0.mk (p2.lower (b' := w.heap.size) (by omega))
          have BF := Aside0.mk hBW.1
          clear hF hall hnew p1 p2 hBW
          simp only [setAll, List.setIfInBounds_toArray, List.set_cons_zero, List.set_cons_succ, Nat.reduceAdd]
          go_wp2
          refine bodyPost_ret (results_dyad rfl _ _ (w.heap.size + 1 + 1) _ rfl P1.out rfl) rfl ?_
          exact ⟨_, rfl, ⟨A7, n7, c7, rfl, P2.out⟩, BF.out⟩
end Go.Proofs.YtgpjplelgffocaaDoor

namespace Go.Proofs.YtgpjplelgffocaaDoor
open Go.RowKit Go.Proofs.YtgpjplelgffocaaDoorW.PrintWords Limb
set_option linter.unusedVariables false
set_option linter.unusedSimpArgs false

set_option maxRecDepth 100000 in
set_option maxHeartbeats 4000000 in
theorem psub_dy (u v : Value) (y z e : Int) (w : World) (h : CDy w u y e) (h' : CDy w v z e) (hl : (limbs (cman y)).length ≤ 268435456) (hl' : (limbs (cman z)).length ≤ 268435456) (le1 : -8589934592 ≤ cexp y e) (le2 : cexp y e ≤ 8589934592) (le1' : -8589934592 ≤ cexp z e) (le2' : cexp z e ≤ 8589934592) (hT : TabAt 0 Lib.deBruijn64tab w) :
    Calls Tryd.prog 81 #[u, v] w fun en w' => ∃ v', en = .returned v' ∧ PDy w' w.heap.size v' (y - z) e ∧ Below w.heap.size w w' := by
  have QN := Aside0.mk (fun (m : World) (hm : Below w.heap.size w m) => pneg_dy v z e m (h'.below hm) (by omega) (by omega) (by omega) (tab_below hT hm))
  have QA := Aside0.mk (fun (v2 : Value) (m : World) (hm : Below w.heap.size w m) (h2 : CDy m v2 (-z) e) => (by
    have q := padd_dy u v2 y (-z) e m (h.below hm) h2 hl (by rw [cman_neg]; exact hl') le1 le2 (by rw [cexp_neg]; exact le1') (by rw [cexp_neg]; exact le2') (tab_below hT hm)
    rw [← Int.sub_eq_add_neg] at q
    exact q : Calls Tryd.prog 83 #[u, v2] m fun en w' => ∃ v', en = .returned v' ∧ PDy w' m.heap.size v' (y - z) e ∧ Below m.heap.size m w'))
  obtain ⟨A, n, c, rfl, hC, hn, hc⟩ := h
  obtain ⟨A', n', c', rfl, hC', hn', hc'⟩ := h'
  obtain ⟨x0, hx0⟩ : ∃ x, x = cexp y e := ⟨_, rfl⟩
  obtain ⟨x1, hx1⟩ : ∃ x, x = cexp z e := ⟨_, rfl⟩
  obtain ⟨b0, hb0⟩ : ∃ x, x = cneg y := ⟨_, rfl⟩
  obtain ⟨b1, hb1⟩ : ∃ x, x = cneg z := ⟨_, rfl⟩
  rw [← hx0, ← hb0] at QA
  rw [← hx1, ← hb1] at QN
  rw [← hx0, ← hb0, ← hx1, ← hb1]
  clear hC hC' hx0 hx1 hb0 hb1 hT hl hl' le1 le2 le1' le2'
  obtain ⟨W0, hW0⟩ : ∃ W0, W0 = ((w.alloc (.cells #[.bool b0, .slice A n c, .int .i64 x0] 27)).alloc (.cells #[.bool b1, .slice A' n' c', .int .i64 x1] 27)).alloc (.cells #[.bool false, .slice none 0 0, .int .i64 0] 27) := ⟨_, rfl⟩
  have hh0 : Aside0 (W0.heap[w.heap.size]? = some (.cells #[.bool b0, .slice A n c, .int .i64 x0] 27 (0, 0))) := ⟨by rw [hW0]; exact blk_alloc (blk_alloc (blk_new _ _) _) _⟩
  have hh1 : Aside0 (W0.heap[w.heap.size + 1]? = some (.cells #[.bool b1, .slice A' n' c', .int .i64 x1] 27 (0, 0))) := ⟨by rw [hW0]; have := blk_new (w.alloc (.cells #[.bool b0, .slice A n c, .int .i64 x0] 27)) (.cells #[.bool b1, .slice A' n' c', .int .i64 x1] 27); rw [size_alloc'] at this; exact blk_alloc this _⟩
  have hh2 : Aside0 (W0.heap[w.heap.size + 2]? = some (.cells #[.bool false, .slice none 0 0, .int .i64 0] 27 (0, 0))) := ⟨by rw [hW0]; have := blk_new ((w.alloc (.cells #[.bool b0, .slice A n c, .int .i64 x0] 27)).alloc (.cells #[.bool b1, .slice A' n' c', .int .i64 x1] 27)) (.cells #[.bool false, .slice none 0 0, .int .i64 0] 27); rw [size_alloc', size_alloc'] at this; exact this⟩
  have HW : Aside0 (Below w.heap.size w W0 ∧ w.heap.size + 3 ≤ W0.heap.size) := ⟨by rw [hW0]; exact ⟨below_alloc (below_alloc (below_alloc (Below.refl _ _) _) _) _, by rw [size_alloc', size_alloc', size_alloc']; exact Nat.le_refl _⟩⟩
  go_enter Tryd.func81, Tryd.ntmps81
  go_upto_region 1 with fail
  rw [← hW0]
  clear hW0
  obtain ⟨JM, hJM⟩ : ∃ J : (Nat → Prop) → World → Prop, J = fun L0 W => (Below w.heap.size w W ∧ w.heap.size + 3 ≤ W.heap.size) ∧ W.heap[w.heap.size]? = some (.cells #[.bool b0, .slice A n c, .int .i64 x0] 27 (0, 0)) ∧ W.heap[w.heap.size + 1]? = some (.cells #[.bool b1, .slice A' n' c', .int .i64 x1] 27 (0, 0)) ∧ (¬ L0 4 → W.heap[w.heap.size + 2]? = some (.cells #[.bool false, .slice none 0 0, .int .i64 0] 27 (0, 0))) ∧ (L0 4 → ∃ A2 n2 c2, W.heap[w.heap.size + 2]? = some (.cells #[.bool (cneg (y - z)), .slice A2 n2 c2, .int .i64 (cexp (y - z) (e))] 27 (0, 0)) ∧ PL W (w.heap.size + 3) (.slice A2 n2 c2) (limbs (cman (y - z)))) := ⟨_, rfl⟩
  refine wp_region_slotsL [5, 6, 7, 8] (by kernel_rfl) (by kernel_rfl)
    (F := fun j q W => match j with | 0 => q = .agg #[.bool b0, .slice A n c, .int .i64 x0] | 1 => q = .agg #[.bool b1, .slice A' n' c', .int .i64 x1] | 2 => PDy W (w.heap.size + 3) q (-z) e | 3 => PDy W (w.heap.size + 3) q (y - z) e | 4 => True | _ => True)
    (J := JM) ?h0M ?hstepM ?hendM
  case h0M =>
    rw [hJM]
    have hd := below_drew (Below.refl W0.heap.size W0)
    exact ⟨⟨below_drew HW.out.1, HW.out.2⟩, blk_below hh0.out hd, blk_below hh1.out hd, fun _ => blk_below hh2.out hd, fun h => h.elim⟩
  case hstepM =>
    intro k o ho v W L0 hJW hF hnk haft hcl K hK
    rw [hJM] at hJW
    obtain ⟨hBW, hb0, hb1, hold, hnew⟩ := hJW
    have hJM : ∀ (k : Nat) (w4 : World), k ≠ 4 → Below W.heap.size W w4 → JM (fun j => L0 j ∨ j = k) w4 := by
      intro k w4 hkK hb
      rw [hJM]
      refine ⟨⟨below_then hBW.1 hBW.1.size hb, Nat.le_trans hBW.2 hb.size⟩, blk_below hb0 hb, blk_below hb1 hb, fun h => blk_below (hold (fun h2 => h (.inl h2))) hb, fun h => ?_⟩
      obtain ⟨A2, n2, c2, y1, y2⟩ := hnew (h.resolve_right (fun e => hkK e.symm))
      exact ⟨A2, n2, c2, blk_below y1 hb, y2.below hb⟩
    have HJM := Aside0.mk hJM
    have HOLD := Aside0.mk hold
    clear hold hnew
    clear hJM hcl
    rcases k with _ | _ | _ | _ | _ | k
    all_goals first
      | (cases ho; done)
      | (obtain rfl := (Option.some.inj ho).symm
         clear ho
         rw [if_pos (by rfl)]
         simp only [setAll, List.setIfInBounds_toArray, List.set_cons_zero, List.set_cons_succ, List.getElem_toArray, List.getElem_cons_zero, List.getElem_cons_succ, Nat.reduceAdd] at haft hF hK ⊢)
    case zero =>
      have cc0 := (box_cell (v := .bool b0) hb0 0 rfl).1
      have cc1 := (box_cell (v := .slice A n c) hb0 1 rfl).1
      have cc2 := (box_cell (v := .int .i64 x0) hb0 2 rfl).1
      have key := hK.out (.agg #[.bool b0, .slice A n c, .int .i64 x0]) W (HJM.out 0 W (by decide) (Below.refl _ _)) (fun _ _ h => h) rfl
      go_simp
      simpa [upd] using key
    case succ.zero =>
      have cc0 := (box_cell (v := .bool b1) hb1 0 rfl).1
      have cc1 := (box_cell (v := .slice A' n' c') hb1 1 rfl).1
      have cc2 := (box_cell (v := .int .i64 x1) hb1 2 rfl).1
      have key := hK.out (.agg #[.bool b1, .slice A' n' c', .int .i64 x1]) W (HJM.out 1 W (by decide) (Below.refl _ _)) (fun _ _ h => h) rfl
      go_simp
      simpa [upd] using key
    case succ.succ.zero =>
      have f1 : v 1 = .agg #[.bool b1, .slice A' n' c', .int .i64 x1] := hF 1 (haft { on := 1, ground := .data } (by simp) rfl)
      go_simp
      go_at_call 98
      refine (QN.out W hBW.1).mono ?_
      rintro en w4 ⟨v1, rfl, hr, hb⟩
      have key := hK.out (v1) w4 (HJM.out 2 w4 (by decide) hb) ?monoM_2 (hr.lower hBW.2)
      · simpa [upd, f1] using key
      intro j hj hf
      rcases j with _ | _ | _ | _ | _ | j <;> first | exact hf | exact PDy.below hf hb | exact PL.below hf hb | exact Two.below hf hb | exact RDy.below hf hb
    case succ.succ.succ.zero =>
      have f0 : v 0 = .agg #[.bool b0, .slice A n c, .int .i64 x0] := hF 0 (haft { on := 0, ground := .data } (by simp) rfl)
      have f2 : PDy W (w.heap.size + 3) (v 2) (-z) e := hF 2 (haft { on := 2, ground := .data } (by simp) rfl)
      go_simp
      go_at_call 83
      refine (QA.out (v 2) W hBW.1 f2.c).mono ?_
      rintro en w4 ⟨v1, rfl, hr, hb⟩
      have key := hK.out (v1) w4 (HJM.out 3 w4 (by decide) hb) ?monoM_3 (hr.lower hBW.2)
      · simpa [upd, f0] using key
      intro j hj hf
      rcases j with _ | _ | _ | _ | _ | j <;> first | exact hf | exact PDy.below hf hb | exact PL.below hf hb | exact Two.below hf hb | exact RDy.below hf hb
    case succ.succ.succ.succ.zero =>
      have fz : PDy W (w.heap.size + 3) (v 3) (y - z) (e) := hF 3 (haft { on := 3, ground := .data } (by simp) rfl)
      obtain ⟨A3, n3, c3, fz2, _⟩ := id fz
      refine wp_store_box 27 4 (.tmp 8) rfl rfl (g := w.heap.size + 2) (e := 27) (v 3) [.bool (cneg (y - z)), .slice A3 n3 c3, .int .i64 (cexp (y - z) (e))] rfl rfl (by rw [fz2]; rfl) info_dyad ?_ (HOLD.out hnk) rfl ?_
      · intro q hq; simp at hq; rcases hq with rfl | rfl | rfl <;> rfl
      · intro w1 hw1 hg1
        have hn2 := fz.grown hg1 (by omega)
        obtain ⟨A4, n4, c4, fz4, hr4⟩ := hn2
        rw [fz2] at fz4
        injection fz4 with fz4
        simp at fz4
        obtain ⟨rfl, rfl, rfl⟩ := fz4
        have key := hK.out undef w1 (by rw [hJM]; exact ⟨⟨hBW.1.grown hg1 hBW.1.size (fun k hk => by have := Option.some.inj hk; omega), Nat.le_trans hBW.2 hg1.size⟩, (hg1.block _ (blk_lt hb0) (fun he => by have := Option.some.inj he; omega)).trans hb0, (hg1.block _ (blk_lt hb1) (fun he => by have := Option.some.inj he; omega)).trans hb1, fun h => (h (by simp)).elim, fun _ => ⟨_, _, _, hw1, hr4⟩⟩) ?mstM trivial
        · simpa [upd] using key
        intro j hj hf
        rcases j with _ | _ | _ | _ | _ | j <;> first | exact hf | exact PDy.grown hf hg1 (by omega) | exact PL.grown hf hg1 (by omega)
  case hendM =>
    intro v W L0 hall hJW hF
    rw [hJM] at hJW
    obtain ⟨hBW, _, _, _, hnew⟩ := hJW
    obtain ⟨A2, n2, c2, p1, p2⟩ := hnew (hall 4 (by decide))
    clear hF hall hnew
    have P1 := Aside0.mk p1
    have P2 := Aside0.mk (p2.lower (b' := w.heap.size) (by omega))
    have BF := Aside0.mk hBW.1
    clear p1 p2 hBW
    simp only [setAll, List.setIfInBounds_toArray, List.set_cons_zero, List.set_cons_succ, Nat.reduceAdd]
    go_wp2
    refine bodyPost_ret (results_dyad rfl _ _ (w.heap.size + 1 + 1) _ rfl P1.out rfl) rfl ?_
    exact ⟨_, rfl, ⟨A2, n2, c2, rfl, P2.out⟩, BF.out⟩
end Go.Proofs.YtgpjplelgffocaaDoor

namespace EftPure

/-- A whole number of at most 53 bits times a power of 2. -/
def Rep (n : Int) : Prop := ∃ (m : Int) (e : Nat), n = m * 2 ^ e ∧ m.natAbs ≤ 2 ^ 53

/-- r is a number of 53 bits that is nearest to n. -/
structure IsRN (n r : Int) : Prop where
  rep : Rep r
  near : ∀ x, Rep x → (r - n).natAbs ≤ (x - n).natAbs

end EftPure

namespace EftPure
open Ieee

/-- The word x is finite and stands for A units. -/
def IsF (x : Nat) (A : Int) : Prop := ∃ s m k, double.read x = .number s m ((k : Nat) - 1074 : Int) ∧ A = signed s m k ∧ m < 2 ^ 53

/-- One more, when a number is cut? -/
def oneMore (q r u : Nat) : Nat := if u < 2 * r ∨ u = 2 * r ∧ q % 2 = 1 then 1 else 0

/-- Whole numbers rounded to 53 bits, to the nearest, of two the even one. -/
def rnN (n : Nat) : Nat := (n / 2 ^ (n.log2 - 52) + oneMore (n / 2 ^ (n.log2 - 52)) (n % 2 ^ (n.log2 - 52)) (2 ^ (n.log2 - 52))) * 2 ^ (n.log2 - 52)
def rnI (n : Int) : Int := if n < 0 then -((rnN n.natAbs : Nat) : Int) else ((rnN n.natAbs : Nat) : Int)

def TT : Nat := 2098
def DD : Nat := 1074
def UU : Nat := 622
end EftPure

namespace Go.Proofs.YtgpjplelgffocaaDoor
open Go.RowKit Go.Proofs.YtgpjplelgffocaaDoorW.PrintWords Limb Ieee EftPure
set_option linter.unusedVariables false
set_option linter.unusedSimpArgs false

theorem info_fields : (Tryd.prog.info? 63).map (·.size) = some 3 := by kernel_rfl
theorem results_dyad_tmp {fn : Func} {p u : Tmp} (h : fn.results = #[.cell p 27, .tmp u]) (tmps : Array Value) (w : World) (g : Nat) (cs : Array Value) (hp : tmps.getD p undef = .pointer (some ⟨g, 0, none⟩)) (hg : w.heap[g]? = some (.cells cs 27 (0, 0))) (hs : cs.size = 3) :
    (results fn tmps).run Tryd.prog w = .ok (.tuple #[.agg cs, tmps.getD u undef]) w := by
  obtain ⟨d, hu, hd⟩ := under_dyad
  refine results_ct h tmps w g _ cs (0, 0) d hp hg hu ?_ (by rw [hs]; exact info_dyad)
  revert hu hd
  cases d <;> intro hu hd <;> first | rfl | cases hd

end Go.Proofs.YtgpjplelgffocaaDoor

namespace Go.Proofs.YtgpjplelgffocaaDoor
open Go.RowKit Go.Proofs.YtgpjplelgffocaaDoorW.PrintWords Limb Ieee EftPure
set_option linter.unusedVariables false
set_option linter.unusedSimpArgs false

/-- A finite word's number, in units of 2^-1074. -/
def valI (x : Nat) : Int := sgn (decide (9223372036854775808 ≤ x)) ((if x / 4503599627370496 % 2048 = 0 then x % 4503599627370496 else 4503599627370496 + x % 4503599627370496) * 2 ^ (x / 4503599627370496 % 2048 - 1))
theorem and_mod (x n : Nat) (hx : x < 18446744073709551616) (h1 : 2 ^ n - 1 < 18446744073709551616) : bits .and .u64 (x : Int) ((2 ^ n - 1 : Nat) : Int) = ((x % 2 ^ n : Nat) : Int) := by
  have h := u64_and_nat x (2 ^ n - 1) hx h1
  rw [Nat.and_two_pow_sub_one_eq_mod] at h
  exact h
theorem and_2047 (x : Nat) (hx : x < 18446744073709551616) : bits .and .u64 (x : Int) 2047 = ((x % 2048 : Nat) : Int) := by
  have h := and_mod x 11 hx (by decide)
  have e : (2 ^ 11 : Nat) = 2048 := by decide
  rw [e] at h
  have e2 : ((2048 - 1 : Nat) : Int) = 2047 := by omega
  rw [e2] at h
  exact h
theorem and_frac (x : Nat) (hx : x < 18446744073709551616) : bits .and .u64 (x : Int) 4503599627370495 = ((x % 4503599627370496 : Nat) : Int) := by
  have h := and_mod x 52 hx (by decide)
  have e : (2 ^ 52 : Nat) = 4503599627370496 := by decide
  rw [e] at h
  have e2 : ((4503599627370496 - 1 : Nat) : Int) = 4503599627370495 := by omega
  rw [e2] at h
  exact h
theorem or_add (f : Nat) (hf : f < 4503599627370496) : bits .or .u64 (f : Int) 4503599627370496 = ((4503599627370496 + f : Nat) : Int) := by
  have h := u64_or_nat f 4503599627370496 (by omega) (by decide)
  have e := Nat.two_pow_add_eq_or_of_lt (i := 52) hf 1
  have e1 : (2 ^ 52 : Nat) * 1 = 4503599627370496 := by decide
  rw [e1] at e
  rw [Nat.or_comm, ← e] at h
  exact h

theorem ne2047 {E : Nat} (h : E ≤ 2046) : ((E : Int) == 2047) = false := by simp; omega
theorem ne00 {E : Nat} (h : ¬ E = 0) : ((E : Int) == 0) = false := by simp; omega
theorem sub1075 {E k : Nat} (h : ¬ E = 0) (hk : k = E - 1) : (E : Int) - 1075 = -1074 + (k : Int) := by omega
theorem lt64 {F M : Nat} (h : F < 4503599627370496) (hM : M = 4503599627370496 + F) : M < 18446744073709551616 := by omega
theorem wr1075 {E k : Nat} (h : E ≤ 2046) (h1 : (E : Int) - 1075 = -1074 + (k : Int)) : wrap64 ((E : Int) - 1075) = -1074 + (k : Int) := by unfold wrap64; omega
theorem k2046 {E k : Nat} (h : E ≤ 2046) (hk : k = E - 1) : k ≤ 2046 := by omega
theorem wr0 {E : Nat} (h : E ≤ 2046) : wrap64 (E : Int) = (E : Int) := by unfold wrap64; omega
theorem lt52 {F : Nat} (h : F < 4503599627370496) : F < 18446744073709551616 := by omega
theorem ex2000 {k : Nat} (h : k ≤ 2046) : (-2000 : Int) ≤ -1074 + (k : Int) ∧ (-1074 + (k : Int)) ≤ 2000 := by omega

set_option maxHeartbeats 4000000 in
theorem pfrom_any (x : Nat) (hx : x < 18446744073709551616) (hf : x % 9223372036854775808 < 9218868437227405312) (w : World) (hT : TabAt 0 Lib.deBruijn64tab w) :
    Calls Tryd.prog 20 #[.int .u64 (x : Int)] w fun e w' => ∃ v, e = .returned (.tuple #[v, .int .i64 0]) ∧ PDy w' w.heap.size v (valI x) (-1074) ∧ Below w.heap.size w w' := by
  have HVAL := Aside0.mk (show valI x = sgn (decide (9223372036854775808 ≤ x)) ((if x / 4503599627370496 % 2048 = 0 then x % 4503599627370496 else 4503599627370496 + x % 4503599627370496) * 2 ^ (x / 4503599627370496 % 2048 - 1)) from rfl)
  obtain ⟨F, hF⟩ : ∃ r, r = x % 4503599627370496 := ⟨_, rfl⟩
  obtain ⟨q, hq⟩ : ∃ r, r = x / 4503599627370496 := ⟨_, rfl⟩
  obtain ⟨E, hE⟩ : ∃ r, r = q % 2048 := ⟨_, rfl⟩
  obtain ⟨t, ht⟩ : ∃ r, r = x / 9223372036854775808 := ⟨_, rfl⟩
  obtain ⟨b, hb⟩ : ∃ b, b = decide (9223372036854775808 ≤ x) := ⟨_, rfl⟩
  have e1 : (x : Int) / 4503599627370496 = (q : Int) := by omega
  have e2 : bits .and .u64 (q : Int) 2047 = (E : Int) := by rw [hE]; exact and_2047 q (by omega)
  have e3 : bits .and .u64 (x : Int) 4503599627370495 = (F : Int) := by rw [hF]; exact and_frac x hx
  have e4 : (x : Int) / 9223372036854775808 = (t : Int) := by omega
  have e5 : ((t : Int) == 1) = b := by rw [hb, Bool.eq_iff_iff]; simp; omega
  have hE1 : E ≤ 2046 := by omega
  have hF1 : F < 4503599627370496 := by omega
  have e6 : bits .or .u64 (F : Int) 4503599627370496 = ((4503599627370496 + F : Nat) : Int) := or_add F hF1
  have e7 : wrap64 (E : Int) = (E : Int) := wr0 hE1
  have h2047 : ((E : Int) == 2047) = false := ne2047 hE1
  rw [← hF, ← hq, ← hE, ← hb] at HVAL
  obtain ⟨v0, hv0⟩ : ∃ v, v = valI x := ⟨_, rfl⟩
  rw [← hv0] at HVAL ⊢
  clear hF hq hE ht hb hv0 hf
  have QF := Aside0.mk (fun (m : Nat) (ex : Int) (hm : m < 18446744073709551616) (hex1 : -2000 ≤ ex) (hex2 : ex ≤ 2000) (A : Option Addr) (W : World) (hW : Below w.heap.size w W) (hC : kU.C W A 1 [m]) => (by
    have q := pform_any b [m] A 1 1 ex rfl W hC (Nat.le_refl _) (.cons hm .nil) (show 1 ≤ 1073741824 by omega) (by omega) (by omega) (tab_below hT hW)
    rw [show nv [m] = m by simp [nv]] at q
    exact q : Calls Tryd.prog 43 #[.bool b, .slice A 1 1, .int .i64 ex] W fun e w' => ∃ v, e = .returned v ∧ PDy w' W.heap.size v (sgn b m) ex ∧ Below W.heap.size W w'))
  by_cases hE0 : E = 0
  · subst hE0
    have HV := Aside0.mk (show v0 = sgn b F by rw [HVAL.out, if_pos rfl]; simp)
    go_enter Tryd.func20, Tryd.ntmps20
    go_wp2_with (first
      | (go_at_call 43; refine (QF.out F (-1074) (lt52 hF1) (by decide) (by decide) _ _ (below_alloc (below_alloc (Below.refl _ _) _) _) ?hC).mono ?_; (case hC => have h := (Kd.R_reads' (row_one (w.alloc (.cells #[.bool false, .slice none 0 0, .int .i64 0] 27)) (F))).2.2; rw [size_alloc'] at h; exact h); rintro e1 w1 ⟨v1, rfl, hr0, hb⟩; have HR0 := Aside0.mk (hr0.lower (b' := w.heap.size + 2) (by simp only [size_alloc']; exact Nat.le_refl _)); obtain ⟨A2, n2, c2, rfl, hr⟩ := hr0; clear hr; have HB := Aside0.mk (below_then (below_alloc (below_alloc (Below.refl w.heap.size w) _) _) (below_alloc (below_alloc (Below.refl w.heap.size w) _) _).size hb); have HH := Aside0.mk (blk_below (blk_alloc (blk_new w _) _) hb); clear hb)
      | ((with_reducible refine gate_store (p := 2) rfl ?_); go_must (refine store_box 27 2 (.tmp 27) rfl rfl rfl (g := w.heap.size) (e := 27) (.agg #[.bool (cneg (sgn b F)), .slice A2 n2 c2, .int .i64 (cexp (sgn b F) (-1074))]) ([.bool (cneg (sgn b F)), .slice A2 n2 c2, .int .i64 (cexp (sgn b F) (-1074))]) rfl rfl rfl info_dyad ?b1 HH.out rfl ?_; (case b1 => intro q hq; simp at hq; rcases hq with rfl | rfl | rfl <;> rfl); intro wb hbx hgx; have HX := Aside0.mk hbx; have HG := Aside0.mk hgx; clear hbx hgx)))
    refine bodyPost_ret (results_dyad_tmp rfl _ _ w.heap.size _ rfl HX.out rfl) rfl ?_
    refine ⟨_, rfl, ?_, HB.out.grown HG.out HB.out.size (fun k hk => by cases hk; exact Nat.le_refl _)⟩
    rw [HV.out]
    exact PDy.lower (PDy.grown HR0.out HG.out (Nat.lt_add_of_pos_right (by decide))) (Nat.le_add_right _ _)
  · obtain ⟨M, hM⟩ : ∃ M, M = 4503599627370496 + F := ⟨_, rfl⟩
    obtain ⟨k, hk⟩ : ∃ k, k = E - 1 := ⟨_, rfl⟩
    have hE1k : (E : Int) - 1075 = -1074 + (k : Int) := sub1075 hE0 hk
    have hz : ((E : Int) == 0) = false := ne00 hE0
    have HV := Aside0.mk (show v0 = sgn b (M * 2 ^ k) by rw [HVAL.out, if_neg hE0, hM, hk])
    rw [← hM] at e6
    have hM1 : M < 18446744073709551616 := lt64 hF1 hM
    have e8 : wrap64 ((E : Int) - 1075) = -1074 + (k : Int) := wr1075 hE1 hE1k
    have hkb : k ≤ 2046 := k2046 hE1 hk
    clear hM hk hE0
    go_enter Tryd.func20, Tryd.ntmps20
    go_wp2_with (first
      | (go_at_call 43; refine (QF.out M (-1074 + (k : Int)) hM1 (ex2000 hkb).1 (ex2000 hkb).2 _ _ (below_alloc (below_alloc (Below.refl _ _) _) _) ?hC).mono ?_; (case hC => have h := (Kd.R_reads' (row_one (w.alloc (.cells #[.bool false, .slice none 0 0, .int .i64 0] 27)) (M))).2.2; rw [size_alloc'] at h; exact h); rintro e1 w1 ⟨v1, rfl, hr0, hb⟩; have HR0 := Aside0.mk (hr0.lower (b' := w.heap.size + 2) (by simp only [size_alloc']; exact Nat.le_refl _)); obtain ⟨A2, n2, c2, rfl, hr⟩ := hr0; clear hr; have HB := Aside0.mk (below_then (below_alloc (below_alloc (Below.refl w.heap.size w) _) _) (below_alloc (below_alloc (Below.refl w.heap.size w) _) _).size hb); have HH := Aside0.mk (blk_below (blk_alloc (blk_new w _) _) hb); clear hb)
      | ((with_reducible refine gate_store (p := 2) rfl ?_); go_must (refine store_box 27 2 (.tmp 27) rfl rfl rfl (g := w.heap.size) (e := 27) (.agg #[.bool (cneg (sgn b M)), .slice A2 n2 c2, .int .i64 (cexp (sgn b M) (-1074 + (k : Int)))]) ([.bool (cneg (sgn b M)), .slice A2 n2 c2, .int .i64 (cexp (sgn b M) (-1074 + (k : Int)))]) rfl rfl rfl info_dyad ?b1 HH.out rfl ?_; (case b1 => intro q hq; simp at hq; rcases hq with rfl | rfl | rfl <;> rfl); intro wb hbx hgx; have HX := Aside0.mk hbx; have HG := Aside0.mk hgx; clear hbx hgx)))
    refine bodyPost_ret (results_dyad_tmp rfl _ _ w.heap.size _ rfl HX.out rfl) rfl ?_
    refine ⟨_, rfl, ?_, HB.out.grown HG.out HB.out.size (fun k hk => by cases hk; exact Nat.le_refl _)⟩
    rw [HV.out, sgn_pow]
    refine PDy.scale k ?_
    exact PDy.lower (PDy.grown HR0.out HG.out (Nat.lt_add_of_pos_right (by decide))) (Nat.le_add_right _ _)

/-- The empty dyad. -/
def Z0 : Value := .agg #[.bool false, .slice none 0 0, .int .i64 0]
theorem PDy.zero (w : World) (b : Nat) (e : Int) : PDy w b Z0 0 e := ⟨none, 0, 0, rfl, by rw [cman_zero, limbs_zero]; exact PL.nil _ _⟩

set_option maxHeartbeats 4000000 in
theorem pfrom_none (x : Nat) (hx : x < 18446744073709551616) (hf : ¬ x % 9223372036854775808 < 9218868437227405312) (w : World) :
    Calls Tryd.prog 20 #[.int .u64 (x : Int)] w fun e w' => e = .returned (.tuple #[Z0, .int .i64 5]) ∧ Below w.heap.size w w' := by
  obtain ⟨q, hq⟩ : ∃ r, r = x / 4503599627370496 := ⟨_, rfl⟩
  have e1 : (x : Int) / 4503599627370496 = (q : Int) := by omega
  have e2 : bits .and .u64 (q : Int) 2047 = 2047 := by rw [and_2047 q (by omega)]; omega
  obtain ⟨F, hF⟩ : ∃ r, r = x % 4503599627370496 := ⟨_, rfl⟩
  have e3 : bits .and .u64 (x : Int) 4503599627370495 = (F : Int) := by rw [hF]; exact and_frac x hx
  clear hq hF hf
  go_enter Tryd.func20, Tryd.ntmps20
  go_wp2_with (first
      | ((with_reducible refine gate_store (p := 2) rfl ?_); go_must (refine store_box 27 2 (.tmp 17) rfl rfl rfl (g := w.heap.size) (e := 27) (.agg #[.bool false, .slice none 0 0, .int .i64 0]) ([.bool false, .slice none 0 0, .int .i64 0]) rfl rfl rfl info_dyad ?b1 (blk_new _ _) rfl ?_; (case b1 => intro q hq; simp at hq; rcases hq with rfl | rfl | rfl <;> rfl); intro wb hbx hgx; have HX := Aside0.mk hbx; have HG := Aside0.mk hgx; clear hbx hgx)))
  refine bodyPost_ret (results_dyad_tmp rfl _ _ w.heap.size _ rfl HX.out rfl) rfl ?_
  exact ⟨rfl, (below_alloc (Below.refl _ _) _).grown HG.out (below_alloc (Below.refl w.heap.size w) _).size (fun k hk => by cases hk; exact Nat.le_refl _)⟩
end Go.Proofs.YtgpjplelgffocaaDoor

namespace Go.Proofs.YtgpjplelgffocaaDoor
open Go.RowKit Go.Proofs.YtgpjplelgffocaaDoorW.PrintWords Limb
set_option linter.unusedVariables false
set_option linter.unusedSimpArgs false

/-- A number of at most 65536 bits, its unit's exponent as small. -/
def Ok (z e : Int) : Prop := bl z.natAbs ≤ 65536 ∧ -65536 ≤ e ∧ e ≤ 65536
theorem cman_le (z : Int) : cman z ≤ z.natAbs := Nat.div_le_self _ _
theorem Ok.len {z e : Int} (h : Ok z e) : (limbs (cman z)).length ≤ 1024 := by
  refine limbs_len_le (Nat.lt_of_le_of_lt (cman_le z) ?_)
  have q : bl z.natAbs ≤ 64 * 1024 := h.1
  generalize 64 * 1024 = E2 at q ⊢
  exact bl_le_iff.1 q
theorem Ok.lo {z e : Int} (h : Ok z e) : -65536 ≤ cexp z e := by
  by_cases h0 : z = 0
  · subst h0; rw [cexp_zero]; decide
  · obtain ⟨k, h1, _⟩ := of_form (e := e) h0
    have := h.2.1
    omega
theorem Ok.hi {z e : Int} (h : Ok z e) : cexp z e ≤ 131072 := by
  by_cases h0 : z = 0
  · subst h0; rw [cexp_zero]; decide
  · obtain ⟨k, h1, _, h3⟩ := of_form (e := e) h0
    have h4 := tz_lt_bl (show z.natAbs ≠ 0 by omega)
    have := h.1
    have := h.2.2
    omega
theorem Ok.len28 {z e : Int} (h : Ok z e) : (limbs (cman z)).length ≤ 268435456 := Nat.le_trans h.len (by decide)
theorem Ok.len30 {z e : Int} (h : Ok z e) : (limbs (cman z)).length ≤ 1073741824 := Nat.le_trans h.len (by decide)
theorem Ok.lo33 {z e : Int} (h : Ok z e) : -8589934592 ≤ cexp z e := Int.le_trans (by decide) h.lo
theorem Ok.hi33 {z e : Int} (h : Ok z e) : cexp z e ≤ 8589934592 := Int.le_trans h.hi (by decide)
theorem Ok.lo37 {z e : Int} (h : Ok z e) : -137438953472 ≤ cexp z e := Int.le_trans (by decide) h.lo
theorem Ok.hi37 {z e : Int} (h : Ok z e) : cexp z e ≤ 137438953472 := Int.le_trans h.hi (by decide)
theorem Ok.lo39 {z e : Int} (h : Ok z e) : -549755813888 ≤ cexp z e := Int.le_trans (by decide) h.lo
theorem Ok.hi39 {z e : Int} (h : Ok z e) : cexp z e ≤ 549755813888 := Int.le_trans h.hi (by decide)
theorem Ok.of {z e : Int} (n : Nat) (h : z.natAbs < 2 ^ n) (hn : n ≤ 65536) (h1 : -65536 ≤ e) (h2 : e ≤ 65536) : Ok z e := ⟨Nat.le_trans (bl_le_iff.2 h) hn, h1, h2⟩

theorem PDy.unscale {w : World} {b : Nat} {v : Value} {z e : Int} (k : Nat) (h : PDy w b v (z * 2 ^ k) e) : PDy w b v z (e + k) := by
  obtain ⟨A, n, c, rfl, hr⟩ := h
  exact ⟨A, n, c, by rw [cneg_mul, cexp_mul], by rw [cman_mul] at hr; exact hr⟩
theorem one_ok {v : Value} {z e : Int} {w : World} (h : CDy w v z e) (o : Ok z e) (hT : TabAt 0 Lib.deBruijn64tab w) :
    Calls Tryd.prog 72 #[v] w fun en w' => ∃ v', en = .returned v' ∧ PDy w' w.heap.size v' z e ∧ Below w.heap.size w w' := pone_dy v z e w h o.len30 o.lo39 o.hi39 hT
theorem abs_ok {v : Value} {z e : Int} {w : World} (h : CDy w v z e) (o : Ok z e) (hT : TabAt 0 Lib.deBruijn64tab w) :
    Calls Tryd.prog 49 #[v] w fun en w' => ∃ v', en = .returned v' ∧ PDy w' w.heap.size v' (z.natAbs : Int) e ∧ Below w.heap.size w w' := pabs_dy v z e w h o.len30 o.lo39 o.hi39 hT
theorem shift_ok {v : Value} {z e : Int} {w : World} (k : Int) (h : CDy w v z e) (o : Ok z e) (hk1 : -549755813888 ≤ k) (hk2 : k ≤ 549755813888) (hT : TabAt 0 Lib.deBruijn64tab w) :
    Calls Tryd.prog 69 #[v, .int .i64 k] w fun en w' => ∃ v', en = .returned v' ∧ PDy w' w.heap.size v' z (e + k) ∧ Below w.heap.size w w' := pshift_dy v z e k w h o.len30 o.lo39 o.hi39 hk1 hk2 hT
theorem cmp_ok {u v : Value} {y z e : Int} {w : World} (h : CDy w u y e) (h' : CDy w v z e) (o : Ok y e) (o' : Ok z e) (hT : TabAt 0 Lib.deBruijn64tab w) :
    Calls Tryd.prog 48 #[u, v] w fun en w' => en = .returned (.int .i64 (cmpZ y z)) ∧ Below w.heap.size w w' := pcmp_dy u v y z e w h h' o.len28 o'.len28 o.lo33 o.hi33 o'.lo33 o'.hi33 hT
theorem add_ok {u v : Value} {y z e : Int} {w : World} (h : CDy w u y e) (h' : CDy w v z e) (o : Ok y e) (o' : Ok z e) (hT : TabAt 0 Lib.deBruijn64tab w) :
    Calls Tryd.prog 83 #[u, v] w fun en w' => ∃ v', en = .returned v' ∧ PDy w' w.heap.size v' (y + z) e ∧ Below w.heap.size w w' := padd_dy u v y z e w h h' o.len28 o'.len28 o.lo33 o.hi33 o'.lo33 o'.hi33 hT
theorem sub_ok {u v : Value} {y z e : Int} {w : World} (h : CDy w u y e) (h' : CDy w v z e) (o : Ok y e) (o' : Ok z e) (hT : TabAt 0 Lib.deBruijn64tab w) :
    Calls Tryd.prog 81 #[u, v] w fun en w' => ∃ v', en = .returned v' ∧ PDy w' w.heap.size v' (y - z) e ∧ Below w.heap.size w w' := psub_dy u v y z e w h h' o.len28 o'.len28 o.lo33 o.hi33 o'.lo33 o'.hi33 hT
theorem mul_ok {u v : Value} {y z e e' : Int} {w : World} (h : CDy w u y e) (h' : CDy w v z e') (o : Ok y e) (o' : Ok z e') (hT : TabAt 0 Lib.deBruijn64tab w) :
    Calls Tryd.prog 97 #[u, v] w fun en w' => ∃ v', en = .returned v' ∧ PDy w' w.heap.size v' (y * z) (e + e') ∧ Below w.heap.size w w' := pmul_dy u v y z e e' w h h' o.len28 o'.len28 o.lo37 o.hi37 o'.lo37 o'.hi37 hT
theorem zero_ok {v : Value} {z e : Int} {w : World} (h : CDy w v z e) (o : Ok z e) :
    Calls Tryd.prog 22 #[v] w fun en w' => en = .returned (.bool (decide (z = 0))) ∧ Below w.heap.size w w' := pzero_dy v z e w h o.len30
theorem sign_ok {v : Value} {z e : Int} {w : World} (h : CDy w v z e) (o : Ok z e) :
    Calls Tryd.prog 45 #[v] w fun en w' => en = .returned (.int .i64 (sgnI z)) ∧ Below w.heap.size w w' := psign_dy v z e w h o.len30

/-- It has room. -/
theorem fits_ok {v : Value} {z e : Int} {w : World} (h : CDy w v z e) (o : Ok z e) (h1 : -32768 ≤ cexp z e) (h2 : cexp z e ≤ 32768) :
    Calls Tryd.prog 102 #[v] w fun en w' => en = .returned (.bool true) ∧ Below w.heap.size w w' := by
  have hl := o.len
  obtain ⟨A, n, c, rfl, hC, hn, hc⟩ := h
  have QN := Aside0.mk (fun (m : World) (hm : Below w.heap.size w m) => trim_any (limbs (cman z)) A c m (by rw [hn]; exact Kd.C_below hC hm) (by omega) (wf_limbs _) (by omega))
  rw [hn, nv_limbs] at QN
  obtain ⟨n1, hn1⟩ : ∃ k, k = (limbs (cman z)).length := ⟨_, rfl⟩
  obtain ⟨x, hx⟩ : ∃ x, x = cexp z e := ⟨_, rfl⟩
  obtain ⟨b, hb⟩ : ∃ x, x = cneg z := ⟨_, rfl⟩
  rw [← hn1] at QN hl
  rw [← hx] at h1 h2 ⊢
  rw [← hb]
  have d1 : decide ((n1 : Int) ≤ 1024) = true := decide_eq_true (by omega)
  have d2 : decide ((-32768 : Int) ≤ x) = true := decide_eq_true h1
  have d3 : decide (x ≤ (32768 : Int)) = true := decide_eq_true h2
  clear hC hn hn1 hx hb h1 h2 hl o
  go_enter Tryd.func102, Tryd.ntmps102
  go_wp2_with (go_at_call 44; go_must (refine (QN.out _ (below_alloc (Below.refl _ _) _)).mono ?_; rintro e w1 ⟨rfl, hw⟩; have hb := quiet_below hw; have HB := Aside0.mk (below_then (below_alloc (Below.refl _ _) _) (below_alloc (Below.refl w.heap.size w) _).size hb); have HH := Aside0.mk (blk_below (blk_new w _) hb); obtain ⟨d1, d1'⟩ := box_cell HH.out 1 rfl; obtain ⟨d2, d2'⟩ := box_cell HH.out 2 rfl; clear hb hw))
  go_ret
  exact ⟨rfl, HB.out⟩
end Go.Proofs.YtgpjplelgffocaaDoor

namespace Go.Proofs.YtgpjplelgffocaaDoor
open Go.RowKit Go.Proofs.YtgpjplelgffocaaDoorW.PrintWords Limb
set_option linter.unusedVariables false
set_option linter.unusedSimpArgs false

theorem floor_whole {z : Int} {k : Nat} (h : 0 ≤ cexp z (-(k : Int))) : ∃ y : Int, z = y * 2 ^ k ∧ z / 2 ^ k = y := by
  by_cases h0 : z = 0
  · exact ⟨0, by omega, by subst h0; exact Int.zero_ediv _⟩
  · obtain ⟨j, h1, h2, h3⟩ := of_form (e := -(k : Int)) h0
    obtain ⟨d, hd⟩ : ∃ d : Nat, j = d + k := ⟨j - k, by omega⟩
    have h4 : z = sgn (cneg z) (cman z * 2 ^ d) * 2 ^ k := by
      rw [← sgn_pow, Nat.mul_assoc, ← Nat.pow_add, ← hd]; exact h2
    refine ⟨_, h4, ?_⟩
    rw [h4]
    have := Int.mul_ediv_cancel (sgn (cneg z) (cman z * 2 ^ d)) (b := 2 ^ k) (by
      have := Int.pow_pos (n := 2) (m := k) (by decide); omega)
    rw [← h4]; rw [← h4] at this; exact this
theorem cman_odd {z : Int} (h0 : z ≠ 0) : cman z % 2 = 1 := (tz_spec z.natAbs (by omega)).2
theorem odd_mod {m s : Nat} (h : m % 2 = 1) (hs : 0 < s) : m % 2 ^ s ≠ 0 := by
  intro hc
  obtain ⟨t, rfl⟩ : ∃ t, s = t + 1 := ⟨s - 1, by omega⟩
  have := Nat.mod_mul_right_mod m 2 (2 ^ t)
  rw [show 2 * 2 ^ t = 2 ^ (t + 1) by rw [Nat.pow_succ, Nat.mul_comm], hc] at this
  omega
theorem floor_part {z : Int} {k s : Nat} (hs : cexp z (-(k : Int)) = -(s : Int)) (h0 : 0 < s) :
    cman z % 2 ^ s ≠ 0 ∧ z / 2 ^ k = sgn (cneg z) (if cneg z then cman z / 2 ^ s + 1 else cman z / 2 ^ s) := by
  have hz : z ≠ 0 := by rintro rfl; rw [cexp_zero] at hs; omega
  obtain ⟨j, h1, h2, h3⟩ := of_form (e := -(k : Int)) hz
  have hk : k = s + j := by omega
  have ho := odd_mod (cman_odd hz) h0
  refine ⟨ho, ?_⟩
  have e1 : z / 2 ^ k = sgn (cneg z) (cman z) / 2 ^ s := by
    have h4 : z = sgn (cneg z) (cman z) * 2 ^ j := by rw [← sgn_pow]; exact h2
    have hp : (0 : Int) < 2 ^ j := Int.pow_pos (by decide)
    rw [hk, Int.pow_add]
    have := Int.mul_ediv_mul_of_pos_left (sgn (cneg z) (cman z)) (2 ^ s) hp
    rw [← h4] at this; exact this
  rw [e1]
  have hp : ((2 ^ s : Nat) : Int) = 2 ^ s := by norm_cast
  have hp0 := Nat.two_pow_pos s
  unfold sgn
  cases cneg z
  · simp only [Bool.false_eq_true, if_false]
    rw [← hp]; norm_cast
  · simp only [if_true]
    rw [← hp]
    generalize 2 ^ s = p at *
    have h5 := Nat.div_add_mod (cman z) p
    have h6 := Nat.mod_lt (cman z) hp0
    generalize cman z / p = q at *
    generalize cman z % p = r at *
    generalize cman z = m at *
    have : (-(m : Int)) = (p - r : Int) + (p : Int) * (-((q : Int) + 1)) := by
      have : (m : Int) = p * q + r := by exact_mod_cast h5.symm
      rw [this, Int.mul_neg, Int.mul_add]; omega
    rw [this, Int.add_mul_ediv_left _ _ (by omega), Int.ediv_eq_zero_of_lt (by omega) (by omega)]
    omega
theorem len_lt {m M : Nat} (h : (limbs m).length ≤ M) : m < 2 ^ (64 * M) := by
  have := nv_lt (wf_limbs m)
  rw [nv_limbs] at this
  exact Nat.lt_of_lt_of_le this (Nat.pow_le_pow_right (by decide) (Nat.mul_le_mul_left _ h))
theorem half_len {m s M : Nat} (h : (limbs m).length ≤ M) : (limbs (m / 2 ^ s)).length ≤ M :=
  limbs_len_le (Nat.lt_of_le_of_lt (Nat.div_le_self _ _) (len_lt h))
theorem half_len1 {m s M : Nat} (h : (limbs m).length ≤ M) : (limbs (m / 2 ^ s + 1)).length ≤ M + 1 := by
  refine limbs_len_le ?_
  have h2 := len_lt h
  have h3 := Nat.div_le_self m (2 ^ s)
  have h4 : 2 ^ (64 * M) < 2 ^ (64 * (M + 1)) := Nat.pow_lt_pow_right (by decide) (Nat.mul_lt_mul_of_pos_left (Nat.lt_succ_self _) (by decide))
  generalize 2 ^ (64 * M) = p at *
  generalize 2 ^ (64 * (M + 1)) = q at *
  generalize m / 2 ^ s = d at *
  omega

theorem nblk2 (w : World) (o : Obj) (cs : Array Value) (w1 : World) {t : TypeId} (hb : Below ((w.alloc o).alloc (.cells cs t)).heap.size ((w.alloc o).alloc (.cells cs t)) w1) : w1.heap[w.heap.size + 1]? = some (.cells cs t (0, 0)) := by
  have h := blk_new (w.alloc o) (.cells cs t)
  rw [size_alloc'] at h
  exact blk_below h hb
/-- A world further on: at least k new places. -/
def BelN (w : World) (k : Nat) (W : World) : Prop := Below w.heap.size w W ∧ w.heap.size + k ≤ W.heap.size
theorem BelN.next {w W W' : World} {k : Nat} (h : BelN w k W) (hb : Below W.heap.size W W') : BelN w k W' := ⟨below_then h.1 h.1.size hb, Nat.le_trans h.2 hb.size⟩
theorem BelN.grown {w W W' : World} {k g : Nat} (h : BelN w k W) (hg : W.grownBy W' (some g)) (hk : w.heap.size ≤ g) : BelN w k W' := ⟨h.1.grown hg h.1.size (fun k hk' => by cases hk'; exact hk), Nat.le_trans h.2 hg.size⟩
theorem BelN.zero (w : World) : BelN w 0 w := ⟨Below.refl _ _, Nat.le_refl _⟩
theorem BelN.alloc {w W : World} {k : Nat} (h : BelN w k W) (o : Obj) : BelN w (k + 1) (W.alloc o) := ⟨below_alloc h.1 o, by rw [size_alloc']; have := h.2; omega⟩
theorem BelN.less {w W : World} {k j : Nat} (h : BelN w k W) (hj : j ≤ k) : BelN w j W := ⟨h.1, Nat.le_trans (Nat.add_le_add_left hj _) h.2⟩
theorem blk_grown {w w1 : World} {k g : Nat} {o : Obj} (h : w.heap[k]? = some o) (hg : w.grownBy w1 (some g)) (hk : k ≠ g) : w1.heap[k]? = some o :=
  (hg.block _ (blk_lt h) (fun he => hk (Option.some.inj he))).trans h
theorem agg_inj {a b c a' b' c' : Value} (h : Value.agg #[a, b, c] = .agg #[a', b', c']) : a = a' ∧ b = b' ∧ c = c' := by
  injection h with h
  simp at h
  exact h
theorem slice_inj {A A' : Option Addr} {n n' c c' : Nat} (h : Value.slice A n c = .slice A' n' c') : A = A' ∧ n = n' ∧ c = c' := by
  injection h with h1 h2 h3
  exact ⟨h1, h2, h3⟩

set_option maxRecDepth 100000 in
set_option maxHeartbeats 4000000 in
theorem floor_ok {v : Value} {z : Int} {k : Nat} {w : World} (h : CDy w v z (-(k : Int))) (o : Ok z (-(k : Int))) (hT : TabAt 0 Lib.deBruijn64tab w) :
    Calls Tryd.prog 108 #[v] w fun en w' => ∃ v', en = .returned v' ∧ PDy w' w.heap.size v' (z / 2 ^ k) 0 ∧ Below w.heap.size w w' := by
  have QO := Aside0.mk (fun (m : World) (hm : Below w.heap.size w m) => one_ok (h.below hm) o (tab_below hT hm))
  obtain ⟨A, n, c, rfl, hC, hn, hc⟩ := h
  obtain ⟨x0, hx0⟩ : ∃ x, x = cexp z (-(k : Int)) := ⟨_, rfl⟩
  obtain ⟨b0, hb0⟩ : ∃ x, x = cneg z := ⟨_, rfl⟩
  have hlen := o.len
  have hlo := o.lo
  by_cases hx : 0 ≤ cexp z (-(k : Int))
  · obtain ⟨y, hy1, hy2⟩ := floor_whole hx
    have HY1 := Aside0.mk hy1
    have HY2 := Aside0.mk hy2
    have hd : decide ((0 : Int) ≤ x0) = true := by rw [hx0]; exact decide_eq_true hx
    rw [← hx0, ← hb0] at QO
    rw [← hx0, ← hb0]
    have HX0 := Aside0.mk hx0
    have HB0 := Aside0.mk hb0
    clear hC hn hx0 hb0 hx hT o hy1 hy2 hlen hlo
    go_enter Tryd.func108, Tryd.ntmps108
    go_wp2_with (first
      | (go_at_call 72; go_must (refine (QO.out _ (below_alloc (below_alloc (Below.refl _ _) _) _)).mono ?_; rintro e w1 ⟨v, rfl, ho, hb⟩; have HO := Aside0.mk (ho.lower (b' := w.heap.size + 2) (by simp only [size_alloc']; exact Nat.le_refl _)); obtain ⟨A1, n1, c1, rfl, ho⟩ := ho; rw [← HX0.out, ← HB0.out] at HO; rw [← HX0.out, ← HB0.out]; have HB := Aside0.mk (((((BelN.zero w).alloc _).alloc _).next hb).less (j := 2) (by decide)); have HH := Aside0.mk (blk_below (blk_alloc (blk_new w _) _) hb); have HR := Aside0.mk (nblk2 w _ _ w1 hb); clear hb ho))
      | (((with_reducible refine gate_store (p := 1) rfl ?_); go_must (refine store_box 27 1 (.tmp 6) rfl rfl rfl (g := w.heap.size) (e := 27) (.agg #[.bool b0, .slice A1 n1 c1, .int .i64 x0]) ([.bool b0, .slice A1 n1 c1, .int .i64 x0]) rfl rfl rfl info_dyad ?b1 HH.out rfl ?_; (case b1 => intro q hq; simp at hq; rcases hq with rfl | rfl | rfl <;> rfl); intro wb hbx hgx; have HX := Aside0.mk hbx; have HG := Aside0.mk hgx; clear hbx hgx)); obtain ⟨d0, d0'⟩ := box_cell HX.out 0 rfl; obtain ⟨d1, d1'⟩ := box_cell HX.out 1 rfl; obtain ⟨d2, d2'⟩ := box_cell HX.out 2 rfl; have HR2 := Aside0.mk (blk_grown HR.out HG.out (Nat.succ_ne_self _)); have HO2 := Aside0.mk (PDy.grown HO.out HG.out (Nat.lt_add_of_pos_right (by decide))); have HB2 := Aside0.mk (HB.out.grown HG.out (Nat.le_refl _)))
      | ((with_reducible refine gate_store (p := 2) rfl ?_); go_must (refine store_box 27 2 (.tmp 10) rfl rfl rfl (g := w.heap.size + 1) (e := 27) (.agg #[.bool b0, .slice A1 n1 c1, .int .i64 x0]) ([.bool b0, .slice A1 n1 c1, .int .i64 x0]) rfl rfl rfl info_dyad ?b1 HR2.out rfl ?_; (case b1 => intro q hq; simp at hq; rcases hq with rfl | rfl | rfl <;> rfl); intro wb hbx hgx; have HX2 := Aside0.mk hbx; have HG2 := Aside0.mk hgx; clear hbx hgx)))
    refine bodyPost_ret (results_dyad rfl _ _ (w.heap.size + 1) _ rfl HX2.out rfl) rfl ?_
    refine ⟨_, rfl, ?_, (HB2.out.grown HG2.out (Nat.le_succ _)).1⟩
    have h := PDy.lower (b' := w.heap.size) (PDy.grown HO2.out HG2.out (Nat.lt_succ_self _)) (by omega)
    rw [HY2.out]
    rw [HY1.out] at h
    have h2 := PDy.unscale k h
    rw [show -(k : Int) + (k : Int) = 0 by omega] at h2
    exact h2
  · obtain ⟨s, hs⟩ : ∃ s : Nat, x0 = -(s : Int) := ⟨(-x0).toNat, by omega⟩
    have hs0 : 0 < s := by omega
    have hs1 : s ≤ 65536 := by omega
    obtain ⟨hl, hv⟩ := floor_part (hx0.symm.trans hs) hs0
    obtain ⟨a, ha⟩ : ∃ a, a = cman z / 2 ^ s := ⟨_, rfl⟩
    obtain ⟨a', ha'⟩ : ∃ a', a' = (if cneg z then a + 1 else a) := ⟨_, rfl⟩
    rw [← ha, ← ha', ← hb0] at hv
    rw [← hb0] at ha'
    have hlost : (cman z % 2 ^ s != 0) = true := by simpa using hl
    have hla : (limbs a).length ≤ 1024 := by rw [ha]; exact half_len hlen
    have hla' : (limbs a').length ≤ 1025 := by
      rw [ha', ha]; split
      · exact half_len1 hlen
      · exact Nat.le_trans (half_len hlen) (by decide)
    have QS := Aside0.mk (fun (A : Option Addr) (n c : Nat) (W : World) (hW : Below w.heap.size w W) (hn : (limbs (cman z)).length = n) (hC : kU.C W A n (limbs (cman z))) (hc : n ≤ c) => (by
      have q := pshr_any (limbs (cman z)) A n c s hn W hC hc (wf_limbs _) (by omega) (by omega) (tab_below hT hW)
      rw [nv_limbs, ← ha, hlost] at q
      exact q : Calls Tryd.prog 66 #[.slice A n c, .int .i64 (s : Int)] W fun e w' => ∃ v, e = .returned (.tuple #[v, .bool true]) ∧ PL w' W.heap.size v (limbs a) ∧ Below W.heap.size W w'))
    have QF := Aside0.mk (fun (A : Option Addr) (c : Nat) (W : World) (hW : Below w.heap.size w W) (hC : kU.C W A (limbs a').length (limbs a')) (hc : (limbs a').length ≤ c) => (by
      have q := pform_any b0 (limbs a') A (limbs a').length c 0 rfl W hC hc (wf_limbs _) (by omega) (by omega) (by omega) (tab_below hT hW)
      rw [nv_limbs, ← hv] at q
      exact q : Calls Tryd.prog 43 #[.bool b0, .slice A (limbs a').length c, .int .i64 0] W fun en w' => ∃ v', en = .returned v' ∧ PDy w' W.heap.size v' (z / 2 ^ k) 0 ∧ Below W.heap.size W w'))
    have QA := Aside0.mk (fun (A B : Option Addr) (c d : Nat) (W : World) (hA : kU.C W A (limbs a).length (limbs a)) (hB : kU.C W B (limbs 1).length (limbs 1)) (hc : (limbs a).length ≤ c) (hd : (limbs 1).length ≤ d) => (by
      have q := padd_any (limbs a) (limbs 1) A B _ _ c d rfl rfl W hA hB hc hd (wf_limbs _) (wf_limbs _) (by omega) (by rw [limbs_one (by decide) (by decide)]; decide)
      rw [nv_limbs, nv_limbs] at q
      exact q : Calls Tryd.prog 99 #[.slice A (limbs a).length c, .slice B (limbs 1).length d] W fun en w' => ∃ v', en = .returned v' ∧ PL w' W.heap.size v' (limbs (a + 1)) ∧ Below W.heap.size W w'))
    have QU := Aside0.mk (fun (W : World) => pof_any 1 (by decide) W)
    have hd : decide ((0 : Int) ≤ x0) = false := decide_eq_false (by omega)
    have hd2 : IntKind.i64.wrap (-x0) = (s : Int) := by rw [hs]; rw [Int.neg_neg]; exact wrap_i64 (by omega) (by omega)
    rw [← hx0, ← hb0] at QO
    rw [← hx0, ← hb0]
    have HX0 := Aside0.mk hx0
    have HB0 := Aside0.mk hb0
    clear hC hn hx0 hb0 hx hT o hlen hlo hs ha hla hla' hl hlost hv
    by_cases hbb : b0 = true
    · subst hbb
      rw [if_pos rfl] at ha'
      subst ha'
      go_enter Tryd.func108, Tryd.ntmps108
      go_wp2_with (first
      | (go_at_call 72; go_must (refine (QO.out _ (below_alloc (below_alloc (Below.refl _ _) _) _)).mono ?_; rintro e w1 ⟨v, rfl, ho, hb⟩; have HO := Aside0.mk (ho.lower (b' := w.heap.size + 2) (by simp only [size_alloc']; exact Nat.le_refl _)); obtain ⟨A1, n1, c1, rfl, ho⟩ := ho; rw [← HX0.out, ← HB0.out] at HO; rw [← HX0.out, ← HB0.out]; have HB := Aside0.mk (((((BelN.zero w).alloc _).alloc _).next hb).less (j := 2) (by decide)); have HH := Aside0.mk (blk_below (blk_alloc (blk_new w _) _) hb); have HR := Aside0.mk (nblk2 w _ _ w1 hb); clear hb ho))
      | (((with_reducible refine gate_store (p := 1) rfl ?_); go_must (refine store_box 27 1 (.tmp 6) rfl rfl rfl (g := w.heap.size) (e := 27) (.agg #[.bool true, .slice A1 n1 c1, .int .i64 x0]) ([.bool true, .slice A1 n1 c1, .int .i64 x0]) rfl rfl rfl info_dyad ?b1 HH.out rfl ?_; (case b1 => intro q hq; simp at hq; rcases hq with rfl | rfl | rfl <;> rfl); intro wb hbx hgx; have HX := Aside0.mk hbx; have HG := Aside0.mk hgx; clear hbx hgx)); obtain ⟨d0, d0'⟩ := box_cell HX.out 0 rfl; obtain ⟨d1, d1'⟩ := box_cell HX.out 1 rfl; obtain ⟨d2, d2'⟩ := box_cell HX.out 2 rfl; have HR2 := Aside0.mk (blk_grown HR.out HG.out (Nat.succ_ne_self _)); have HO2 := Aside0.mk (PDy.grown HO.out HG.out (Nat.lt_add_of_pos_right (by decide))); have HB2 := Aside0.mk (HB.out.grown HG.out (Nat.le_refl _)))
      | (go_at_call 66; go_must (obtain ⟨A5, n5, c5, e5, C5, l5, m5⟩ := HO2.out.c; obtain ⟨-, e5b, -⟩ := agg_inj e5; obtain ⟨rfl, rfl, rfl⟩ := slice_inj e5b; refine (QS.out _ _ _ _ HB2.out.1 l5 C5 m5).mono ?_; clear e5 e5b C5; rintro e w2 ⟨v, rfl, ho, hb⟩; have HP := Aside0.mk ho; obtain ⟨A2, c2, rfl, hc2, hC2⟩ := ho.c; have HX3 := Aside0.mk (blk_below HX.out hb); have HR3 := Aside0.mk (blk_below HR2.out hb); have HB3 := Aside0.mk (HB2.out.next hb); obtain ⟨f0, f0'⟩ := box_cell HX3.out 0 rfl; clear hb ho hC2))
      | (go_at_call 93; go_must (refine (QU.out _).mono ?_; rintro e w3 ⟨v, rfl, ho, hb⟩; obtain ⟨A3, c3, rfl, hc3, hC3⟩ := ho.c; have HC3 := Aside0.mk hC3; have HX4 := Aside0.mk (blk_below HX3.out hb); have HR4 := Aside0.mk (blk_below HR3.out hb); have HP4 := Aside0.mk (HP.out.below hb); have HB4 := Aside0.mk (HB3.out.next hb); clear hb ho hC3 f0 f0'))
      | (go_at_call 99; go_must (refine (QA.out A2 A3 c2 c3 _ (PL.cc HP4.out).1 HC3.out hc2 hc3).mono ?_; rintro e w4 ⟨v, rfl, ho, hb⟩; have HP5 := Aside0.mk ho; obtain ⟨A4, c4, rfl, hc4, hC4⟩ := ho.c; have HC4 := Aside0.mk hC4; have HX5 := Aside0.mk (blk_below HX4.out hb); have HR5 := Aside0.mk (blk_below HR4.out hb); have HB5 := Aside0.mk (HB4.out.next hb); obtain ⟨f0, f0'⟩ := box_cell HX5.out 0 rfl; clear hb ho hC4))
      | (go_at_call 43; go_must (refine (QF.out A4 c4 _ HB5.out.1 HC4.out hc4).mono ?_; rintro e w5 ⟨v, rfl, ho, hb⟩; have HV := Aside0.mk (ho.lower (b' := w.heap.size + 2) HB5.out.2); obtain ⟨A6, n6, c6, rfl, ho6⟩ := ho; have HR6 := Aside0.mk (blk_below HR5.out hb); have HB6 := Aside0.mk (HB5.out.next hb); clear hb ho6))
      | ((with_reducible refine gate_store (p := 2) rfl ?_); go_must (refine store_box 27 2 (.tmp 31) rfl rfl rfl (g := w.heap.size + 1) (e := 27) (.agg #[.bool (cneg (z / 2 ^ k)), .slice A6 n6 c6, .int .i64 (cexp (z / 2 ^ k) 0)]) ([.bool (cneg (z / 2 ^ k)), .slice A6 n6 c6, .int .i64 (cexp (z / 2 ^ k) 0)]) rfl rfl rfl info_dyad ?b1 HR6.out rfl ?_; (case b1 => intro q hq; simp at hq; rcases hq with rfl | rfl | rfl <;> rfl); intro wb hbx hgx; have HX7 := Aside0.mk hbx; have HG7 := Aside0.mk hgx; clear hbx hgx)))
      refine bodyPost_ret (results_dyad rfl _ _ (w.heap.size + 1) _ rfl HX7.out rfl) rfl ?_
      exact ⟨_, rfl, PDy.lower (PDy.grown HV.out HG7.out (Nat.lt_succ_self _)) (Nat.le_add_right _ _), (HB6.out.grown HG7.out (Nat.le_succ _)).1⟩
    · have hbb : b0 = false := by simpa using hbb
      subst hbb
      rw [if_neg (by decide)] at ha'
      subst ha'
      go_enter Tryd.func108, Tryd.ntmps108
      go_wp2_with (first
      | (go_at_call 72; go_must (refine (QO.out _ (below_alloc (below_alloc (Below.refl _ _) _) _)).mono ?_; rintro e w1 ⟨v, rfl, ho, hb⟩; have HO := Aside0.mk (ho.lower (b' := w.heap.size + 2) (by simp only [size_alloc']; exact Nat.le_refl _)); obtain ⟨A1, n1, c1, rfl, ho⟩ := ho; rw [← HX0.out, ← HB0.out] at HO; rw [← HX0.out, ← HB0.out]; have HB := Aside0.mk (((((BelN.zero w).alloc _).alloc _).next hb).less (j := 2) (by decide)); have HH := Aside0.mk (blk_below (blk_alloc (blk_new w _) _) hb); have HR := Aside0.mk (nblk2 w _ _ w1 hb); clear hb ho))
      | (((with_reducible refine gate_store (p := 1) rfl ?_); go_must (refine store_box 27 1 (.tmp 6) rfl rfl rfl (g := w.heap.size) (e := 27) (.agg #[.bool false, .slice A1 n1 c1, .int .i64 x0]) ([.bool false, .slice A1 n1 c1, .int .i64 x0]) rfl rfl rfl info_dyad ?b1 HH.out rfl ?_; (case b1 => intro q hq; simp at hq; rcases hq with rfl | rfl | rfl <;> rfl); intro wb hbx hgx; have HX := Aside0.mk hbx; have HG := Aside0.mk hgx; clear hbx hgx)); obtain ⟨d0, d0'⟩ := box_cell HX.out 0 rfl; obtain ⟨d1, d1'⟩ := box_cell HX.out 1 rfl; obtain ⟨d2, d2'⟩ := box_cell HX.out 2 rfl; have HR2 := Aside0.mk (blk_grown HR.out HG.out (Nat.succ_ne_self _)); have HO2 := Aside0.mk (PDy.grown HO.out HG.out (Nat.lt_add_of_pos_right (by decide))); have HB2 := Aside0.mk (HB.out.grown HG.out (Nat.le_refl _)))
      | (go_at_call 66; go_must (obtain ⟨A5, n5, c5, e5, C5, l5, m5⟩ := HO2.out.c; obtain ⟨-, e5b, -⟩ := agg_inj e5; obtain ⟨rfl, rfl, rfl⟩ := slice_inj e5b; refine (QS.out _ _ _ _ HB2.out.1 l5 C5 m5).mono ?_; clear e5 e5b C5; rintro e w2 ⟨v, rfl, ho, hb⟩; have HP := Aside0.mk ho; obtain ⟨A2, c2, rfl, hc2, hC2⟩ := ho.c; have HX3 := Aside0.mk (blk_below HX.out hb); have HR3 := Aside0.mk (blk_below HR2.out hb); have HB3 := Aside0.mk (HB2.out.next hb); obtain ⟨f0, f0'⟩ := box_cell HX3.out 0 rfl; clear hb ho hC2))
      | (go_at_call 43; go_must (refine (QF.out A2 c2 _ HB3.out.1 (PL.cc HP.out).1 hc2).mono ?_; rintro e w5 ⟨v, rfl, ho, hb⟩; have HV := Aside0.mk (ho.lower (b' := w.heap.size + 2) HB3.out.2); obtain ⟨A6, n6, c6, rfl, ho6⟩ := ho; have HR6 := Aside0.mk (blk_below HR3.out hb); have HB6 := Aside0.mk (HB3.out.next hb); clear hb ho6))
      | ((with_reducible refine gate_store (p := 2) rfl ?_); go_must (refine store_box 27 2 (.tmp 31) rfl rfl rfl (g := w.heap.size + 1) (e := 27) (.agg #[.bool (cneg (z / 2 ^ k)), .slice A6 n6 c6, .int .i64 (cexp (z / 2 ^ k) 0)]) ([.bool (cneg (z / 2 ^ k)), .slice A6 n6 c6, .int .i64 (cexp (z / 2 ^ k) 0)]) rfl rfl rfl info_dyad ?b1 HR6.out rfl ?_; (case b1 => intro q hq; simp at hq; rcases hq with rfl | rfl | rfl <;> rfl); intro wb hbx hgx; have HX7 := Aside0.mk hbx; have HG7 := Aside0.mk hgx; clear hbx hgx)))
      refine bodyPost_ret (results_dyad rfl _ _ (w.heap.size + 1) _ rfl HX7.out rfl) rfl ?_
      exact ⟨_, rfl, PDy.lower (PDy.grown HV.out HG7.out (Nat.lt_succ_self _)) (Nat.le_add_right _ _), (HB6.out.grown HG7.out (Nat.le_succ _)).1⟩
end Go.Proofs.YtgpjplelgffocaaDoor

namespace Go.Proofs.YtgpjplelgffocaaDoor
open Go.RowKit Go.Proofs.YtgpjplelgffocaaDoorW.PrintWords Limb
set_option linter.unusedVariables false
set_option linter.unusedSimpArgs false
section
variable {P : Program} {ops : Array Oper} {Q : Exit → Act → World → Prop}

theorem wp_region_slotsV {id : Nat} {w : World} {fr : Array Value} (slots : List Nat) (hm : P.follows .mixedOrders = true) (hac : Acyclic ops = true) (G : (Nat → Prop) → (Nat → Value) → World → Prop) (hG : ∀ v, G (fun _ => False) v w.drew)
    (hstep : ∀ k o, ops[k]? = some o → ∀ (v : Nat → Value) (W : World) (L : Nat → Prop), G L v W → ¬ L k → (∀ e ∈ o.after, Region.binds .any e = true → L e.on) → (∀ j p, ops[j]? = some p → L j → ∀ e ∈ p.after, Region.binds .any e = true → L e.on) →
      ∀ K : Act → World → Prop, Shut (∀ x W', G (fun j => L j ∨ j = k) (upd v k x) W' → K { tmps := setAll slots 0 (upd v k x) fr, defers := [] } W') →
        if Region.wanted o (yielded ops (setAll slots 0 v fr)) = true then Oper.wp P o { tmps := setAll slots 0 v fr, defers := [] } W K Q else K (Act.put { tmps := setAll slots 0 v fr, defers := [] } o.dst undef) W)
    (hend : ∀ v W L, (∀ j, j < ops.size → L j) → G L v W → Q .normal { tmps := setAll slots 0 v fr, defers := [] } W) : (Code.region id ops true).wp P Q { tmps := fr, defers := [] } w := by
  have h0 := setAll_self fr slots 0 (fun k => fr.getD (slots.getD k 0) undef) (fun j s hj => by simp [List.getD_eq_getElem?_getD, hj])
  rw [← h0]
  refine wp_region_inv hm hac (I := fun L a W => L.size = ops.size ∧ ∃ v, a = { tmps := setAll slots 0 v fr, defers := [] } ∧ ∃ L' : Nat → Prop, (∀ j, L' j ↔ L.getD j false = true) ∧ G L' v W ∧ (∀ j p, ops[j]? = some p → L' j → ∀ e ∈ p.after, Region.binds .any e = true → L' e.on)) ?_ ?_ ?_
  · refine ⟨by simp, _, rfl, fun _ => False, ?_, hG _, fun _ _ _ h => h.elim⟩
    intro j
    by_cases hj2 : j < ops.size
    · simp [Array.getD, hj2]
    · simp [Array.getD, hj2]
  · intro k o ho L a W hs hl haft hI K hK
    obtain ⟨hsz, v, rfl, L', hL', hJW, hcl⟩ := hI
    have hk : k < ops.size := by
      refine Classical.byContradiction fun hc => ?_
      rw [Array.getElem?_eq_none (by omega)] at ho
      cases ho
    have hafter : ∀ e ∈ o.after, Region.binds .any e = true → L' e.on := by
      intro e he hb
      rw [Array.all_eq_true'] at haft
      have := haft e he
      rw [hb] at this
      rw [hL']
      simpa using this
    refine hstep k o ho v W L' hJW ?_ hafter hcl K ?_
    · have := not_listed hl
      rw [hL', this]; simp
    · intro x W' hJ'
      refine hK.out _ _ ⟨by simp [hsz], upd v k x, rfl, _, ?_, hJ', ?_⟩
      · intro j
        by_cases hjk : j = k
        · subst hjk
          rw [get_eq (by omega)]; simp
        · rw [get_ne (Ne.symm hjk), ← hL']; simp [hjk]
      · intro j p hp hLj e he hb
        rcases hLj with h | h
        · exact .inl (hcl j p hp h e he hb)
        · subst h
          rw [ho] at hp
          cases hp
          exact .inl (hafter e he hb)
  · intro L a W hall hI
    obtain ⟨hsz, v, rfl, L', hL', hJW, _⟩ := hI
    exact hend v W L' (fun j hj => (hL' j).2 (hall j hj)) hJW
end

/-- A dyad of the call's own is no struct's box. -/
theorem PL.grown_box {w w1 : World} {b g : Nat} {v : Value} {l : List Nat} {t : TypeId} {cells : Array Value} (h : PL w b v l) (hb : w.heap[g]? = some (.cells cells t (0, 0))) (ht : 23 ≠ t) (hg : w.grownBy w1 (some g)) : PL w1 b v l := by
  obtain ⟨A, n, c, c', l', h1, h2, h3, h4, hr⟩ := h
  refine ⟨A, n, c, c', l', h1, h2, h3, h4, Kd.R_mono (Kd.R_grown (Kd.R_types hr hb ?_) hg ?_) (fun _ _ => trivial)⟩
  · intro q hq
    rcases List.mem_cons.1 hq with rfl | hq
    · exact ht
    · cases hq
  · rintro k ⟨_, hk⟩ he
    cases he
    exact hk rfl
theorem PDy.grown_box {w w1 : World} {b g : Nat} {v : Value} {z e : Int} {t : TypeId} {cells : Array Value} (h : PDy w b v z e) (hb : w.heap[g]? = some (.cells cells t (0, 0))) (ht : 23 ≠ t) (hg : w.grownBy w1 (some g)) : PDy w1 b v z e := by
  obtain ⟨A, n, c, rfl, hr⟩ := h
  exact ⟨A, n, c, rfl, hr.grown_box hb ht hg⟩
theorem kv {L : Nat → Prop} {v : Nat → Value} {j k : Nat} {x c : Value} (f : L j → v j = c) (h : j ≠ k) : (L j ∨ j = k) → upd v k x j = c := fun q => (upd_ne v x h).trans (f (q.resolve_right h))
theorem kd {L : Nat → Prop} {v : Nat → Value} {j k b : Nat} {x : Value} {w w1 : World} {z e : Int} (f : L j → PDy w b (v j) z e) (h : j ≠ k) (hb : Below w.heap.size w w1) : (L j ∨ j = k) → PDy w1 b (upd v k x j) z e := fun q => by
  rw [upd_ne v x h]; exact (f (q.resolve_right h)).below hb
theorem kg {L : Nat → Prop} {v : Nat → Value} {j k b g : Nat} {x : Value} {w w1 : World} {z e : Int} {t : TypeId} {cells : Array Value} (f : L j → PDy w b (v j) z e) (h : j ≠ k) (hb : w.heap[g]? = some (.cells cells t (0, 0))) (ht : 23 ≠ t) (hg : w.grownBy w1 (some g)) : (L j ∨ j = k) → PDy w1 b (upd v k x j) z e := fun q => by
  rw [upd_ne v x h]; exact (f (q.resolve_right h)).grown_box hb ht hg
theorem PDy.ex {w : World} {b : Nat} {v : Value} {z e : Int} (h : PDy w b v z e) : ∃ bb A n c x, v = .agg #[.bool bb, .slice A n c, .int .i64 x] := by
  obtain ⟨A, n, c, rfl, hr⟩ := h
  exact ⟨_, _, _, _, _, rfl⟩
theorem CDy.ex {w : World} {v : Value} {z e : Int} (h : CDy w v z e) : ∃ bb A n c x, v = .agg #[.bool bb, .slice A n c, .int .i64 x] := by
  obtain ⟨A, n, c, rfl, hr⟩ := h
  exact ⟨_, _, _, _, _, rfl⟩
theorem CDy.parts {w : World} {z e : Int} {bb : Bool} {A : Option Addr} {n c : Nat} {x : Int} (h : CDy w (.agg #[.bool bb, .slice A n c, .int .i64 x]) z e) : bb = cneg z ∧ x = cexp z e ∧ kU.C w A n (limbs (cman z)) ∧ (limbs (cman z)).length = n ∧ n ≤ c := by
  obtain ⟨A', n', c', h1, h2, h3, h4⟩ := h
  obtain ⟨e1, e2, e3⟩ := agg_inj h1
  obtain ⟨rfl, rfl, rfl⟩ := slice_inj e2
  injection e1 with e1
  injection e3 with _ e3
  exact ⟨e1, e3, h2, h3, h4⟩
theorem info_told : (Tryd.prog.info? 51).map (·.size) = some 4 := by kernel_rfl
theorem info_spot : (Tryd.prog.info? 82).map (·.size) = some 4 := by kernel_rfl
end Go.Proofs.YtgpjplelgffocaaDoor
