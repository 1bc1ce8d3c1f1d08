/- The document's naturals (ulpref03): the walks of Of, Same, Cmp, Add, Sub. -/
import Derived.Test.YtplkmbdoecepeaaRef3a
namespace Go.Proofs.Ytplkmbdoecepeaa
open Go.RowKit Go.Proofs.YtplkmbdoecepeaaW.PrintWords Limb
set_option linter.unusedVariables false
set_option linter.unusedSimpArgs false

theorem C_word (W : World) (x : Nat) (t : TypeId) {g : Nat} (hg : g = W.heap.size) : kU.C (W.alloc (.cells #[.int .u64 (x : Int)] t)) (some ⟨g, 0, none⟩) 1 [x] := by
  subst hg
  have hR : kU.R t _ W.heap.size (fun _ => True) _ [x] := Kd.R_of_own (own_lit_of (enc := fun n : Nat => Value.int .u64 (n : Int)) W W.heap.size t [x] (Nat.le_refl _) (show 1 ≤ 9223372036854775807 by decide)) (fun _ _ => trivial)
  exact (Kd.R_reads' hR).2.2

set_option maxHeartbeats 1000000 in
theorem of_any (x : Nat) (hx : x < 18446744073709551616) (w : World) :
    Calls Try.prog 59 #[.int .u64 (x : Int)] w fun e w' => ∃ v, e = .returned v ∧ kU.R 48 w' w.heap.size (fun _ => True) v (limbs x) ∧ Below w.heap.size w w' := by
  have HX := Aside0.mk (show Wf [x] from .cons hx .nil)
  have HV := Aside0.mk (show nv [x] = x by simp [nv])
  clear hx
  go_enter Try.func59, Try.ntmps59
  go_wp2_with (go_at_call 45; go_must (refine (norm_any [x] (some ⟨w.heap.size, 0, none⟩) 1 _ (C_word w x _ rfl) (show 1 ≤ 1 from Nat.le_refl 1) HX.out (show 1 ≤ 4294967296 by decide)).mono ?_; rintro e w1 ⟨v, rfl, ho, hb⟩; rw [HV.out] at ho; have HO := Aside0.mk ho; have HBB := Aside0.mk hb; clear ho hb))
  go_ret
  exact ⟨_, rfl, Kd.R_lower HO.out (below_alloc (Below.refl w.heap.size w) _).size, below_then (below_alloc (Below.refl w.heap.size w) _) (below_alloc (Below.refl w.heap.size w) _).size HBB.out⟩

set_option maxHeartbeats 1000000 in
theorem same_nat (l r : List Nat) (A B : Option Addr) (c d : Nat) (w : World) (hl : kU.C w A l.length l) (hr : kU.C w B r.length r) (hc : l.length ≤ c) (hd : r.length ≤ d) (hm : l.length ≤ 9223372036854775807) :
    Calls Try.prog 46 #[.slice A l.length c, .slice B r.length d] w fun e w' => e = .returned (.bool (decide (l = r))) ∧ ∃ n, w' = w.drewN n := by
  have HL := Aside0.mk hl
  have HR := Aside0.mk hr
  clear hl hr
  by_cases hlen : l.length = r.length
  · have hne : ((l.length : Int) != (r.length : Int)) = false := by simp [hlen]
    have HLEN := Aside0.mk hlen
    clear hlen
    go_enter Try.func46, Try.ntmps46
    go_wp2
    clear hne
    go_loopw [13] (fun i wr => ∃ (k : Nat), i = .int .i64 k ∧ k ≤ l.length ∧ Aside0 (∃ n, wr = w.drewN n) ∧ Aside0 (∀ j, j < k → l[j]? = r[j]?)) (fun i _ => l.length - (intOf i).toNat)
    case atStart => exact ⟨0, rfl, Nat.zero_le _, ⟨⟨0, rfl⟩⟩, ⟨fun j h => by omega⟩⟩
    case round =>
      obtain ⟨k, rfl, hk, HW, HG⟩ := hrel
      obtain ⟨nw, rfl⟩ := HW.out
      clear HW
      by_cases hlt : k < l.length
      · have hlt2 : k < r.length := by have := HLEN.out; omega
        obtain ⟨ad, x, rfl, hx0, hcell⟩ := at_word HL.out rfl k hlt
        obtain ⟨bd, y, rfl, hy0, hcell2⟩ := at_word HR.out rfl k hlt2
        have hx := Aside0.mk hx0
        have hy := Aside0.mk hy0
        clear hx0 hy0
        by_cases heq : x = y
        · have hne : ((x : Int) != (y : Int)) = false := by simp [heq]
          have HE := Aside0.mk heq
          clear heq
          go_wp2
          repeat (go_quiet (fail); try go_wp2)
          go_roundw
          case rel =>
            refine ⟨k + 1, by go_num, by omega, ⟨⟨_, rfl⟩⟩, ⟨fun j hj => ?_⟩⟩
            by_cases h : j < k
            · exact HG.out j h
            · have : j = k := by omega
              subst this
              rw [hx.out, hy.out, HE.out]
          case measure => simp [intOf]; omega
        · have hne : ((x : Int) != (y : Int)) = true := by simp; omega
          have HS := Aside0.mk (show decide (l = r) = false by
            refine decide_eq_false fun h => heq ?_
            have := hx.out
            rw [h, hy.out] at this
            exact (Option.some.inj this).symm)
          clear heq
          go_wp2
          repeat (go_quiet (fail); try go_wp2)
          go_ret
          exact ⟨by rw [HS.out]; rfl, ⟨_, World.drewN_drewN _ _ _⟩⟩
      · obtain rfl : k = l.length := by omega
        have HS := Aside0.mk (show decide (l = r) = true by
          refine decide_eq_true (List.ext_getElem? fun i => ?_)
          by_cases hi : i < l.length
          · exact HG.out i hi
          · rw [List.getElem?_eq_none (by omega), List.getElem?_eq_none (by have := HLEN.out; omega)])
        go_wp2
        go_ret
        exact ⟨by rw [HS.out]; rfl, ⟨nw, rfl⟩⟩
  · have hne : ((l.length : Int) != (r.length : Int)) = true := by simp; omega
    have HS := Aside0.mk (show decide (l = r) = false from decide_eq_false fun h => hlen (by rw [h]))
    clear hlen
    go_enter Try.func46, Try.ntmps46
    go_wp2
    go_ret
    exact ⟨by rw [HS.out]; rfl, ⟨0, rfl⟩⟩

set_option maxHeartbeats 1000000 in
theorem cmp_any (a b : List Nat) (A B : Option Addr) (c d : Nat) (w : World) (ha : kU.C w A a.length a) (hb : kU.C w B b.length b) (hc : a.length ≤ c) (hd : b.length ≤ d) (wa : Wf a) (wb : Wf b) (la : a.length ≤ 4294967296) (lb : b.length ≤ 4294967296) :
    Calls Try.prog 52 #[.slice A a.length c, .slice B b.length d] w fun e w' => e = .returned (.int .i64 (cmpN (nv a) (nv b))) ∧ ∃ n, w' = w.drewN n := by
  have HA := Aside0.mk ha
  have HB := Aside0.mk hb
  have WA := Aside0.mk wa
  have WB := Aside0.mk wb
  have ma : a.length ≤ 9223372036854775807 := by omega
  have mb : b.length ≤ 9223372036854775807 := by omega
  clear ha hb wa wb
  rcases Nat.lt_or_ge a.length b.length with hab | hab
  all_goals
    go_enter Try.func52, Try.ntmps52
    go_wp2
    go_loopw [5] (fun v5 wr => ∃ k : Nat, v5 = .int .i64 ((k : Int) - 1) ∧ k ≤ 4294967296 ∧ Aside0 (∃ n, wr = w.drewN n) ∧ Aside0 (nv (a.drop k) = nv (b.drop k))) (fun v5 _ => (intOf v5 + 1).toNat)
    case atStart => first | exact ⟨b.length, rfl, by omega, ⟨⟨0, rfl⟩⟩, ⟨by rw [List.drop_eq_nil_of_le (by omega), List.drop_eq_nil_of_le (by omega)]⟩⟩ | exact ⟨a.length, rfl, by omega, ⟨⟨0, rfl⟩⟩, ⟨by rw [List.drop_eq_nil_of_le (by omega), List.drop_eq_nil_of_le (by omega)]⟩⟩
    case round =>
      clear hab
      obtain ⟨k, rfl, hk, HW, HG⟩ := hrel
      obtain ⟨nw, rfl⟩ := HW.out
      clear HW
      by_cases hk0 : k = 0
      · subst hk0
        have HE := Aside0.mk (show nv a = nv b by simpa using HG.out)
        have HS := Aside0.mk (show cmpN (nv a) (nv b) = 0 by unfold cmpN; rw [HE.out]; simp)
        go_wp2
        go_ret
        exact ⟨ret_int (by rw [HS.out]), ⟨nw, rfl⟩⟩
      · obtain ⟨j, rfl⟩ : ∃ j, k = j + 1 := ⟨k - 1, by omega⟩
        have hj1 : ((j + 1 : Nat) : Int) - 1 = (j : Int) := by omega
        rw [hj1]
        clear hj1 hk0
        have h0 : (0 : Int) ≤ (j : Int) := by omega
        obtain ⟨x, hx⟩ : ∃ x, x = wd a j := ⟨_, rfl⟩
        obtain ⟨y, hy⟩ : ∃ y, y = wd b j := ⟨_, rfl⟩
        have HX := Aside0.mk hx
        have HY := Aside0.mk hy
        clear hx hy
        have QA : ∀ m, Calls Try.prog 61 #[.slice A a.length c, .int .i64 (j : Int)] (w.drewN m) fun e w' => e = .returned (.int .u64 (x : Int)) ∧ ∃ n, w' = (w.drewN m).drewN n := fun m => word_is a A c j x _ rfl HX.out.symm _ (Kd.C_drewN HA.out _) hc ma
        have QB : ∀ m, Calls Try.prog 61 #[.slice B b.length d, .int .i64 (j : Int)] (w.drewN m) fun e w' => e = .returned (.int .u64 (y : Int)) ∧ ∃ n, w' = (w.drewN m).drewN n := fun m => word_is b B d j y _ rfl HY.out.symm _ (Kd.C_drewN HB.out _) hd mb
        have QA' := Aside0.mk QA
        have QB' := Aside0.mk QB
        clear QA QB
        go_wp2_with (go_at_call 61; first | (with_reducible refine (QA'.out _).mono ?_; rintro e w' ⟨rfl, n1, rfl⟩) | (with_reducible refine (QB'.out _).mono ?_; rintro e w' ⟨rfl, n2, rfl⟩))
        all_goals first
          | (go_ret
             exact ⟨ret_int (by first | (rw [cmp_lt WA.out HG.out (by have e1 := HX.out; have e2 := HY.out; omega)]) | (rw [cmp_gt WB.out HG.out (by have e1 := HX.out; have e2 := HY.out; omega)])), ⟨_, rfl⟩⟩)
          | (go_roundw
             case rel => exact ⟨j, rfl, by omega, ⟨⟨_, rfl⟩⟩, ⟨by have e1 := HX.out; have e2 := HY.out; have e3 := HG.out; have e4 := nv_drop_step a j; have e5 := nv_drop_step b j; omega⟩⟩
             case measure => simp [intOf])
end Go.Proofs.Ytplkmbdoecepeaa
