/- TopKept: the walk. -/
import Derived.Test.YtdpoddgnpmefaaaTopShow
namespace Go.Proofs.Ytdpoddgnpmefaaa
open Go.RowKit Go.Proofs.YtdpoddgnpmefaaaW.PrintWords
set_option linter.unusedVariables false
set_option linter.unusedSimpArgs false

/-- Flags in one cell each. -/
def kB : Kd Nat := Kd.scalar (fun n => .int .u8 (n : Int)) (fun _ => rfl)
theorem at_flag {w : World} {A : Option Addr} {n : Nat} {xs : List Nat} (h : kB.C w A n xs) (hn : xs.length = n) (i : Nat) (hi : i < n) : ∃ ad x, A = some ad ∧ xs[i]? = some x ∧ w.cell? (ad.add i) = some (.int .u8 (x : Int)) := by
  obtain ⟨ad, c, e, _, hK, hc0⟩ := Kd.C_get h 0 (i : Int) (by omega) (by omega)
  refine ⟨ad, xs.getD i 0, e, by rw [List.getD_eq_getElem?_getD, List.getElem?_eq_getElem (by omega)]; rfl, ?_⟩
  have hc : c = [.int .u8 ((xs.getD ((i : Int)).toNat 0 : Nat) : Int)] := hK
  have := hc0 0 (.int .u8 ((xs.getD ((i : Int)).toNat 0 : Nat) : Int)) (by rw [hc]; rfl)
  simpa [kB, Kd.scalar] using this

theorem or_all : ∀ F f : Fin 32, bits .or .u8 ((F : Nat) : Int) ((f : Nat) : Int) = ((F.1 ||| f.1 : Nat) : Int) ∧ F.1 ||| f.1 < 32 := by decide +kernel
theorem show_some : ∀ F : Fin 32, (showB F.1).toList.isEmpty = false := by decide +kernel

set_option maxRecDepth 100000 in
set_option maxHeartbeats 8000000 in
theorem top_any (l : List Nat) (A : Option Addr) (c x : Nat) (w : World) (hr : kB.C w A l.length l) (hc : l.length ≤ c) (wl : ∀ f ∈ l, f < 256) (hx : x < 18446744073709551616) :
    Calls Try.prog 3 #[.slice A l.length c, .int .u64 (x : Int)] w fun e w' => e = .returned (.bool true) ∧ Below w.heap.size w w' := by
  have HR := Aside0.mk hr
  have HW := Aside0.mk wl
  have hm : l.length ≤ 9223372036854775807 := hr.2.1
  clear hr wl
  go_enter Try.func3, Try.ntmps3
  go_wp2_with (first
    | (go_at_call 4; refine (begins_any _).mono ?_; rintro e w1 ⟨rfl, hb⟩; have B1 := Aside0.mk hb; clear hb)
    | (go_at_call 5; refine (new_any _).mono ?_; rintro e w2 ⟨rfl, hg, hb⟩; have HG := Aside0.mk hg; have B2 := Aside0.mk (below_then B1.out B1.out.size hb); clear hg hb))
  obtain ⟨g, hgw⟩ : ∃ g, g = w1.heap.size := ⟨_, rfl⟩
  have hg0 := Aside0.mk (show w.heap.size ≤ g by rw [hgw]; exact B1.out.size)
  rw [← hgw] at HG ⊢
  clear hgw
  go_loopw [6, 24] (fun v6 i wr => ∃ (k F : Nat) (m : Int), i = .int .i64 k ∧ k ≤ l.length ∧ v6 = .int .u8 (F : Int) ∧ F < 32 ∧ Aside0 (wr.heap[g]? = some (.cells #[.int .u8 (F : Int), .int .u8 m] 45 (0, 0))) ∧ Aside0 (Below w.heap.size w wr)) (fun _ i _ => l.length - (intOf i).toNat)
  case atStart => exact ⟨0, 0, 0, rfl, Nat.zero_le _, rfl, by decide, HG, B2⟩
  case round =>
    obtain ⟨k, F, m, rfl, hk, rfl, hF, HE, HB⟩ := hrel
    by_cases hlt : k < l.length
    · obtain ⟨ad, f, rfl, hf0, hcell0⟩ := at_flag HR.out rfl k hlt
      have hcell := pw_cell_below HB.out hcell0
      have hf := HW.out f (List.mem_of_getElem? hf0)
      have QRaise := Aside0.mk (raise_any g f hf (F : Int) m)
      have QRight := Aside0.mk (fun (m : World) => right_any f hf m)
      have ht : Int.tmod (k : Int) 3 = ((k % 3 : Nat) : Int) := by rw [Int.tmod_eq_emod_of_nonneg (by omega)]; omega
      obtain ⟨r3, hr3⟩ : ∃ r, r = k % 3 := ⟨_, rfl⟩
      rw [← hr3] at ht
      clear hr3 hcell0 hf0
      cases hrt : rightB f
      · rw [hrt] at QRaise QRight
        simp only [if_neg (show ¬ (false = true) by decide)] at QRaise
        by_cases h3 : r3 = 2
        · subst h3
          go_wp2_with (first
            | (go_at_call 6; refine (QRaise.out _ HE.out).mono ?_; rintro e w3 ⟨rfl, ⟨m', hh⟩, hgr⟩; have HE3 := Aside0.mk hh; have B3 := Aside0.mk (HB.out.grown hgr HB.out.size (fun k hk => by cases hk; exact hg0.out)); clear hh hgr)
            | (go_at_call 7; refine (QRight.out _).mono ?_; rintro e w' ⟨rfl, n, rfl⟩)
            | (go_at_call 9; refine (hold_any g (F : Int) m' (w3.drewN (n)) HE3.out).mono ?_; rintro e w4 ⟨rfl, hh, hgr⟩; have HE4 := Aside0.mk hh; have B4 := Aside0.mk ((pw_below_drewN B3.out (n)).grown hgr B3.out.size (fun k hk => by cases hk; exact hg0.out)); clear hh hgr))
          go_roundw
          case rel => exact ⟨k + 1, 0, m', by go_num, by omega, rfl, by decide, HE4, B4⟩
          case measure => simp [intOf]; omega
        · have h3' : ((r3 : Int) == 2) = false := by simp; omega
          go_wp2_with (first
            | (go_at_call 6; refine (QRaise.out _ HE.out).mono ?_; rintro e w3 ⟨rfl, ⟨m', hh⟩, hgr⟩; have HE3 := Aside0.mk hh; have B3 := Aside0.mk (HB.out.grown hgr HB.out.size (fun k hk => by cases hk; exact hg0.out)); clear hh hgr)
            | (go_at_call 7; refine (QRight.out _).mono ?_; rintro e w' ⟨rfl, n, rfl⟩))
          go_roundw
          case rel => exact ⟨k + 1, F, m', by go_num, by omega, rfl, hF, HE3, ⟨pw_below_drewN B3.out n⟩⟩
          case measure => simp [intOf]; omega
      · rw [hrt] at QRaise QRight
        simp only [if_true] at QRaise
        have hf32 : f < 32 := of_decide_eq_true hrt
        obtain ⟨ho, hlt2⟩ := or_all ⟨F, hF⟩ ⟨f, hf32⟩
        obtain ⟨G, hG⟩ : ∃ G, G = F ||| f := ⟨_, rfl⟩
        have QJ := Aside0.mk (fun (m : World) => join_flags (F : Int) (f : Int) m)
        simp only [← hG] at ho hlt2
        rw [ho] at QJ QRaise
        clear hG ho
        by_cases h3 : r3 = 2
        · subst h3
          go_wp2_with (first
            | (go_at_call 6; refine (QRaise.out _ HE.out).mono ?_; rintro e w3 ⟨rfl, ⟨m', hh⟩, hgr⟩; have HE3 := Aside0.mk hh; have B3 := Aside0.mk (HB.out.grown hgr HB.out.size (fun k hk => by cases hk; exact hg0.out)); clear hh hgr)
            | (go_at_call 7; refine (QRight.out _).mono ?_; rintro e w' ⟨rfl, n, rfl⟩)
            | (go_at_call 8; refine (QJ.out _).mono ?_; rintro e w' ⟨rfl, n5, rfl⟩)
            | (go_at_call 9; refine (hold_any g (G : Int) m' (w3.drewN (n + n5)) HE3.out).mono ?_; rintro e w4 ⟨rfl, hh, hgr⟩; have HE4 := Aside0.mk hh; have B4 := Aside0.mk ((pw_below_drewN B3.out (n + n5)).grown hgr B3.out.size (fun k hk => by cases hk; exact hg0.out)); clear hh hgr))
          go_roundw
          case rel => exact ⟨k + 1, 0, m', by go_num, by omega, rfl, by decide, HE4, B4⟩
          case measure => simp [intOf]; omega
        · have h3' : ((r3 : Int) == 2) = false := by simp; omega
          go_wp2_with (first
            | (go_at_call 6; refine (QRaise.out _ HE.out).mono ?_; rintro e w3 ⟨rfl, ⟨m', hh⟩, hgr⟩; have HE3 := Aside0.mk hh; have B3 := Aside0.mk (HB.out.grown hgr HB.out.size (fun k hk => by cases hk; exact hg0.out)); clear hh hgr)
            | (go_at_call 7; refine (QRight.out _).mono ?_; rintro e w' ⟨rfl, n, rfl⟩)
            | (go_at_call 8; refine (QJ.out _).mono ?_; rintro e w' ⟨rfl, n5, rfl⟩))
          go_roundw
          case rel => exact ⟨k + 1, G, m', by go_num, by omega, rfl, hlt2, HE3, ⟨pw_below_drewN B3.out _⟩⟩
          case measure => simp [intOf]; omega
    · obtain rfl : k = l.length := by omega
      have QT := Aside0.mk (test_any g F hF m wr HE.out)
      have QSh := Aside0.mk (fun (m : World) => show_any F hF m)
      have hss := show_some ⟨F, hF⟩
      obtain ⟨sF, hsF⟩ : ∃ s, s = showB F := ⟨_, rfl⟩
      simp only [← hsF] at hss
      rw [← hsF] at QSh
      clear hsF
      go_wp2_with (first
        | (go_at_call 10; refine QT.out.mono ?_; rintro e w3 ⟨rfl, n, rfl⟩)
        | (go_at_call 11; refine (QSh.out _).mono ?_; rintro e w4 ⟨rfl, hb⟩; have B4 := Aside0.mk (below_then HB.out HB.out.size (below_after hb)); clear hb))
      go_loopw [14, 15] (fun v14 v15 wr => ∃ (y j : Nat), v14 = .int .u64 (y : Int) ∧ y < 18446744073709551616 ∧ v15 = .int .i64 (j : Int) ∧ j ≤ 20 ∧ Aside0 (Below w.heap.size w wr)) (fun _ j _ => 20 - (intOf j).toNat)
      case atStart => exact ⟨x, 0, rfl, hx, rfl, by decide, B4⟩
      case round =>
        obtain ⟨y, j, rfl, hy, rfl, hj, HB2⟩ := hrel
        by_cases hj2 : j < 20
        · have hjT : (j : Int) < 20 := by omega
          have QU := Aside0.mk (fun (m : World) => up_any y hy m)
          have hz := upN_lt hy
          obtain ⟨o1, o2⟩ := up_order hy
          obtain ⟨z, hzz⟩ : ∃ z, z = upN y := ⟨_, rfl⟩
          rw [← hzz] at QU hz o1 o2
          clear hzz
          have QO := Aside0.mk (fun (m : World) => order_any y z hy hz m)
          have QL := Aside0.mk (fun (m : World) => less_any z y hz hy m)
          obtain ⟨oo, hoo⟩ : ∃ o, o = ordN y z := ⟨_, rfl⟩
          rw [← hoo] at QO o1
          rw [o2] at QL
          have ho1 : decide ((0 : Int) < oo) = false := decide_eq_false o1
          clear hoo o2
          by_cases he : z = y
          · subst he
            go_wp2_with (go_at_call 12; refine (QU.out _).mono ?_; rintro e w5 ⟨rfl, n5, rfl⟩)
            go_roundw
            case rel => exact ⟨_, j + 1, rfl, hz, by go_num, by omega, ⟨pw_below_drewN HB2.out _⟩⟩
            case measure => simp [intOf]; omega
          · have hne : ((z : Int) != (y : Int)) = true := by simp; omega
            go_wp2_with (first
              | (go_at_call 12; refine (QU.out _).mono ?_; rintro e w5 ⟨rfl, n5, rfl⟩)
              | (go_at_call 13; refine (QO.out _).mono ?_; rintro e w6 ⟨rfl, n6, rfl⟩)
              | (go_at_call 15; refine (QL.out _).mono ?_; rintro e w7 ⟨rfl, n7, rfl⟩))
            go_roundw
            case rel => exact ⟨_, j + 1, rfl, hz, by go_num, by omega, ⟨pw_below_drewN HB2.out _⟩⟩
            case measure => simp [intOf]; omega
        · obtain rfl : j = 20 := by omega
          go_wp2
          go_ret
          exact ⟨rfl, HB2.out⟩
end Go.Proofs.Ytdpoddgnpmefaaa
