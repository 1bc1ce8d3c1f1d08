/- ExactOwn returns true at every input, and leaves its arguments and all old memory as they were, where the table math/bits.deBruijn64tab holds at first what the program's text lays into it (the card ties that). -/
import Derived.Test.YtgpjplelgffocaaGreatDoorC6
import Derived.Test.YtgpjplelgffocaaGreatDoorRows
import Derived.Test.YtgpjplelgffocaaGreatDoorTie
import Derived.Test.YtgpjplelgffocaaGreatDoorCards
import Derived.WalkKit
import Derived.ProofKit
import Derived.LaidMore
import Derived.OpenShut
import Derived.Below
import Derived.Stop.Joined
import Derived.SevenTiedAt
namespace Go.Proofs.YtgpjplelgffocaaGreatDoor
open Go.RowKit Go.Proofs.YtgpjplelgffocaaGreatDoorW.PrintWords Limb
set_option linter.unusedVariables false
set_option linter.unusedSimpArgs false

/-- Words of the call's own that may be written. -/
def Row (w : World) (b : Nat) (A : Option Addr) (n : Nat) : Prop := n = 0 ∨ ∃ g cap L, A = some ⟨g, 0, none⟩ ∧ n ≤ L.length ∧ b ≤ g ∧ kU.R 23 w b (fun _ => True) (.slice (some ⟨g, 0, none⟩) L.length cap) L
theorem Row.of {w : World} {b n c : Nat} {bb : Bool} {A : Option Addr} {x z e : Int} (h : PDy w b (.agg #[.bool bb, .slice A n c, .int .i64 x]) z e) : Row w b A n := by
 obtain ⟨A', n', c', he, A2, n2, c2, c3, l', he2, h1, h2, h3, hr⟩ := h
 by_cases hn : n = 0
 · exact .inl hn
 · obtain ⟨-, q0, -⟩ := agg_inj he
   obtain ⟨q1, q2, -⟩ := slice_inj q0
   obtain ⟨r1, r2, -⟩ := slice_inj he2
   subst q1 q2 r1 r2
   have hl : n ≤ l'.length := by
    have := congrArg List.length h3
    rw [List.length_take, h1] at this; omega
   obtain ⟨g, cap, hv, hg, -, -⟩ := Kd.R_form hr (by omega)
   obtain ⟨s1, -, s3⟩ := slice_inj hv
   subst s1 s3
   exact .inr ⟨g, _, l', rfl, hl, hg, hr⟩
theorem Row.below {w w1 : World} {b n : Nat} {A : Option Addr} (h : Row w b A n) (hb : Below w.heap.size w w1) : Row w1 b A n := by
 rcases h with h | ⟨g, cap, L, h1, h2, h3, hr⟩
 · exact .inl h
 · exact .inr ⟨g, cap, L, h1, h2, h3, Kd.R_below hr hb⟩
theorem Row.grown {w w1 : World} {b n g : Nat} {A : Option Addr} (h : Row w b A n) (hg : w.grownBy w1 (some g)) (hgb : g < b) : Row w1 b A n := by
 rcases h with h | ⟨g2, cap, L, h1, h2, h3, hr⟩
 · exact .inl h
 · refine .inr ⟨g2, cap, L, h1, h2, h3, Kd.R_mono (Kd.R_grown (Kd.R_bound hr) hg ?_) (fun _ _ => trivial)⟩
   rintro k ⟨_, hk, _⟩ he
   cases he
   omega
theorem Row.grown_box {w w1 : World} {b n g : Nat} {A : Option Addr} {t : TypeId} {cells : Array Value} (h : Row w b A n) (hb : w.heap[g]? = some (.cells cells t (0, 0))) (ht : 23 ≠ t) (hg : w.grownBy w1 (some g)) : Row w1 b A n := by
 rcases h with h | ⟨g2, cap, L, h1, h2, h3, hr⟩
 · exact .inl h
 · refine .inr ⟨g2, cap, L, h1, h2, h3, Kd.R_mono (Kd.R_grown (Kd.R_bound hr) hg ?_) (fun _ _ => trivial)⟩
   rintro k ⟨_, _, _, q, hq, c2, hc2⟩ he
   cases he
   rw [hb] at hc2
   injection hc2 with hc2
   injection hc2 with _ hc3
   have : q = 23 := by simpa [Kd.E, kU, Kd.scalar] using hq
   exact ht (this.symm.trans hc3.symm)
theorem Row.lt {w : World} {b n g o : Nat} (h : Row w b (some ⟨g, o, none⟩) n) (hn : n ≠ 0) : g < w.heap.size := by
 rcases h with h | ⟨g2, cap, L, h1, h2, h3, hr⟩
 · exact absurd h hn
 · injection h1 with h1
   injection h1 with h1
   subst h1
   obtain ⟨g3, cap3, hv, -, hg3, -⟩ := Kd.R_form hr (by omega)
   injection hv with s1
   injection s1 with s1
   injection s1 with s1
   omega
theorem Row.step {w : World} {b n k : Nat} {A : Option Addr} (h : Row w b A n) (hk : k < n) : ∃ g old cells, A = some ⟨g, 0, none⟩ ∧ b ≤ g ∧ w.heap[g]? = some (.cells cells 23 (0, 0)) ∧ w.cell? ⟨g, k, none⟩ = some old ∧ w.frozen? ⟨g, k, none⟩ = false ∧
 Row (w.setCell ⟨g, k, none⟩ (.int .u64 77)) b A n ∧ w.grownBy (w.setCell ⟨g, k, none⟩ (.int .u64 77)) (some g) := by
 rcases h with h | ⟨g, cap, L, rfl, h2, h3, hr⟩
 · omega
 · obtain ⟨g3, cap3, hv, -, -, cells, hc⟩ := Kd.R_form hr (by omega)
   injection hv with s1
   injection s1 with s1
   injection s1 with s1
   subst s1
   obtain ⟨q1, q2, q3⟩ := put_word hr (k := k) (by omega)
   have q4 := (Kd.R_put hr (k : Int) 77).2
   rw [Int.toNat_natCast] at q4
   exact ⟨g, _, cells, rfl, h3, hc, q1, q2, .inr ⟨g, cap, L.set k 77, rfl, by rw [List.length_set]; exact h2, h3, by have := q3 77; rw [List.length_set]; exact this⟩, q4⟩
theorem blk_apart {w : World} {g g2 : Nat} {c c2 : Array Value} {t : TypeId} (h : w.heap[g]? = some (.cells c t (0, 0))) (h2 : w.heap[g2]? = some (.cells c2 23 (0, 0))) (ht : 23 ≠ t) : g ≠ g2 := by
 rintro rfl
 rw [h] at h2
 injection h2 with h2
 injection h2 with _ h3
 exact ht h3.symm
theorem meas_set {i n : Nat} (h : i < n) : n - (intOf (.int .i64 ((i : Int) + 1))).toNat < n - (intOf (.int .i64 (i : Int))).toNat := meas_int h

theorem own_law (f y x : Nat) (hf : f < 256) (hy : y < 18446744073709551616) (hx : x < 18446744073709551616) (w : World) (hT : TabAt 0 Lib.deBruijn64tab w) :
 Calls Tryz.prog 4 #[.int .u8 f, .int .u64 (y : Int), .int .u64 (x : Int)] w fun en w' => en = .returned (.bool true) ∧ Below w.heap.size w w' := by
 have HT := yk hT
 have BEL := yk (BelN.zero w)
 have Q1 := yk (fun (W : World) (ht : TabAt 0 Lib.deBruijn64tab W) => exact_any f x hf hx W ht)
 have Q2 := yk (fun (W : World) (ht : TabAt 0 Lib.deBruijn64tab W) => exact2_any f y x hf hy hx W ht)
 have OK1 := yk (ex_ok (f := f) (x := x)).1
 have OK2 := yk (ex2_ok f y x)
 have Q3 := yk (fun (W : World) (ht : TabAt 0 Lib.deBruijn64tab W) => cases_law f x hf hx W ht)
 have Q4 := yk (fun (W : World) (ht : TabAt 0 Lib.deBruijn64tab W) => points_any f y x hf hy hx W ht)
 clear hT hf hy hx
 go_enter Tryz.func4, Tryz.ntmps4
 go_wp2_with fail
 go_at_call 7
 refine (lives_any _ (tab_below HT.out BEL.out.1)).mono ?_
 rintro en1 w1 ⟨rfl, hb⟩
 replace BEL := yk (BEL.out.next hb)
 clear hb
 go_wp2_with fail
 have BLI := BEL
 go_at_call 5
 refine (Q1.out _ (tab_below HT.out BEL.out.1)).mono ?_
 rintro en2 w2 ⟨v2, rfl, hr, hb⟩
 replace BEL := yk (BEL.out.next hb)
 have P1 := yk hr
 obtain ⟨b2, A2, n2, c2, x2, rfl⟩ := hr.ex
 clear hr hb
 replace P1 := yk (P1.out.lower (b' := w.heap.size) BLI.out.1.size)
 clear BLI
 have BELo := BEL
 go_wp2_with (replace BEL := yk ((BEL.out.alloc (.cells #[.bool false, .slice none 0 0, .int .i64 0] 27)).less (j := 0) (by omega)); have HN := yk (blk_new w2 (.cells #[.bool false, .slice none 0 0, .int .i64 0] 27)); replace P1 := yk (P1.out.below (below_alloc yr (.cells #[.bool false, .slice none 0 0, .int .i64 0] 27))); ((with_reducible refine gate_store (p := 7) rfl ?_); go_must (refine sdy 7 (.tmp 21) rfl rfl rfl rfl rfl HN.out rfl ?_; intro wb HX HG)); replace P1 := yk (P1.out.grown_box HN.out (by decide) HG.out); have LB_X7 := BELo.out.2; replace BEL := yk (BEL.out.grown HG.out (Nat.le_trans (Nat.le_add_right _ _) LB_X7)); have LL_X7 := yk LB_X7; clear LB_X7; have X7 := HX; clear HG HN HX)
 clear BELo
 have HB1 := yk (show n2 < 9223372036854775807 by obtain ⟨-, -, -, q, -⟩ := CDy.parts P1.out.c; have := OK1.out.len; omega)
 have R1 := yk (Row.of P1.out)
 clear P1
 obtain ⟨B2, hB2⟩ : ∃ B, B = wb.heap.size := ⟨_, rfl⟩
 have HLT := yk (fun (g o : Nat) (hA : A2 = some ⟨g, o, none⟩) (hn : n2 ≠ 0) => (by rw [hB2]; exact Row.lt (hA ▸ R1.out) hn : g < B2))
 have LB2 := yk (show w.heap.size ≤ B2 by rw [hB2]; exact BEL.out.1.size)
 go_at_call 15
 refine (Q2.out _ (tab_below HT.out BEL.out.1)).mono ?_
 rintro en3 w3 ⟨v3, rfl, hr, hb⟩
 replace BEL := yk (BEL.out.next hb)
 replace X7 := yk (yb X7.out hb)
 replace R1 := yk (R1.out.below hb)
 have P2 := yk hr
 obtain ⟨b3, A3, n3, c3, x3, rfl⟩ := hr.ex
 clear hr hb
 rw [← hB2] at P2
 clear hB2
 have BELo := BEL
 go_wp2_with (replace BEL := yk ((BEL.out.alloc (.cells #[.bool false, .slice none 0 0, .int .i64 0] 27)).less (j := 0) (by omega)); have HN := yk (blk_new w3 (.cells #[.bool false, .slice none 0 0, .int .i64 0] 27)); have L_X7 := lt_blk X7.out; replace X7 := yk (blk_alloc X7.out (.cells #[.bool false, .slice none 0 0, .int .i64 0] 27)); replace R1 := yk (R1.out.below (below_alloc yr (.cells #[.bool false, .slice none 0 0, .int .i64 0] 27))); replace P2 := yk (P2.out.below (below_alloc yr (.cells #[.bool false, .slice none 0 0, .int .i64 0] 27))); ((with_reducible refine gate_store (p := 10) rfl ?_); go_must (refine sdy 10 (.tmp 29) rfl rfl rfl rfl rfl HN.out rfl ?_; intro wb HX HG)); replace R1 := yk (R1.out.grown_box HN.out (by decide) HG.out); replace P2 := yk (P2.out.grown_box HN.out (by decide) HG.out); have LB_X10 := BELo.out.2; replace BEL := yk (BEL.out.grown HG.out (Nat.le_trans (Nat.le_add_right _ _) LB_X10)); replace X7 := yk (blk_grown X7.out HG.out (Nat.ne_of_lt L_X7)); have NE_X7_X10 := yk (Nat.ne_of_lt L_X7); clear L_X7; have LL_X10 := yk LB_X10; clear LB_X10; have X10 := HX; clear HG HN HX; obtain ⟨q0, q0', q1, q1', q2, q2'⟩ := bc3 X7.out)
 have HB2 := yk (show n3 < 9223372036854775807 by obtain ⟨-, -, -, q, -⟩ := CDy.parts P2.out.c; have := OK2.out.len; omega)
 have R2 := yk (Row.of P2.out)
 clear P2 BELo
 have HN1 := yk (show n2 < 9223372036854775807 from HB1.out)
 have HN2 := yk (show n3 < 9223372036854775807 from HB2.out)
 go_loopw [35] (fun v35 wr => ∃ i : Nat, v35 = .int .i64 i ∧ i ≤ n2 ∧ Aside0 (BelN w 0 wr) ∧ Aside0 (wr.heap[w2.heap.size]? = some (.cells #[.bool b2, .slice A2 n2 c2, .int .i64 x2] 27 (0, 0))) ∧ Aside0 (wr.heap[w3.heap.size]? = some (.cells #[.bool b3, .slice A3 n3 c3, .int .i64 x3] 27 (0, 0))) ∧ Aside0 (Row wr w.heap.size A2 n2) ∧ Aside0 (Row wr B2 A3 n3)) (fun v35 _ => n2 - (intOf v35).toNat)
 case atStart => exact ⟨0, rfl, Nat.zero_le _, BEL, X7, X10, R1, R2⟩
 case round =>
  clear BEL X7 X10 R2 R1
  obtain ⟨i, rfl, hik, BEL, X7, X10, R1, R2⟩ := hrel
  by_cases hlt : i < n2
  · have hld : decide ((i : Int) < n2) = true := decide_eq_true (by omega)
    have hlt0 : (i : Int) < n2 := by omega
    obtain ⟨g, old, cells, hA, hg, hcl, q1, q2, q3, q4⟩ := R1.out.step hlt
    have HL := yk hlt
    have HG2 := yk (HLT.out g 0 hA (by omega))
    have HR := yk q3
    have HG := yk q4
    have hst := run_store_word (P := Tryz.prog) (u := 77) q1 q2
    have N7 := yk (blk_apart X7.out hcl (by decide))
    have N10 := yk (blk_apart X10.out hcl (by decide))
    have HGW := yk (show w.heap.size ≤ g from hg)
    have hwi : wrap64 ((i : Int) + 1) = (i : Int) + 1 := by have := hlt; have h1 := HN1.out; unfold wrap64; omega
    subst hA
    obtain ⟨z0, z0', z1, z1', z2, z2'⟩ := bc3 X7.out
    clear q3 q4 hcl hg hlt hik
    go_wp2
    go_roundw
    case rel => exact ⟨i + 1, by go_num, HL.out, ⟨BEL.out.grown HG.out HGW.out⟩, ⟨blk_grown X7.out HG.out N7.out⟩, ⟨blk_grown X10.out HG.out N10.out⟩, HR, ⟨R2.out.grown HG.out HG2.out⟩⟩
    case measure => rw [hwi]; exact meas_int HL.out
  · have hld : decide ((i : Int) < n2) = false := decide_eq_false (by omega)
    have hlt' : ¬ (i : Int) < n2 := by omega
    clear hlt hik
    obtain ⟨q0, q0', q1, q1', q2, q2'⟩ := bc3 X10.out
    go_wp2_with fail
    clear q0 q0' q1 q1' q2 q2'
    go_loopw [46] (fun v46 wr => ∃ i : Nat, v46 = .int .i64 i ∧ i ≤ n3 ∧ Aside0 (BelN w 0 wr) ∧ Aside0 (wr.heap[w2.heap.size]? = some (.cells #[.bool b2, .slice A2 n2 c2, .int .i64 x2] 27 (0, 0))) ∧ Aside0 (wr.heap[w3.heap.size]? = some (.cells #[.bool b3, .slice A3 n3 c3, .int .i64 x3] 27 (0, 0))) ∧ Aside0 (Row wr B2 A3 n3)) (fun v46 _ => n3 - (intOf v46).toNat)
    case atStart => exact ⟨0, rfl, Nat.zero_le _, BEL, X7, X10, R2⟩
    case round =>
     clear BEL X7 X10 R2
     obtain ⟨i, rfl, hik, BEL, X7, X10, R2⟩ := hrel
     by_cases hlt : i < n3
     · have hld : decide ((i : Int) < n3) = true := decide_eq_true (by omega)
       have hlt0 : (i : Int) < n3 := by omega
       obtain ⟨g, old, cells, hA, hg, hcl, q1, q2, q3, q4⟩ := R2.out.step hlt
       have HL := yk hlt
       have HR := yk q3
       have HG := yk q4
       have hst := run_store_word (P := Tryz.prog) (u := 77) q1 q2
       have N7 := yk (blk_apart X7.out hcl (by decide))
       have N10 := yk (blk_apart X10.out hcl (by decide))
       have HGW := yk (show w.heap.size ≤ g from Nat.le_trans LB2.out hg)
       have hwi : wrap64 ((i : Int) + 1) = (i : Int) + 1 := by have := hlt; have h2 := HN2.out; unfold wrap64; omega
       subst hA
       obtain ⟨z0, z0', z1, z1', z2, z2'⟩ := bc3 X10.out
       clear q3 q4 hcl hg hlt hik
       go_wp2
       go_roundw
       case rel => exact ⟨i + 1, by go_num, HL.out, ⟨BEL.out.grown HG.out HGW.out⟩, ⟨blk_grown X7.out HG.out N7.out⟩, ⟨blk_grown X10.out HG.out N10.out⟩, HR⟩
       case measure => rw [hwi]; exact meas_int HL.out
     · have hld : decide ((i : Int) < n3) = false := decide_eq_false (by omega)
       have hlt' : ¬ (i : Int) < n3 := by omega
       clear hlt hik
       go_wp2_with fail
       go_at_call 3
       refine (Q3.out _ (tab_below HT.out BEL.out.1)).mono ?_
       rintro en21 w21 ⟨rfl, hb⟩
       replace BEL := yk (BEL.out.next hb)
       clear hb
       go_wp2_with fail
       go_at_call 16
       refine (Q4.out _ (tab_below HT.out BEL.out.1)).mono ?_
       rintro en22 w22 ⟨rfl, hb⟩
       replace BEL := yk (BEL.out.next hb)
       clear hb
       go_wp2_with fail
       go_ret
       exact ⟨rfl, BEL.out.1⟩
end Go.Proofs.YtgpjplelgffocaaGreatDoor

namespace Go.Proofs.YtgpjplelgffocaaGreatDoor.exactOwn
open Go.ChangeShapes Go.WideShapes Go.ChangeAt Go.RowKit Go.WideMaps Go.WideElems
set_option linter.unusedVariables false

theorem own : ownKnob Tryz.prog.godebug = none := by kernel_rfl
theorem gTab : Tryz.prog.globalNamed "math/bits.deBruijn64tab" = some 0 := by kernel_rfl
theorem tTab : (Tryz.prog.globals[0]?).map (·.type) = some 112 := by kernel_rfl
theorem uTab : Tryz.prog.underlying 112 = some (.array 64 5) := by kernel_rfl
theorem laid_list : Rows.laid_math_bits_deBruijn64tab (H := Unit) = .agg (Lib.deBruijn64tab.map (fun n : Nat => .lit (.int .u8 (n : Int)))) := rfl

theorem door_met (os : Os) (args : Array Value) : laidMetH Tryz.prog Rows.exactOwnRow.laid ((World.doorLaid Tryz.prog 400 os).forCall (fun _ _ => 0) ⟨#[], args, []⟩).memory :=
  laidMetH_of_parts3 (fuel := 8) (laidMet_of_run' 8 (by kernel_rfl) (by kernel_rfl)) (by kernel_rfl) (by kernel_rfl)

set_option maxRecDepth 100000 in
/-- What the condition gives the walk: the table's cells. -/
theorem of_laid {W : World} (h : laidMetH Tryz.prog Rows.exactOwnRow.laid W) : TabAt 0 Lib.deBruijn64tab W := by
  rw [MakeChecks.laidMetH_plain _ _ _ (by kernel_rfl)] at h
  obtain ⟨ps, ⟨g0, t0, cs0, f0, p0, q0, hg0, ht0, hv0, hd0, _, _⟩, _⟩ := h
  obtain rfl := Option.some.inj (gTab.symm.trans hg0)
  obtain rfl := Option.some.inj (tTab.symm.trans ht0)
  obtain ⟨xs, m1, rfl, hx1, hlen, hn, hel⟩ := DataW.trod_array uTab hd0
  have c1 : Tryz.prog.cellsOf 5 = 1 := by kernel_rfl
  rw [c1] at hel
  simp only [Prod.mk.injEq] at hx1
  have hx2 := laid_list.symm.trans hx1.1
  injection hx2 with hx3
  intro j hj
  have hj64 : j < 64 := hj
  have h1 := hel j hj64
  have hxj : xs[j]? = some xs[j] := List.getElem?_eq_getElem (by omega)
  rw [hxj] at h1
  obtain ⟨k, e1, e2, _⟩ := DataW.trod_int Tryz.underlying5 h1
  have h2 : (Lib.deBruijn64tab.map (fun n : Nat => (DataW.lit (H := Unit) (.int .u8 (n : Int)))))[j]? = some (.lit (.int .u8 k)) := by
    rw [hx3, List.getElem?_map, hxj, Option.map_some, e2]
  obtain ⟨y, hy⟩ : ∃ y, Lib.deBruijn64tab[j]? = some y := ⟨_, List.getElem?_eq_getElem hj⟩
  rw [List.getElem?_map, hy, Option.map_some] at h2
  have h2 : (y : Int) = k := by simpa only [Option.some.injEq, DataW.lit.injEq, Lit.int.injEq, true_and] using h2
  rw [World.var?_cell hg0 hv0 j]
  have h3 : cs0.toList[j]? = some (.int .u8 k) := by
    rw [Nat.mul_one] at e1
    have h4 : (cs0.toList.drop j)[0]? = some (.int .u8 k) := by
      have h5 : ((cs0.toList.drop j).take 1)[0]? = some (.int .u8 k) := by rw [e1]; rfl
      rw [List.getElem?_take_of_lt (by decide)] at h5
      exact h5
    rw [List.getElem?_drop] at h4
    exact h4
  rw [← Array.getElem?_toList, h3, ← h2, List.getD_eq_getElem?_getD, hy]
  rfl

set_option maxRecDepth 100000 in
theorem lifted (os : Os) (started : os.Started) (H : Type) (enc : TypeId × Value → H) :
    ReturnsInHanded {} Tryz.checked os 4 .any (fun w args => (Rows.exactOwnSpec.pre enc Tryz.prog Tryz.f4 [] false w args ∧ laidMetH Tryz.prog Rows.exactOwnRow.laid w) ∧ sizedMet enc Tryz.prog Tryz.f4 (OpenSpec.ofChange Rows.exactOwnSpec) false w args)
      (Rows.exactOwnSpec.post enc Tryz.prog Tryz.f4 false true false false) := by
  refine returnsInHanded_of_change_and (C := Tryz.checked) (X := fun w _ => laidMetH Tryz.prog Rows.exactOwnRow.laid w) (fun _ _ _ hh h => h.of_heap hh) own started (by kernel_rfl) Tryz.func4
    (ChangeSpec.witness_shaped (enc := enc) (C := Tryz.checked) (os := os) (X := fun w _ => laidMetH Tryz.prog Rows.exactOwnRow.laid w) false (World.doorLaid Tryz.prog 400 os) #[.int .u8 0, .int .u64 0, .int .u64 0] 8 rfl (World.shaped_of_RefB (by kernel_rfl) (by kernel_rfl)) (by kernel_rfl) (by kernel_rfl) (by kernel_rfl) (door_met os _)) ?_
  intro W base args ds gs before hval0 hW _ _ hL _
  have hval : ∀ (j : Nat) t v, Tryz.f4.params[j]? = some t → args[j]? = some v → Value.okWide Tryz.prog W .any base t v := hval0
  have hW' := hW
  obtain ⟨p, q, hA0, hV, rfl, hfz, hnd⟩ := hW
  have hA : DataW.TrodAll enc Tryz.prog W 0 (fun _ => true) true Tryz.f4.params.toList args.toList ds p := hA0
  rw [Tryz.params4] at hA hval
  obtain ⟨v0, vs0, d0, ds0, p0, q0, hargs, rfl, rfl, h0, r0⟩ := trodAll_cons hA
  obtain ⟨v1, vs1, d1, ds1, p1, q1, rfl, rfl, rfl, h1, r1⟩ := trodAll_cons r0
  obtain ⟨v2, vs2, d2, ds2, p2, q2, rfl, rfl, rfl, h2, r2⟩ := trodAll_cons r1
  obtain ⟨rfl, rfl, rfl⟩ := trodAll_nil r2
  obtain rfl : args = #[v0, v1, v2] := by cases args; simp_all
  obtain ⟨rfl, rfl⟩ := trodVars_none hV
  obtain ⟨n0, rfl, rfl, rfl, w0⟩ := open_int Tryz.underlying22 (hval 0 22 v0 rfl rfl) h0
  have hw0 : 0 ≤ n0 ∧ n0 ≤ 255 := by simpa [Lit.wf, IntKind.min, IntKind.max, IntKind.signed, IntKind.bits] using w0
  obtain ⟨a0, rfl⟩ : ∃ a : Nat, n0 = (a : Int) := ⟨n0.toNat, by rw [Int.toNat_of_nonneg hw0.1]⟩
  obtain ⟨n1, rfl, rfl, rfl, w1⟩ := open_int Tryz.underlying23 (hval 1 23 v1 rfl rfl) h1
  have hw1 : 0 ≤ n1 ∧ n1 ≤ 18446744073709551615 := by simpa [Lit.wf, IntKind.min, IntKind.max, IntKind.signed, IntKind.bits] using w1
  obtain ⟨a1, rfl⟩ : ∃ a : Nat, n1 = (a : Int) := ⟨n1.toNat, by rw [Int.toNat_of_nonneg hw1.1]⟩
  obtain ⟨n2, rfl, rfl, rfl, w2⟩ := open_int Tryz.underlying23 (hval 2 23 v2 rfl rfl) h2
  have hw2 : 0 ≤ n2 ∧ n2 ≤ 18446744073709551615 := by simpa [Lit.wf, IntKind.min, IntKind.max, IntKind.signed, IntKind.bits] using w2
  obtain ⟨a2, rfl⟩ : ∃ a : Nat, n2 = (a : Int) := ⟨n2.toNat, by rw [Int.toNat_of_nonneg hw2.1]⟩
  clear hA0 hval0
  refine (own_law a0 a1 a2 (by omega) (by omega) (by omega) W (of_laid hL)).mono fun e W' ⟨he, bel⟩ => ?_
  subst he
  exact ⟨_, rfl, _, _, _, [], _, [], hW', trodAll_mk1 (shut_bool Tryz.underlying4 _), (trodAll_cons_mk (shut_int Tryz.underlying22 w0) (trodAll_cons_mk (shut_int Tryz.underlying23 w1) (trodAll_cons_mk (shut_int Tryz.underlying23 w2) trodAll_mk0))), rfl, bel.frame _, fun h => by cases h⟩

theorem said : Rows.ExactOwnSaid :=
  OpenClaim.holds_of_wide 4 Tryz.f4 rfl rfl rfl rfl rfl rfl rfl ⟨rfl, rfl, rfl, rfl, rfl⟩ rfl rfl rfl rfl rfl (by kernel_rfl) Tryz.func4 (by kernel_rfl)
    (of_decide_eq_true (by kernel_rfl)) (by unfold Func.isWrapper; first | (rw [if_pos (by decide +kernel)]; kernel_rfl) | (rw [if_neg (by decide +kernel)]; exact ⟨rfl, rfl⟩))
    (fun os started H enc _ => lifted os started H enc)

theorem holds : Rows.ExactOwnCardSaid :=
  Claim7.holds_tied_plain_at .later [] [.data] true (true, "937c6fa9d3d6eb8631a054c226fd4c2e1a7aea0a5be803cafa20810dcd7463de") false
    said (fun _ h => by cases h) (by kernel_rfl) (fun _ h => by cases h) exactOwn_row_tie rfl ⟨rfl, rfl⟩ (by kernel_rfl) rfl
    (fun f fn hf hfn => by
      obtain rfl : f = 4 := Option.some.inj ((show Tryz.prog.funcNamed "ulp/ulplaw23.ExactOwn" = some 4 by kernel_rfl).symm.trans hf) |>.symm
      obtain rfl : fn = Tryz.f4 := (Option.some.inj (Tryz.func4.symm.trans hfn)).symm
      exact ⟨by kernel_rfl, fun j t ht => by
        rw [Tryz.params4] at ht
        have h3 : t = 22 ∨ t = 23 := by
          rcases j with _ | _ | _ | j
          · first | exact (by simpa using ht.symm) | exact .inl (by simpa using ht.symm) | exact .inr (by simpa using ht.symm)
          · first | exact (by simpa using ht.symm) | exact .inl (by simpa using ht.symm) | exact .inr (by simpa using ht.symm)
          · first | exact (by simpa using ht.symm) | exact .inl (by simpa using ht.symm) | exact .inr (by simpa using ht.symm)
          · simp at ht
        rcases h3 with rfl | rfl
        · exact (show Tryz.prog.wantsStandIn 22 = false by kernel_rfl)
        · exact (show Tryz.prog.wantsStandIn 23 = false by kernel_rfl)⟩)
    (by kernel_rfl)
end Go.Proofs.YtgpjplelgffocaaGreatDoor.exactOwn
