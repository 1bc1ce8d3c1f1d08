/- Part 6 of the library of this claim: what the program and the document compute, as contracts of their functions. -/
import Derived.Test.YtkdicconchobfaaGreatDoorP5
set_option maxRecDepth 100000
set_option maxHeartbeats 8000000
namespace Go.Proofs.YtkdicconchobfaaGreatDoor
open Go Go.RowKit Go.Proofs.YtkdicconchobfaaGreatDoorW.PrintWords Limb Exq
set_option linter.unusedVariables false
set_option linter.unusedSimpArgs false
theorem CQ.any {w : World} {v : Value} {q : Rat} {N : Nat} (h : CQ w v q N) (hf : FitQ q) : ∃ s m x, ADy w v s m x ∧ Dv (sgn s m) x = q ∧ Fit m x = true := by
 obtain ⟨z, e, h, rfl, hB⟩ := h
 exact ⟨_, _, _, h.any, (yb_form z e).symm, fitq_iff.1 hf⟩
theorem exp_cq {v : Value} {q : Rat} {N : Nat} {p : Int} {w : World} (h : CQ w v q N) (hf : FitQ q) (hT : TB w) :
 Calls Tryz.prog 9 #[v, .int .i64 p] w fun en w' => ∃ v' why, en = .returned (.tuple #[v', .int .i64 why]) ∧ Asked w' w.heap.size True p q SpE v' why ∧ BL w w' := by
 obtain ⟨s, m, x, ha, rfl, hfit⟩ := h.any hf
 have e : (Fit m x = true) = True := propext ⟨fun _ => trivial, fun _ => hfit⟩
 have := exp_q (p := p) ha hT
 rw [e] at this; exact this
theorem four_mul {a b c d x y l u e : Rat} (h : Four (mul4 a b c d) x y) (c1 : CutOf false x l e) (c2 : CutOf true y u e) : l ≤ a * c ∧ b * d ≤ u := by
 obtain ⟨i, j, hi, hj, hq, rfl, rfl⟩ := h
 have h0 := (hq 0 (by decide)).1
 have h3 := (hq 3 (by decide)).2
 exact ⟨Rat.le_trans c1.le h0, Rat.le_trans h3 c2.ge⟩
theorem pw_meets {lx ux ly uy lz uz a1 c1 a2 c2 a3 c3 q r L U : Rat} (ea : Exs a1 c1 q) (eb : Exs a2 c2 r) (ez : Exs a3 c3 (q + r)) (x0 : 0 < lx) (y0 : 0 < ly) (h1 : lx ≤ a1) (h2 : c1 ≤ ux) (h3 : ly ≤ a2) (h4 : c2 ≤ uy) (h5 : lz ≤ a3) (h6 : c3 ≤ uz) (k1 : L ≤ lx * ly) (k2 : ux * uy ≤ U) : lz ≤ U ∧ L ≤ uz := by
 have m := (ea.add eb).meet ez
 have p1 := ea.1; have p2 := eb.1; have q1 := ea.2.1; have q2 := eb.2.1
 have m1 := mul_le h1 h3 (Rat.le_of_lt x0) (Rat.le_of_lt p2)
 have m2 := mul_le h2 h4 (by grind) (by grind)
 constructor <;> grind
theorem pw_one {lx ux lm um a1 c1 a5 c5 q L U : Rat} (ea : Exs a1 c1 q) (em : Exs a5 c5 (-q)) (x0 : 0 < lx) (y0 : 0 < lm) (h1 : lx ≤ a1) (h2 : c1 ≤ ux) (h3 : lm ≤ a5) (h4 : c5 ≤ um) (k1 : L ≤ lx * lm) (k2 : ux * um ≤ U) : L ≤ ((1 : Int) : Rat) ∧ ((1 : Int) : Rat) ≤ U := by
 have m := ea.over em
 have p1 := ea.1; have p2 := em.1; have q1 := ea.2.1; have q2 := em.2.1
 have m1 := mul_le h1 h3 (Rat.le_of_lt x0) (Rat.le_of_lt p2)
 have m2 := mul_le h2 h4 (by grind) (by grind)
 rw [show ((1 : Int) : Rat) = 1 from rfl]
 constructor <;> grind
theorem fit_go3 {p : Int} {r t : Bool} (h : (if (if (!decide (8 ≤ p ∧ p ≤ 4096)) = true then true else !r) = true then true else !t) = false) : r = true ∧ t = true ∧ 8 ≤ p ∧ p ≤ 4096 := by
 by_cases h1 : 8 ≤ p ∧ p ≤ 4096
 · rw [decide_eq_true h1] at h
   cases r
   · cases h
   · cases t
     · cases h
     · exact ⟨rfl, rfl, h1⟩
 · rw [decide_eq_false h1] at h; cases h
theorem Room.got {w : World} {b : Nat} {v : Value} {q : Rat} (h : Room w b v q 0) : PQ w b v q 1000000 ∧ FitQ q := by
 rcases h with ⟨_, h1, h2⟩ | ⟨h, _⟩
 · exact ⟨h1, h2⟩
 · cases h
theorem ab_minus (q : Rat) : ab (-q) = ab q := by
 unfold ab
 by_cases h : 0 ≤ q
 · by_cases h' : 0 ≤ -q
   · rw [if_pos h, if_pos h']; grind
   · rw [if_pos h, if_neg h']; grind
 · rw [if_neg h, if_pos (by grind)]
theorem why_n {w w' : World} {b b' : Nat} {p why : Int} {q : Rat} {v v' : Value} {fits : Prop} (h : Asked w b fits p q SpE v 0) (h' : Asked w' b' True p (-q) SpE v' why) : why = 0 := by
 have hok : 8 ≤ p ∧ p ≤ 4096 := by
  rcases h with ⟨h1, _⟩ | ⟨h1, _⟩
  · cases h1
  · exact h1.2
 obtain ⟨l, u, _, _, _, _, _, _, hs, _⟩ := got_e h
 rcases why_e h' ⟨trivial, hok⟩ with ⟨h1, _⟩ | ⟨_, h2⟩
 · exact h1
 · rw [ab_minus] at h2; exact absurd hs (Rat.not_le.2 h2)
def Fwt7_0 := [dg 0, dg 3, vi 6, U, U, U, U, U, U, U, U, U, U, U, U, U, U, U, U, U, U, U, U, U, U, U, U, U, U, U, U, U, U, U, U, U, U, U, U, U, U, U, U, U, U, U, U, U, U, U, U, U, U, U, U, U, U, U, U, U, U, U, U, U, U, U, U, U, U, U, U, U, U, U, U, U, U, U, U, U, U, U, U, U, U, U, U, U, U, U, U, U, U, U, U, U, U, U, U, U, U, U, U, U, U, U, U, U, U, U, U, U, U, U, U, U, U, U, U, U, U, U, U, U, U, U, U, U, U, U, U, U, U, U, U, U, U, U, U, U, U, U, U, U, U, U, U, U, U]
def Fwt7_1 := fs Fwt7_0 [(3, ps 0 0), (4, ps 1 0), (6, lb false)]
def Bwt7_2 := [bb 25 (d3 0), bb 25 (d3 3)]
def Rwt7_3 : Rg := ⟨3, 7, 0, Fwt7_0, Bwt7_2, [pa 0 0, pa 1 0, pv (lb false) 0], []⟩
def Fwt7_4 := fs Fwt7_1 [(19, vb 7), (20, f1 noF (vb 7))]
def Rwt7_5 : Rg := ⟨2, 7, 2, Fwt7_1, Bwt7_2, [pc (vb 7) 0 13 [] 1, pv (f1 noF (vb 7)) 1], [0]⟩
def Fwt7_6 := fs Fwt7_4 [(21, vi 6), (22, vb 8), (23, f1 noF (vb 8)), (24, f1 noF (vb 8)), (25, gd false (f1 noF (vb 8)) (dg 0)), (26, gd false (f1 noF (vb 8)) (vb 9)), (27, gd false (f1 noF (vb 8)) (f1 noF (vb 9))), (28, pk (f1 noF (vb 8)) (lb true) (f1 noF (vb 9))), (29, pk (f1 noF (vb 8)) (lb true) (f1 noF (vb 9))), (30, gd false (pk (f1 noF (vb 8)) (lb true) (f1 noF (vb 9))) (dg 3)), (31, gd false (pk (f1 noF (vb 8)) (lb true) (f1 noF (vb 9))) (vb 10)), (32, gd false (pk (f1 noF (vb 8)) (lb true) (f1 noF (vb 9))) (f1 noF (vb 10))), (33, pk (pk (f1 noF (vb 8)) (lb true) (f1 noF (vb 9))) (lb true) (f1 noF (vb 10)))]
def Rwt7_7 : Rg := ⟨13, 8, 2, Fwt7_4, Bwt7_2, [pv (vi 6) 0, pc (vb 8) 0 16 [vi 6] 1, pv (f1 noF (vb 8)) 1, pv (f1 noF (vb 8)) 1, ⟨dg 0, 1, [], .ld 0 0, gd false (f1 noF (vb 8)) (dg 0)⟩, ⟨vb 9, 1, [], .cl 1 17 [dg 0] 1 [], gd false (f1 noF (vb 8)) (vb 9)⟩, ⟨f1 noF (vb 9), 2, [], .val, gd false (f1 noF (vb 8)) (f1 noF (vb 9))⟩, ⟨pk (f1 noF (vb 8)) (lb true) (f1 noF (vb 9)), 2, [], .pk, pk (f1 noF (vb 8)) (lb true) (f1 noF (vb 9))⟩, pv (pk (f1 noF (vb 8)) (lb true) (f1 noF (vb 9))) 2, ⟨dg 3, 2, [], .ld 1 0, gd false (pk (f1 noF (vb 8)) (lb true) (f1 noF (vb 9))) (dg 3)⟩, ⟨vb 10, 2, [], .cl 2 17 [dg 3] 1 [], gd false (pk (f1 noF (vb 8)) (lb true) (f1 noF (vb 9))) (vb 10)⟩, ⟨f1 noF (vb 10), 3, [], .val, gd false (pk (f1 noF (vb 8)) (lb true) (f1 noF (vb 9))) (f1 noF (vb 10))⟩, ⟨pk (pk (f1 noF (vb 8)) (lb true) (f1 noF (vb 9))) (lb true) (f1 noF (vb 10)), 3, [], .pk, pk (pk (f1 noF (vb 8)) (lb true) (f1 noF (vb 9))) (lb true) (f1 noF (vb 10))⟩], [1, 5, 10]⟩
def Fwt7_8 := fs Fwt7_6 [(6, lb true)]
def Rwt7_9 : Rg := ⟨1, 11, 2, Fwt7_6, Bwt7_2, [pv (lb true) 0], []⟩
def Fwt7_10 := fs Fwt7_6 [(7, ps 2 0), (8, vi 14), (34, tu [dg 11, vi 14]), (35, dg 0), (36, dg 3), (37, tu [dg 11, vi 14]), (38, dg 11), (39, vi 14)]
def Bwt7_11 := [bb 25 (d3 0), bb 25 (d3 3), bb 25 o3]
def Rwt7_12 : Rg := ⟨7, 11, 2, Fwt7_6, Bwt7_11, [pl (dg 0) 0 0 0, pl (dg 3) 0 1 0, pc (tu [dg 11, vi 14]) 0 29 [dg 0, dg 3] 4, pv (tu [dg 11, vi 14]) 1, pv (dg 11) 1, pv (vi 14) 1, pa 2 0], [2]⟩
def Bwt7_13 := [bb 25 (d3 0), bb 25 (d3 3), bb 25 (d3 11)]
def Fwt7_14 := fs Fwt7_10 [(9, ps 3 0), (10, vi 18), (40, tu [dg 15, vi 18]), (41, dg 0), (42, tu [dg 15, vi 18]), (43, dg 15), (44, vi 18)]
def Bwt7_15 := [bb 25 (d3 0), bb 25 (d3 3), bb 25 (d3 11), bb 25 o3]
def Rwt7_16 : Rg := ⟨6, 15, 3, Fwt7_10, Bwt7_15, [pl (dg 0) 0 0 0, pc (tu [dg 15, vi 18]) 0 30 [dg 0] 4, pv (tu [dg 15, vi 18]) 1, pv (dg 15) 1, pv (vi 18) 1, pa 3 0], [1]⟩
def Bwt7_17 := [bb 25 (d3 0), bb 25 (d3 3), bb 25 (d3 11), bb 25 (d3 15)]
def Fwt7_18 := fs Fwt7_14 [(11, ps 4 0), (12, vi 25), (45, tu [ig 19, vi 25]), (46, dg 0), (47, vi 6), (48, tu [ig 19, vi 25]), (49, ig 19), (50, vi 25)]
def Bwt7_19 := [bb 25 (d3 0), bb 25 (d3 3), bb 25 (d3 11), bb 25 (d3 15), bb 28 o6]
def Rwt7_20 : Rg := ⟨7, 19, 4, Fwt7_14, Bwt7_19, [pl (dg 0) 0 0 0, pv (vi 6) 0, pc (tu [ig 19, vi 25]) 0 9 [dg 0, vi 6] 7, pv (tu [ig 19, vi 25]) 1, pv (ig 19) 1, pv (vi 25) 1, pa 4 0], [2]⟩
def Bwt7_21 := [bb 25 (d3 0), bb 25 (d3 3), bb 25 (d3 11), bb 25 (d3 15), bb 28 (i6 19)]
def Fwt7_22 := fs Fwt7_18 [(13, ps 5 0), (14, vi 32), (51, tu [ig 26, vi 32]), (52, dg 3), (53, vi 6), (54, tu [ig 26, vi 32]), (55, ig 26), (56, vi 32)]
def Bwt7_23 := [bb 25 (d3 0), bb 25 (d3 3), bb 25 (d3 11), bb 25 (d3 15), bb 28 (i6 19), bb 28 o6]
def Rwt7_24 : Rg := ⟨7, 26, 5, Fwt7_18, Bwt7_23, [pl (dg 3) 0 1 0, pv (vi 6) 0, pc (tu [ig 26, vi 32]) 0 9 [dg 3, vi 6] 7, pv (tu [ig 26, vi 32]) 1, pv (ig 26) 1, pv (vi 32) 1, pa 5 0], [2]⟩
def Bwt7_25 := [bb 25 (d3 0), bb 25 (d3 3), bb 25 (d3 11), bb 25 (d3 15), bb 28 (i6 19), bb 28 (i6 26)]
def Fwt7_26 := fs Fwt7_22 [(57, vi 14), (58, bo .neq (vi 14) (li 0)), (59, bo .neq (vi 14) (li 0)), (60, gd false (bo .neq (vi 14) (li 0)) (vi 18)), (61, gd false (bo .neq (vi 14) (li 0)) (bo .neq (vi 18) (li 0))), (62, pk (bo .neq (vi 14) (li 0)) (lb true) (bo .neq (vi 18) (li 0))), (63, pk (bo .neq (vi 14) (li 0)) (lb true) (bo .neq (vi 18) (li 0))), (64, gd false (pk (bo .neq (vi 14) (li 0)) (lb true) (bo .neq (vi 18) (li 0))) (vi 25)), (65, gd false (pk (bo .neq (vi 14) (li 0)) (lb true) (bo .neq (vi 18) (li 0))) (bo .neq (vi 25) (li 0))), (66, pk (pk (bo .neq (vi 14) (li 0)) (lb true) (bo .neq (vi 18) (li 0))) (lb true) (bo .neq (vi 25) (li 0))), (67, pk (pk (bo .neq (vi 14) (li 0)) (lb true) (bo .neq (vi 18) (li 0))) (lb true) (bo .neq (vi 25) (li 0))), (68, gd false (pk (pk (bo .neq (vi 14) (li 0)) (lb true) (bo .neq (vi 18) (li 0))) (lb true) (bo .neq (vi 25) (li 0))) (vi 32)), (69, gd false (pk (pk (bo .neq (vi 14) (li 0)) (lb true) (bo .neq (vi 18) (li 0))) (lb true) (bo .neq (vi 25) (li 0))) (bo .neq (vi 32) (li 0))), (70, pk (pk (pk (bo .neq (vi 14) (li 0)) (lb true) (bo .neq (vi 18) (li 0))) (lb true) (bo .neq (vi 25) (li 0))) (lb true) (bo .neq (vi 32) (li 0)))]
def Rwt7_27 : Rg := ⟨14, 33, 6, Fwt7_22, Bwt7_25, [pv (vi 14) 0, pv (bo .neq (vi 14) (li 0)) 0, pv (bo .neq (vi 14) (li 0)) 0, ⟨vi 18, 0, [], .val, gd false (bo .neq (vi 14) (li 0)) (vi 18)⟩, ⟨bo .neq (vi 18) (li 0), 0, [], .val, gd false (bo .neq (vi 14) (li 0)) (bo .neq (vi 18) (li 0))⟩, ⟨pk (bo .neq (vi 14) (li 0)) (lb true) (bo .neq (vi 18) (li 0)), 0, [], .pk, pk (bo .neq (vi 14) (li 0)) (lb true) (bo .neq (vi 18) (li 0))⟩, pv (pk (bo .neq (vi 14) (li 0)) (lb true) (bo .neq (vi 18) (li 0))) 0, ⟨vi 25, 0, [], .val, gd false (pk (bo .neq (vi 14) (li 0)) (lb true) (bo .neq (vi 18) (li 0))) (vi 25)⟩, ⟨bo .neq (vi 25) (li 0), 0, [], .val, gd false (pk (bo .neq (vi 14) (li 0)) (lb true) (bo .neq (vi 18) (li 0))) (bo .neq (vi 25) (li 0))⟩, ⟨pk (pk (bo .neq (vi 14) (li 0)) (lb true) (bo .neq (vi 18) (li 0))) (lb true) (bo .neq (vi 25) (li 0)), 0, [], .pk, pk (pk (bo .neq (vi 14) (li 0)) (lb true) (bo .neq (vi 18) (li 0))) (lb true) (bo .neq (vi 25) (li 0))⟩, pv (pk (pk (bo .neq (vi 14) (li 0)) (lb true) (bo .neq (vi 18) (li 0))) (lb true) (bo .neq (vi 25) (li 0))) 0, ⟨vi 32, 0, [], .val, gd false (pk (pk (bo .neq (vi 14) (li 0)) (lb true) (bo .neq (vi 18) (li 0))) (lb true) (bo .neq (vi 25) (li 0))) (vi 32)⟩, ⟨bo .neq (vi 32) (li 0), 0, [], .val, gd false (pk (pk (bo .neq (vi 14) (li 0)) (lb true) (bo .neq (vi 18) (li 0))) (lb true) (bo .neq (vi 25) (li 0))) (bo .neq (vi 32) (li 0))⟩, ⟨pk (pk (pk (bo .neq (vi 14) (li 0)) (lb true) (bo .neq (vi 18) (li 0))) (lb true) (bo .neq (vi 25) (li 0))) (lb true) (bo .neq (vi 32) (li 0)), 0, [], .pk, pk (pk (pk (bo .neq (vi 14) (li 0)) (lb true) (bo .neq (vi 18) (li 0))) (lb true) (bo .neq (vi 25) (li 0))) (lb true) (bo .neq (vi 32) (li 0))⟩], []⟩
def Fwt7_28 := fs Fwt7_26 [(6, lb true)]
def Rwt7_29 : Rg := ⟨1, 33, 6, Fwt7_26, Bwt7_25, [pv (lb true) 0], []⟩
def Fwt7_30 := fs Fwt7_26 [(15, ps 6 0), (16, vi 39), (71, tu [ig 33, vi 39]), (72, dg 11), (73, vi 6), (74, tu [ig 33, vi 39]), (75, ig 33), (76, vi 39)]
def Bwt7_31 := [bb 25 (d3 0), bb 25 (d3 3), bb 25 (d3 11), bb 25 (d3 15), bb 28 (i6 19), bb 28 (i6 26), bb 28 o6]
def Rwt7_32 : Rg := ⟨7, 33, 6, Fwt7_26, Bwt7_31, [pl (dg 11) 0 2 0, pv (vi 6) 0, pc (tu [ig 33, vi 39]) 0 9 [dg 11, vi 6] 7, pv (tu [ig 33, vi 39]) 1, pv (ig 33) 1, pv (vi 39) 1, pa 6 0], [2]⟩
def Bwt7_33 := [bb 25 (d3 0), bb 25 (d3 3), bb 25 (d3 11), bb 25 (d3 15), bb 28 (i6 19), bb 28 (i6 26), bb 28 (i6 33)]
def Fwt7_34 := fs Fwt7_30 [(77, ig 19), (78, ig 26), (79, osl (ps 7 0) 2), (80, vb 40), (81, f1 noF (vb 40)), (82, f1 noF (vb 40)), (83, gd false (f1 noF (vb 40)) (vi 39)), (84, gd false (f1 noF (vb 40)) (bo .eql (vi 39) (li 0))), (85, gd false (f1 noF (vb 40)) (bo .eql (vi 39) (li 0))), (86, gd true (gd false (f1 noF (vb 40)) (bo .eql (vi 39) (li 0))) (ig 33)), (87, gd true (gd false (f1 noF (vb 40)) (bo .eql (vi 39) (li 0))) (osl (ps 8 0) 1)), (88, gd true (gd false (f1 noF (vb 40)) (bo .eql (vi 39) (li 0))) (vb 41)), (89, gd true (gd false (f1 noF (vb 40)) (bo .eql (vi 39) (li 0))) (f1 noF (vb 41))), (90, gd false (f1 noF (vb 40)) (pk (bo .eql (vi 39) (li 0)) (f1 noF (vb 41)) (lb false))), (91, pk (f1 noF (vb 40)) (lb true) (pk (bo .eql (vi 39) (li 0)) (f1 noF (vb 41)) (lb false)))]
def Bwt7_35 := [bb 25 (d3 0), bb 25 (d3 3), bb 25 (d3 11), bb 25 (d3 15), bb 28 (i6 19), bb 28 (i6 26), bb 28 (i6 33), bb 28 [vb 19, vs 20, vi 21, vb 22, vs 23, vi 24, vb 26, vs 27, vi 28, vb 29, vs 30, vi 31], bb 28 (i6 33)]
def Rwt7_36 : Rg := ⟨15, 40, 7, Fwt7_30, Bwt7_35, [pl (ig 19) 0 4 0, pl (ig 26) 0 5 0, ⟨osl (ps 7 0) 2, 0, [7], .al 7, osl (ps 7 0) 2⟩, ⟨vb 40, 0, [], .cl 0 19 [osl (ps 7 0) 2] 1 [7], vb 40⟩, pv (f1 noF (vb 40)) 1, pv (f1 noF (vb 40)) 1, ⟨vi 39, 1, [], .val, gd false (f1 noF (vb 40)) (vi 39)⟩, ⟨bo .eql (vi 39) (li 0), 1, [], .val, gd false (f1 noF (vb 40)) (bo .eql (vi 39) (li 0))⟩, ⟨bo .eql (vi 39) (li 0), 1, [], .val, gd false (f1 noF (vb 40)) (bo .eql (vi 39) (li 0))⟩, ⟨ig 33, 1, [], .ld 6 0, gd true (gd false (f1 noF (vb 40)) (bo .eql (vi 39) (li 0))) (ig 33)⟩, ⟨osl (ps 8 0) 1, 1, [8], .al 8, gd true (gd false (f1 noF (vb 40)) (bo .eql (vi 39) (li 0))) (osl (ps 8 0) 1)⟩, ⟨vb 41, 1, [], .cl 1 19 [osl (ps 8 0) 1] 1 [8], gd true (gd false (f1 noF (vb 40)) (bo .eql (vi 39) (li 0))) (vb 41)⟩, ⟨f1 noF (vb 41), 2, [], .val, gd true (gd false (f1 noF (vb 40)) (bo .eql (vi 39) (li 0))) (f1 noF (vb 41))⟩, ⟨pk (bo .eql (vi 39) (li 0)) (f1 noF (vb 41)) (lb false), 2, [], .pk, gd false (f1 noF (vb 40)) (pk (bo .eql (vi 39) (li 0)) (f1 noF (vb 41)) (lb false))⟩, ⟨pk (f1 noF (vb 40)) (lb true) (pk (bo .eql (vi 39) (li 0)) (f1 noF (vb 41)) (lb false)), 2, [], .pk, pk (f1 noF (vb 40)) (lb true) (pk (bo .eql (vi 39) (li 0)) (f1 noF (vb 41)) (lb false))⟩], [3, 11]⟩
def Bwt7_37 := [bb 25 (d3 0), bb 25 (d3 3), bb 25 (d3 11), bb 25 (d3 15), bb 28 (i6 19), bb 28 (i6 26), bb 28 (i6 33), bb 28 [vb 19, vs 20, vi 21, vb 22, vs 23, vi 24, vb 26, vs 27, vi 28, vb 29, vs 30, vi 31]]
def Fwt7_38 (jj1 : List Value) := [dg 0, dg 3, vi 6, ps 0 0, ps 1 0, U, lb false, ps 2 0, vi 14, ps 3 0, vi 18, ps 4 0, vi 25, ps 5 0, vi 32, ps 6 0, vi 39, U, U, vb 7, f1 noF (vb 7), vi 6, vb 8, f1 noF (vb 8), f1 noF (vb 8), gd false (f1 noF (vb 8)) (dg 0), gd false (f1 noF (vb 8)) (vb 9), gd false (f1 noF (vb 8)) (f1 noF (vb 9)), pk (f1 noF (vb 8)) (lb true) (f1 noF (vb 9)), pk (f1 noF (vb 8)) (lb true) (f1 noF (vb 9)), gd false (pk (f1 noF (vb 8)) (lb true) (f1 noF (vb 9))) (dg 3), gd false (pk (f1 noF (vb 8)) (lb true) (f1 noF (vb 9))) (vb 10), gd false (pk (f1 noF (vb 8)) (lb true) (f1 noF (vb 9))) (f1 noF (vb 10)), pk (pk (f1 noF (vb 8)) (lb true) (f1 noF (vb 9))) (lb true) (f1 noF (vb 10)), tu [dg 11, vi 14], dg 0, dg 3, tu [dg 11, vi 14], dg 11, vi 14, tu [dg 15, vi 18], dg 0, tu [dg 15, vi 18], dg 15, vi 18, tu [ig 19, vi 25], dg 0, vi 6, tu [ig 19, vi 25], ig 19, vi 25, tu [ig 26, vi 32], dg 3, vi 6, tu [ig 26, vi 32], ig 26, vi 32, vi 14, bo .neq (vi 14) (li 0), bo .neq (vi 14) (li 0), gd false (bo .neq (vi 14) (li 0)) (vi 18), gd false (bo .neq (vi 14) (li 0)) (bo .neq (vi 18) (li 0)), pk (bo .neq (vi 14) (li 0)) (lb true) (bo .neq (vi 18) (li 0)), pk (bo .neq (vi 14) (li 0)) (lb true) (bo .neq (vi 18) (li 0)), gd false (pk (bo .neq (vi 14) (li 0)) (lb true) (bo .neq (vi 18) (li 0))) (vi 25), gd false (pk (bo .neq (vi 14) (li 0)) (lb true) (bo .neq (vi 18) (li 0))) (bo .neq (vi 25) (li 0)), pk (pk (bo .neq (vi 14) (li 0)) (lb true) (bo .neq (vi 18) (li 0))) (lb true) (bo .neq (vi 25) (li 0)), pk (pk (bo .neq (vi 14) (li 0)) (lb true) (bo .neq (vi 18) (li 0))) (lb true) (bo .neq (vi 25) (li 0)), gd false (pk (pk (bo .neq (vi 14) (li 0)) (lb true) (bo .neq (vi 18) (li 0))) (lb true) (bo .neq (vi 25) (li 0))) (vi 32), gd false (pk (pk (bo .neq (vi 14) (li 0)) (lb true) (bo .neq (vi 18) (li 0))) (lb true) (bo .neq (vi 25) (li 0))) (bo .neq (vi 32) (li 0)), pk (pk (pk (bo .neq (vi 14) (li 0)) (lb true) (bo .neq (vi 18) (li 0))) (lb true) (bo .neq (vi 25) (li 0))) (lb true) (bo .neq (vi 32) (li 0)), tu [ig 33, vi 39], dg 11, vi 6, tu [ig 33, vi 39], ig 33, vi 39, ig 19, ig 26, osl (ps 7 0) 2, vb 40, f1 noF (vb 40), f1 noF (vb 40), gd false (f1 noF (vb 40)) (vi 39), gd false (f1 noF (vb 40)) (bo .eql (vi 39) (li 0)), gd false (f1 noF (vb 40)) (bo .eql (vi 39) (li 0)), gd true (gd false (f1 noF (vb 40)) (bo .eql (vi 39) (li 0))) (ig 33), jw jj1 0, gd true (gd false (f1 noF (vb 40)) (bo .eql (vi 39) (li 0))) (vb 41), gd true (gd false (f1 noF (vb 40)) (bo .eql (vi 39) (li 0))) (f1 noF (vb 41)), gd false (f1 noF (vb 40)) (pk (bo .eql (vi 39) (li 0)) (f1 noF (vb 41)) (lb false)), pk (f1 noF (vb 40)) (lb true) (pk (bo .eql (vi 39) (li 0)) (f1 noF (vb 41)) (lb false)), U, U, U, U, U, U, U, U, U, U, U, U, U, U, U, U, U, U, U, U, U, U, U, U, U, U, U, U, U, U, U, U, U, U, U, U, U, U, U, U, U, U, U, U, U, U, U, U, U, U, U, U, U, U, U, U, U]
def Jwt7_39 : List Nat := [87]
def Fwt7_40 (jj1 : List Value) := fs (Fwt7_38 jj1) [(92, vi 39), (93, bo .eql (vi 39) (li 0)), (94, bo .eql (vi 39) (li 0)), (95, gd true (bo .eql (vi 39) (li 0)) (ig 33)), (96, gd true (bo .eql (vi 39) (li 0)) (ig 19)), (97, gd true (bo .eql (vi 39) (li 0)) (ig 26)), (98, gd true (bo .eql (vi 39) (li 0)) (vi 6)), (99, gd true (bo .eql (vi 39) (li 0)) (bo .add (vi 6) (li 8))), (100, gd true (bo .eql (vi 39) (li 0)) (ig 42)), (101, gd true (bo .eql (vi 39) (li 0)) (vb 48)), (102, gd true (bo .eql (vi 39) (li 0)) (f1 noF (vb 48))), (103, pk (bo .eql (vi 39) (li 0)) (f1 noF (vb 48)) (lb false)), (104, pk (bo .eql (vi 39) (li 0)) (f1 noF (vb 48)) (lb false)), (105, gd false (pk (bo .eql (vi 39) (li 0)) (f1 noF (vb 48)) (lb false)) (vi 39)), (106, gd false (pk (bo .eql (vi 39) (li 0)) (f1 noF (vb 48)) (lb false)) (bo .neq (vi 39) (li 0))), (107, gd false (pk (bo .eql (vi 39) (li 0)) (f1 noF (vb 48)) (lb false)) (bo .neq (vi 39) (li 0))), (108, gd true (gd false (pk (bo .eql (vi 39) (li 0)) (f1 noF (vb 48)) (lb false)) (bo .neq (vi 39) (li 0))) (vi 39)), (109, gd true (gd false (pk (bo .eql (vi 39) (li 0)) (f1 noF (vb 48)) (lb false)) (bo .neq (vi 39) (li 0))) (bo .neq (vi 39) (li 3))), (110, gd false (pk (bo .eql (vi 39) (li 0)) (f1 noF (vb 48)) (lb false)) (pk (bo .neq (vi 39) (li 0)) (bo .neq (vi 39) (li 3)) (lb false))), (111, pk (pk (bo .eql (vi 39) (li 0)) (f1 noF (vb 48)) (lb false)) (lb true) (pk (bo .neq (vi 39) (li 0)) (bo .neq (vi 39) (li 3)) (lb false)))]
def Rwt7_41 (jj1 : List Value) : Rg := ⟨20, 42, 8, (Fwt7_38 jj1), Bwt7_37, [pv (vi 39) 0, pv (bo .eql (vi 39) (li 0)) 0, pv (bo .eql (vi 39) (li 0)) 0, ⟨ig 33, 0, [], .ld 6 0, gd true (bo .eql (vi 39) (li 0)) (ig 33)⟩, ⟨ig 19, 0, [], .ld 4 0, gd true (bo .eql (vi 39) (li 0)) (ig 19)⟩, ⟨ig 26, 0, [], .ld 5 0, gd true (bo .eql (vi 39) (li 0)) (ig 26)⟩, ⟨vi 6, 0, [], .val, gd true (bo .eql (vi 39) (li 0)) (vi 6)⟩, ⟨bo .add (vi 6) (li 8), 0, [], .val, gd true (bo .eql (vi 39) (li 0)) (bo .add (vi 6) (li 8))⟩, ⟨ig 42, 0, [], .cl 0 31 [ig 19, ig 26, bo .add (vi 6) (li 8)] 6 [], gd true (bo .eql (vi 39) (li 0)) (ig 42)⟩, ⟨vb 48, 1, [], .cl 1 23 [ig 33, ig 42] 1 [], gd true (bo .eql (vi 39) (li 0)) (vb 48)⟩, ⟨f1 noF (vb 48), 2, [], .val, gd true (bo .eql (vi 39) (li 0)) (f1 noF (vb 48))⟩, ⟨pk (bo .eql (vi 39) (li 0)) (f1 noF (vb 48)) (lb false), 2, [], .pk, pk (bo .eql (vi 39) (li 0)) (f1 noF (vb 48)) (lb false)⟩, pv (pk (bo .eql (vi 39) (li 0)) (f1 noF (vb 48)) (lb false)) 2, ⟨vi 39, 2, [], .val, gd false (pk (bo .eql (vi 39) (li 0)) (f1 noF (vb 48)) (lb false)) (vi 39)⟩, ⟨bo .neq (vi 39) (li 0), 2, [], .val, gd false (pk (bo .eql (vi 39) (li 0)) (f1 noF (vb 48)) (lb false)) (bo .neq (vi 39) (li 0))⟩, ⟨bo .neq (vi 39) (li 0), 2, [], .val, gd false (pk (bo .eql (vi 39) (li 0)) (f1 noF (vb 48)) (lb false)) (bo .neq (vi 39) (li 0))⟩, ⟨vi 39, 2, [], .val, gd true (gd false (pk (bo .eql (vi 39) (li 0)) (f1 noF (vb 48)) (lb false)) (bo .neq (vi 39) (li 0))) (vi 39)⟩, ⟨bo .neq (vi 39) (li 3), 2, [], .val, gd true (gd false (pk (bo .eql (vi 39) (li 0)) (f1 noF (vb 48)) (lb false)) (bo .neq (vi 39) (li 0))) (bo .neq (vi 39) (li 3))⟩, ⟨pk (bo .neq (vi 39) (li 0)) (bo .neq (vi 39) (li 3)) (lb false), 2, [], .pk, gd false (pk (bo .eql (vi 39) (li 0)) (f1 noF (vb 48)) (lb false)) (pk (bo .neq (vi 39) (li 0)) (bo .neq (vi 39) (li 3)) (lb false))⟩, ⟨pk (pk (bo .eql (vi 39) (li 0)) (f1 noF (vb 48)) (lb false)) (lb true) (pk (bo .neq (vi 39) (li 0)) (bo .neq (vi 39) (li 3)) (lb false)), 2, [], .pk, pk (pk (bo .eql (vi 39) (li 0)) (f1 noF (vb 48)) (lb false)) (lb true) (pk (bo .neq (vi 39) (li 0)) (bo .neq (vi 39) (li 3)) (lb false))⟩], [8, 9]⟩
def Fwt7_42 (jj1 : List Value) := fs (Fwt7_40 jj1) [(16, vi 55), (17, ps 8 0), (112, tu [ig 49, vi 55]), (113, dg 15), (114, vi 6), (115, tu [ig 49, vi 55]), (116, ig 49), (117, vi 55)]
def Bwt7_43 := [bb 25 (d3 0), bb 25 (d3 3), bb 25 (d3 11), bb 25 (d3 15), bb 28 (i6 19), bb 28 (i6 26), bb 28 (i6 33), bb 28 [vb 19, vs 20, vi 21, vb 22, vs 23, vi 24, vb 26, vs 27, vi 28, vb 29, vs 30, vi 31], bb 28 o6]
def Rwt7_44 (jj1 : List Value) : Rg := ⟨7, 49, 8, (Fwt7_40 jj1), Bwt7_43, [pl (dg 15) 0 3 0, pv (vi 6) 0, pc (tu [ig 49, vi 55]) 0 9 [dg 15, vi 6] 7, pv (tu [ig 49, vi 55]) 1, pv (ig 49) 1, pv (vi 55) 1, pa 8 0], [2]⟩
def Bwt7_45 := [bb 25 (d3 0), bb 25 (d3 3), bb 25 (d3 11), bb 25 (d3 15), bb 28 (i6 19), bb 28 (i6 26), bb 28 (i6 33), bb 28 [vb 19, vs 20, vi 21, vb 22, vs 23, vi 24, vb 26, vs 27, vi 28, vb 29, vs 30, vi 31], bb 28 (i6 49)]
def Fwt7_46 (jj1 : List Value) := fs (Fwt7_42 jj1) [(118, vi 55), (119, bo .eql (vi 55) (li 3)), (120, bo .eql (vi 55) (li 3)), (121, gd true (bo .eql (vi 55) (li 3)) (dg 0)), (122, gd true (bo .eql (vi 55) (li 3)) (vb 56)), (123, pk (bo .eql (vi 55) (li 3)) (vb 56) (lb false))]
def Rwt7_47 (jj1 : List Value) : Rg := ⟨6, 56, 9, (Fwt7_42 jj1), Bwt7_45, [pv (vi 55) 0, pv (bo .eql (vi 55) (li 3)) 0, pv (bo .eql (vi 55) (li 3)) 0, ⟨dg 0, 0, [], .ld 0 0, gd true (bo .eql (vi 55) (li 3)) (dg 0)⟩, ⟨vb 56, 0, [], .cl 0 18 [dg 0] 1 [], gd true (bo .eql (vi 55) (li 3)) (vb 56)⟩, ⟨pk (bo .eql (vi 55) (li 3)) (vb 56) (lb false), 1, [], .pk, pk (bo .eql (vi 55) (li 3)) (vb 56) (lb false)⟩], [4]⟩
def Fwt7_48 (jj1 : List Value) := fs (Fwt7_46 jj1) [(124, vi 55), (125, bo .neq (vi 55) (li 0)), (126, bo .neq (vi 55) (li 0)), (127, gd false (bo .neq (vi 55) (li 0)) (ig 49)), (128, gd false (bo .neq (vi 55) (li 0)) (osl (ps 9 0) 1)), (129, gd false (bo .neq (vi 55) (li 0)) (vb 57)), (130, gd false (bo .neq (vi 55) (li 0)) (f1 noF (vb 57))), (131, pk (bo .neq (vi 55) (li 0)) (lb true) (f1 noF (vb 57)))]
def Bwt7_49 := [bb 25 (d3 0), bb 25 (d3 3), bb 25 (d3 11), bb 25 (d3 15), bb 28 (i6 19), bb 28 (i6 26), bb 28 (i6 33), bb 28 [vb 19, vs 20, vi 21, vb 22, vs 23, vi 24, vb 26, vs 27, vi 28, vb 29, vs 30, vi 31], bb 28 (i6 49), bb 28 (i6 49)]
def Rwt7_50 (jj1 : List Value) : Rg := ⟨8, 57, 9, (Fwt7_46 jj1), Bwt7_49, [pv (vi 55) 0, pv (bo .neq (vi 55) (li 0)) 0, pv (bo .neq (vi 55) (li 0)) 0, ⟨ig 49, 0, [], .ld 8 0, gd false (bo .neq (vi 55) (li 0)) (ig 49)⟩, ⟨osl (ps 9 0) 1, 0, [9], .al 9, gd false (bo .neq (vi 55) (li 0)) (osl (ps 9 0) 1)⟩, ⟨vb 57, 0, [], .cl 0 19 [osl (ps 9 0) 1] 1 [9], gd false (bo .neq (vi 55) (li 0)) (vb 57)⟩, ⟨f1 noF (vb 57), 1, [], .val, gd false (bo .neq (vi 55) (li 0)) (f1 noF (vb 57))⟩, ⟨pk (bo .neq (vi 55) (li 0)) (lb true) (f1 noF (vb 57)), 1, [], .pk, pk (bo .neq (vi 55) (li 0)) (lb true) (f1 noF (vb 57))⟩], [5]⟩
def Fwt7_51 (jj1 : List Value) (jj2 : List Value) : List Sy := [dg 0, dg 3, vi 6, ps 0 0, ps 1 0, U, lb false, ps 2 0, vi 14, ps 3 0, vi 18, ps 4 0, vi 25, ps 5 0, vi 32, ps 6 0, vi 55, ps 8 0, U, vb 7, f1 noF (vb 7), vi 6, vb 8, f1 noF (vb 8), f1 noF (vb 8), gd false (f1 noF (vb 8)) (dg 0), gd false (f1 noF (vb 8)) (vb 9), gd false (f1 noF (vb 8)) (f1 noF (vb 9)), pk (f1 noF (vb 8)) (lb true) (f1 noF (vb 9)), pk (f1 noF (vb 8)) (lb true) (f1 noF (vb 9)), gd false (pk (f1 noF (vb 8)) (lb true) (f1 noF (vb 9))) (dg 3), gd false (pk (f1 noF (vb 8)) (lb true) (f1 noF (vb 9))) (vb 10), gd false (pk (f1 noF (vb 8)) (lb true) (f1 noF (vb 9))) (f1 noF (vb 10)), pk (pk (f1 noF (vb 8)) (lb true) (f1 noF (vb 9))) (lb true) (f1 noF (vb 10)), tu [dg 11, vi 14], dg 0, dg 3, tu [dg 11, vi 14], dg 11, vi 14, tu [dg 15, vi 18], dg 0, tu [dg 15, vi 18], dg 15, vi 18, tu [ig 19, vi 25], dg 0, vi 6, tu [ig 19, vi 25], ig 19, vi 25, tu [ig 26, vi 32], dg 3, vi 6, tu [ig 26, vi 32], ig 26, vi 32, vi 14, bo .neq (vi 14) (li 0), bo .neq (vi 14) (li 0), gd false (bo .neq (vi 14) (li 0)) (vi 18), gd false (bo .neq (vi 14) (li 0)) (bo .neq (vi 18) (li 0)), pk (bo .neq (vi 14) (li 0)) (lb true) (bo .neq (vi 18) (li 0)), pk (bo .neq (vi 14) (li 0)) (lb true) (bo .neq (vi 18) (li 0)), gd false (pk (bo .neq (vi 14) (li 0)) (lb true) (bo .neq (vi 18) (li 0))) (vi 25), gd false (pk (bo .neq (vi 14) (li 0)) (lb true) (bo .neq (vi 18) (li 0))) (bo .neq (vi 25) (li 0)), pk (pk (bo .neq (vi 14) (li 0)) (lb true) (bo .neq (vi 18) (li 0))) (lb true) (bo .neq (vi 25) (li 0)), pk (pk (bo .neq (vi 14) (li 0)) (lb true) (bo .neq (vi 18) (li 0))) (lb true) (bo .neq (vi 25) (li 0)), gd false (pk (pk (bo .neq (vi 14) (li 0)) (lb true) (bo .neq (vi 18) (li 0))) (lb true) (bo .neq (vi 25) (li 0))) (vi 32), gd false (pk (pk (bo .neq (vi 14) (li 0)) (lb true) (bo .neq (vi 18) (li 0))) (lb true) (bo .neq (vi 25) (li 0))) (bo .neq (vi 32) (li 0)), pk (pk (pk (bo .neq (vi 14) (li 0)) (lb true) (bo .neq (vi 18) (li 0))) (lb true) (bo .neq (vi 25) (li 0))) (lb true) (bo .neq (vi 32) (li 0)), tu [ig 33, vi 39], dg 11, vi 6, tu [ig 33, vi 39], ig 33, vi 39, ig 19, ig 26, osl (ps 7 0) 2, vb 40, f1 noF (vb 40), f1 noF (vb 40), gd false (f1 noF (vb 40)) (vi 39), gd false (f1 noF (vb 40)) (bo .eql (vi 39) (li 0)), gd false (f1 noF (vb 40)) (bo .eql (vi 39) (li 0)), gd true (gd false (f1 noF (vb 40)) (bo .eql (vi 39) (li 0))) (ig 33), jw jj1 0, gd true (gd false (f1 noF (vb 40)) (bo .eql (vi 39) (li 0))) (vb 41), gd true (gd false (f1 noF (vb 40)) (bo .eql (vi 39) (li 0))) (f1 noF (vb 41)), gd false (f1 noF (vb 40)) (pk (bo .eql (vi 39) (li 0)) (f1 noF (vb 41)) (lb false)), pk (f1 noF (vb 40)) (lb true) (pk (bo .eql (vi 39) (li 0)) (f1 noF (vb 41)) (lb false)), vi 39, bo .eql (vi 39) (li 0), bo .eql (vi 39) (li 0), gd true (bo .eql (vi 39) (li 0)) (ig 33), gd true (bo .eql (vi 39) (li 0)) (ig 19), gd true (bo .eql (vi 39) (li 0)) (ig 26), gd true (bo .eql (vi 39) (li 0)) (vi 6), gd true (bo .eql (vi 39) (li 0)) (bo .add (vi 6) (li 8)), gd true (bo .eql (vi 39) (li 0)) (ig 42), gd true (bo .eql (vi 39) (li 0)) (vb 48), gd true (bo .eql (vi 39) (li 0)) (f1 noF (vb 48)), pk (bo .eql (vi 39) (li 0)) (f1 noF (vb 48)) (lb false), pk (bo .eql (vi 39) (li 0)) (f1 noF (vb 48)) (lb false), gd false (pk (bo .eql (vi 39) (li 0)) (f1 noF (vb 48)) (lb false)) (vi 39), gd false (pk (bo .eql (vi 39) (li 0)) (f1 noF (vb 48)) (lb false)) (bo .neq (vi 39) (li 0)), gd false (pk (bo .eql (vi 39) (li 0)) (f1 noF (vb 48)) (lb false)) (bo .neq (vi 39) (li 0)), gd true (gd false (pk (bo .eql (vi 39) (li 0)) (f1 noF (vb 48)) (lb false)) (bo .neq (vi 39) (li 0))) (vi 39), gd true (gd false (pk (bo .eql (vi 39) (li 0)) (f1 noF (vb 48)) (lb false)) (bo .neq (vi 39) (li 0))) (bo .neq (vi 39) (li 3)), gd false (pk (bo .eql (vi 39) (li 0)) (f1 noF (vb 48)) (lb false)) (pk (bo .neq (vi 39) (li 0)) (bo .neq (vi 39) (li 3)) (lb false)), pk (pk (bo .eql (vi 39) (li 0)) (f1 noF (vb 48)) (lb false)) (lb true) (pk (bo .neq (vi 39) (li 0)) (bo .neq (vi 39) (li 3)) (lb false)), tu [ig 49, vi 55], dg 15, vi 6, tu [ig 49, vi 55], ig 49, vi 55, vi 55, bo .eql (vi 55) (li 3), bo .eql (vi 55) (li 3), gd true (bo .eql (vi 55) (li 3)) (dg 0), gd true (bo .eql (vi 55) (li 3)) (vb 56), pk (bo .eql (vi 55) (li 3)) (vb 56) (lb false), vi 55, bo .neq (vi 55) (li 0), bo .neq (vi 55) (li 0), gd false (bo .neq (vi 55) (li 0)) (ig 49), jw jj2 0, gd false (bo .neq (vi 55) (li 0)) (vb 57), gd false (bo .neq (vi 55) (li 0)) (f1 noF (vb 57)), pk (bo .neq (vi 55) (li 0)) (lb true) (f1 noF (vb 57)), U, U, U, U, U, U, U, U, U, U, U, U, U, U, U, U, U]
def Jwt7_52 : List Nat := [128]
def Fwt7_53 (jj1 : List Value) (jj2 : List Value) : List Sy := fs (Fwt7_51 jj1 jj2) [(18, ps 9 0), (132, ig 19), (133, ig 49), (134, vi 6), (135, bo .add (vi 6) (li 8)), (136, ig 58)]
def Bwt7_54 := [bb 25 (d3 0), bb 25 (d3 3), bb 25 (d3 11), bb 25 (d3 15), bb 28 (i6 19), bb 28 (i6 26), bb 28 (i6 33), bb 28 [vb 19, vs 20, vi 21, vb 22, vs 23, vi 24, vb 26, vs 27, vi 28, vb 29, vs 30, vi 31], bb 28 (i6 49), bb 28 o6]
def Rwt7_55 (jj1 : List Value) (jj2 : List Value) : Rg := ⟨6, 58, 9, (Fwt7_51 jj1 jj2), Bwt7_54, [pl (ig 19) 0 4 0, pl (ig 49) 0 8 0, pv (vi 6) 0, pv (bo .add (vi 6) (li 8)) 0, pc (ig 58) 0 31 [ig 19, ig 49, bo .add (vi 6) (li 8)] 6, pa 9 0], [4]⟩
def Bwt7_56 := [bb 25 (d3 0), bb 25 (d3 3), bb 25 (d3 11), bb 25 (d3 15), bb 28 (i6 19), bb 28 (i6 26), bb 28 (i6 33), bb 28 [vb 19, vs 20, vi 21, vb 22, vs 23, vi 24, vb 26, vs 27, vi 28, vb 29, vs 30, vi 31], bb 28 (i6 49), bb 28 (i6 58)]
def Fwt7_57 (jj1 : List Value) (jj2 : List Value) : List Sy := fs (Fwt7_53 jj1 jj2) [(6, pk (bo .leq (vi 67) (li 0)) (bo .leq (vi 71) (li 0)) (lb false)), (137, ps 9 0), (138, dg 58), (139, dg 64), (140, vi 67), (141, bo .leq (vi 67) (li 0)), (142, bo .leq (vi 67) (li 0)), (143, gd true (bo .leq (vi 67) (li 0)) (dg 68)), (144, gd true (bo .leq (vi 67) (li 0)) (ps 9 3)), (145, gd true (bo .leq (vi 67) (li 0)) (dg 61)), (146, gd true (bo .leq (vi 67) (li 0)) (vi 71)), (147, gd true (bo .leq (vi 67) (li 0)) (bo .leq (vi 71) (li 0))), (148, pk (bo .leq (vi 67) (li 0)) (bo .leq (vi 71) (li 0)) (lb false))]
def Rwt7_58 (jj1 : List Value) (jj2 : List Value) : Rg := ⟨13, 64, 10, (Fwt7_53 jj1 jj2), Bwt7_56, [pv (ps 9 0) 0, pl (dg 58) 0 9 0, pc (dg 64) 0 21 [li 1] 3, pc (vi 67) 1 26 [dg 58, dg 64] 1, pv (bo .leq (vi 67) (li 0)) 2, pv (bo .leq (vi 67) (li 0)) 2, ⟨dg 68, 2, [], .cl 2 21 [li 1] 3 [], gd true (bo .leq (vi 67) (li 0)) (dg 68)⟩, ⟨ps 9 3, 2, [], .val, gd true (bo .leq (vi 67) (li 0)) (ps 9 3)⟩, ⟨dg 61, 2, [], .ld 9 3, gd true (bo .leq (vi 67) (li 0)) (dg 61)⟩, ⟨vi 71, 3, [], .cl 3 26 [dg 68, dg 61] 1 [], gd true (bo .leq (vi 67) (li 0)) (vi 71)⟩, ⟨bo .leq (vi 71) (li 0), 4, [], .val, gd true (bo .leq (vi 67) (li 0)) (bo .leq (vi 71) (li 0))⟩, ⟨pk (bo .leq (vi 67) (li 0)) (bo .leq (vi 71) (li 0)) (lb false), 4, [], .pk, pk (bo .leq (vi 67) (li 0)) (bo .leq (vi 71) (li 0)) (lb false)⟩, pv (pk (bo .leq (vi 67) (li 0)) (bo .leq (vi 71) (li 0)) (lb false)) 4], [2, 3, 6, 9]⟩
def Fwt7_59 (jj3 : List Value) := [dg 0, dg 3, vi 6, ps 0 0, ps 1 0, U, lb false, ps 2 0, vi 14, ps 3 0, vi 18, ps 4 0, vi 25, ps 5 0, vi 32, ps 6 0, vi 39, U, U, vb 7, f1 noF (vb 7), vi 6, vb 8, f1 noF (vb 8), f1 noF (vb 8), gd false (f1 noF (vb 8)) (dg 0), gd false (f1 noF (vb 8)) (vb 9), gd false (f1 noF (vb 8)) (f1 noF (vb 9)), pk (f1 noF (vb 8)) (lb true) (f1 noF (vb 9)), pk (f1 noF (vb 8)) (lb true) (f1 noF (vb 9)), gd false (pk (f1 noF (vb 8)) (lb true) (f1 noF (vb 9))) (dg 3), gd false (pk (f1 noF (vb 8)) (lb true) (f1 noF (vb 9))) (vb 10), gd false (pk (f1 noF (vb 8)) (lb true) (f1 noF (vb 9))) (f1 noF (vb 10)), pk (pk (f1 noF (vb 8)) (lb true) (f1 noF (vb 9))) (lb true) (f1 noF (vb 10)), tu [dg 11, vi 14], dg 0, dg 3, tu [dg 11, vi 14], dg 11, vi 14, tu [dg 15, vi 18], dg 0, tu [dg 15, vi 18], dg 15, vi 18, tu [ig 19, vi 25], dg 0, vi 6, tu [ig 19, vi 25], ig 19, vi 25, tu [ig 26, vi 32], dg 3, vi 6, tu [ig 26, vi 32], ig 26, vi 32, vi 14, bo .neq (vi 14) (li 0), bo .neq (vi 14) (li 0), gd false (bo .neq (vi 14) (li 0)) (vi 18), gd false (bo .neq (vi 14) (li 0)) (bo .neq (vi 18) (li 0)), pk (bo .neq (vi 14) (li 0)) (lb true) (bo .neq (vi 18) (li 0)), pk (bo .neq (vi 14) (li 0)) (lb true) (bo .neq (vi 18) (li 0)), gd false (pk (bo .neq (vi 14) (li 0)) (lb true) (bo .neq (vi 18) (li 0))) (vi 25), gd false (pk (bo .neq (vi 14) (li 0)) (lb true) (bo .neq (vi 18) (li 0))) (bo .neq (vi 25) (li 0)), pk (pk (bo .neq (vi 14) (li 0)) (lb true) (bo .neq (vi 18) (li 0))) (lb true) (bo .neq (vi 25) (li 0)), pk (pk (bo .neq (vi 14) (li 0)) (lb true) (bo .neq (vi 18) (li 0))) (lb true) (bo .neq (vi 25) (li 0)), gd false (pk (pk (bo .neq (vi 14) (li 0)) (lb true) (bo .neq (vi 18) (li 0))) (lb true) (bo .neq (vi 25) (li 0))) (vi 32), gd false (pk (pk (bo .neq (vi 14) (li 0)) (lb true) (bo .neq (vi 18) (li 0))) (lb true) (bo .neq (vi 25) (li 0))) (bo .neq (vi 32) (li 0)), pk (pk (pk (bo .neq (vi 14) (li 0)) (lb true) (bo .neq (vi 18) (li 0))) (lb true) (bo .neq (vi 25) (li 0))) (lb true) (bo .neq (vi 32) (li 0)), tu [ig 33, vi 39], dg 11, vi 6, tu [ig 33, vi 39], ig 33, vi 39, ig 19, ig 26, osl (ps 7 0) 2, vb 40, f1 noF (vb 40), f1 noF (vb 40), gd false (f1 noF (vb 40)) (vi 39), gd false (f1 noF (vb 40)) (bo .eql (vi 39) (li 0)), gd false (f1 noF (vb 40)) (bo .eql (vi 39) (li 0)), gd true (gd false (f1 noF (vb 40)) (bo .eql (vi 39) (li 0))) (ig 33), jw jj3 0, gd true (gd false (f1 noF (vb 40)) (bo .eql (vi 39) (li 0))) (vb 41), gd true (gd false (f1 noF (vb 40)) (bo .eql (vi 39) (li 0))) (f1 noF (vb 41)), gd false (f1 noF (vb 40)) (pk (bo .eql (vi 39) (li 0)) (f1 noF (vb 41)) (lb false)), pk (f1 noF (vb 40)) (lb true) (pk (bo .eql (vi 39) (li 0)) (f1 noF (vb 41)) (lb false)), U, U, U, U, U, U, U, U, U, U, U, U, U, U, U, U, U, U, U, U, U, U, U, U, U, U, U, U, U, U, U, U, U, U, U, U, U, U, U, U, U, U, U, U, U, U, U, U, U, U, U, U, U, U, U, U, U]
def Fwt7_60 (jj3 : List Value) := fs (Fwt7_59 jj3) [(92, vi 39), (93, bo .eql (vi 39) (li 0)), (94, bo .eql (vi 39) (li 0)), (95, gd true (bo .eql (vi 39) (li 0)) (ig 33)), (96, gd true (bo .eql (vi 39) (li 0)) (ig 19)), (97, gd true (bo .eql (vi 39) (li 0)) (ig 26)), (98, gd true (bo .eql (vi 39) (li 0)) (vi 6)), (99, gd true (bo .eql (vi 39) (li 0)) (bo .add (vi 6) (li 8))), (100, gd true (bo .eql (vi 39) (li 0)) (ig 42)), (101, gd true (bo .eql (vi 39) (li 0)) (vb 48)), (102, gd true (bo .eql (vi 39) (li 0)) (f1 noF (vb 48))), (103, pk (bo .eql (vi 39) (li 0)) (f1 noF (vb 48)) (lb false)), (104, pk (bo .eql (vi 39) (li 0)) (f1 noF (vb 48)) (lb false)), (105, gd false (pk (bo .eql (vi 39) (li 0)) (f1 noF (vb 48)) (lb false)) (vi 39)), (106, gd false (pk (bo .eql (vi 39) (li 0)) (f1 noF (vb 48)) (lb false)) (bo .neq (vi 39) (li 0))), (107, gd false (pk (bo .eql (vi 39) (li 0)) (f1 noF (vb 48)) (lb false)) (bo .neq (vi 39) (li 0))), (108, gd true (gd false (pk (bo .eql (vi 39) (li 0)) (f1 noF (vb 48)) (lb false)) (bo .neq (vi 39) (li 0))) (vi 39)), (109, gd true (gd false (pk (bo .eql (vi 39) (li 0)) (f1 noF (vb 48)) (lb false)) (bo .neq (vi 39) (li 0))) (bo .neq (vi 39) (li 3))), (110, gd false (pk (bo .eql (vi 39) (li 0)) (f1 noF (vb 48)) (lb false)) (pk (bo .neq (vi 39) (li 0)) (bo .neq (vi 39) (li 3)) (lb false))), (111, pk (pk (bo .eql (vi 39) (li 0)) (f1 noF (vb 48)) (lb false)) (lb true) (pk (bo .neq (vi 39) (li 0)) (bo .neq (vi 39) (li 3)) (lb false)))]
def Rwt7_61 (jj3 : List Value) : Rg := ⟨20, 42, 8, (Fwt7_59 jj3), Bwt7_37, [pv (vi 39) 0, pv (bo .eql (vi 39) (li 0)) 0, pv (bo .eql (vi 39) (li 0)) 0, ⟨ig 33, 0, [], .ld 6 0, gd true (bo .eql (vi 39) (li 0)) (ig 33)⟩, ⟨ig 19, 0, [], .ld 4 0, gd true (bo .eql (vi 39) (li 0)) (ig 19)⟩, ⟨ig 26, 0, [], .ld 5 0, gd true (bo .eql (vi 39) (li 0)) (ig 26)⟩, ⟨vi 6, 0, [], .val, gd true (bo .eql (vi 39) (li 0)) (vi 6)⟩, ⟨bo .add (vi 6) (li 8), 0, [], .val, gd true (bo .eql (vi 39) (li 0)) (bo .add (vi 6) (li 8))⟩, ⟨ig 42, 0, [], .cl 0 31 [ig 19, ig 26, bo .add (vi 6) (li 8)] 6 [], gd true (bo .eql (vi 39) (li 0)) (ig 42)⟩, ⟨vb 48, 1, [], .cl 1 23 [ig 33, ig 42] 1 [], gd true (bo .eql (vi 39) (li 0)) (vb 48)⟩, ⟨f1 noF (vb 48), 2, [], .val, gd true (bo .eql (vi 39) (li 0)) (f1 noF (vb 48))⟩, ⟨pk (bo .eql (vi 39) (li 0)) (f1 noF (vb 48)) (lb false), 2, [], .pk, pk (bo .eql (vi 39) (li 0)) (f1 noF (vb 48)) (lb false)⟩, pv (pk (bo .eql (vi 39) (li 0)) (f1 noF (vb 48)) (lb false)) 2, ⟨vi 39, 2, [], .val, gd false (pk (bo .eql (vi 39) (li 0)) (f1 noF (vb 48)) (lb false)) (vi 39)⟩, ⟨bo .neq (vi 39) (li 0), 2, [], .val, gd false (pk (bo .eql (vi 39) (li 0)) (f1 noF (vb 48)) (lb false)) (bo .neq (vi 39) (li 0))⟩, ⟨bo .neq (vi 39) (li 0), 2, [], .val, gd false (pk (bo .eql (vi 39) (li 0)) (f1 noF (vb 48)) (lb false)) (bo .neq (vi 39) (li 0))⟩, ⟨vi 39, 2, [], .val, gd true (gd false (pk (bo .eql (vi 39) (li 0)) (f1 noF (vb 48)) (lb false)) (bo .neq (vi 39) (li 0))) (vi 39)⟩, ⟨bo .neq (vi 39) (li 3), 2, [], .val, gd true (gd false (pk (bo .eql (vi 39) (li 0)) (f1 noF (vb 48)) (lb false)) (bo .neq (vi 39) (li 0))) (bo .neq (vi 39) (li 3))⟩, ⟨pk (bo .neq (vi 39) (li 0)) (bo .neq (vi 39) (li 3)) (lb false), 2, [], .pk, gd false (pk (bo .eql (vi 39) (li 0)) (f1 noF (vb 48)) (lb false)) (pk (bo .neq (vi 39) (li 0)) (bo .neq (vi 39) (li 3)) (lb false))⟩, ⟨pk (pk (bo .eql (vi 39) (li 0)) (f1 noF (vb 48)) (lb false)) (lb true) (pk (bo .neq (vi 39) (li 0)) (bo .neq (vi 39) (li 3)) (lb false)), 2, [], .pk, pk (pk (bo .eql (vi 39) (li 0)) (f1 noF (vb 48)) (lb false)) (lb true) (pk (bo .neq (vi 39) (li 0)) (bo .neq (vi 39) (li 3)) (lb false))⟩], [8, 9]⟩
def Fwt7_62 (jj3 : List Value) := fs (Fwt7_60 jj3) [(16, vi 55), (17, ps 8 0), (112, tu [ig 49, vi 55]), (113, dg 15), (114, vi 6), (115, tu [ig 49, vi 55]), (116, ig 49), (117, vi 55)]
def Rwt7_63 (jj3 : List Value) : Rg := ⟨7, 49, 8, (Fwt7_60 jj3), Bwt7_43, [pl (dg 15) 0 3 0, pv (vi 6) 0, pc (tu [ig 49, vi 55]) 0 9 [dg 15, vi 6] 7, pv (tu [ig 49, vi 55]) 1, pv (ig 49) 1, pv (vi 55) 1, pa 8 0], [2]⟩
def Fwt7_64 (jj3 : List Value) := fs (Fwt7_62 jj3) [(118, vi 55), (119, bo .eql (vi 55) (li 3)), (120, bo .eql (vi 55) (li 3)), (121, gd true (bo .eql (vi 55) (li 3)) (dg 0)), (122, gd true (bo .eql (vi 55) (li 3)) (vb 56)), (123, pk (bo .eql (vi 55) (li 3)) (vb 56) (lb false))]
def Rwt7_65 (jj3 : List Value) : Rg := ⟨6, 56, 9, (Fwt7_62 jj3), Bwt7_45, [pv (vi 55) 0, pv (bo .eql (vi 55) (li 3)) 0, pv (bo .eql (vi 55) (li 3)) 0, ⟨dg 0, 0, [], .ld 0 0, gd true (bo .eql (vi 55) (li 3)) (dg 0)⟩, ⟨vb 56, 0, [], .cl 0 18 [dg 0] 1 [], gd true (bo .eql (vi 55) (li 3)) (vb 56)⟩, ⟨pk (bo .eql (vi 55) (li 3)) (vb 56) (lb false), 1, [], .pk, pk (bo .eql (vi 55) (li 3)) (vb 56) (lb false)⟩], [4]⟩
def Fwt7_66 (jj3 : List Value) := fs (Fwt7_64 jj3) [(124, vi 55), (125, bo .neq (vi 55) (li 0)), (126, bo .neq (vi 55) (li 0)), (127, gd false (bo .neq (vi 55) (li 0)) (ig 49)), (128, gd false (bo .neq (vi 55) (li 0)) (osl (ps 9 0) 1)), (129, gd false (bo .neq (vi 55) (li 0)) (vb 57)), (130, gd false (bo .neq (vi 55) (li 0)) (f1 noF (vb 57))), (131, pk (bo .neq (vi 55) (li 0)) (lb true) (f1 noF (vb 57)))]
def Rwt7_67 (jj3 : List Value) : Rg := ⟨8, 57, 9, (Fwt7_64 jj3), Bwt7_49, [pv (vi 55) 0, pv (bo .neq (vi 55) (li 0)) 0, pv (bo .neq (vi 55) (li 0)) 0, ⟨ig 49, 0, [], .ld 8 0, gd false (bo .neq (vi 55) (li 0)) (ig 49)⟩, ⟨osl (ps 9 0) 1, 0, [9], .al 9, gd false (bo .neq (vi 55) (li 0)) (osl (ps 9 0) 1)⟩, ⟨vb 57, 0, [], .cl 0 19 [osl (ps 9 0) 1] 1 [9], gd false (bo .neq (vi 55) (li 0)) (vb 57)⟩, ⟨f1 noF (vb 57), 1, [], .val, gd false (bo .neq (vi 55) (li 0)) (f1 noF (vb 57))⟩, ⟨pk (bo .neq (vi 55) (li 0)) (lb true) (f1 noF (vb 57)), 1, [], .pk, pk (bo .neq (vi 55) (li 0)) (lb true) (f1 noF (vb 57))⟩], [5]⟩
def Fwt7_68 (jj3 : List Value) (jj4 : List Value) : List Sy := [dg 0, dg 3, vi 6, ps 0 0, ps 1 0, U, lb false, ps 2 0, vi 14, ps 3 0, vi 18, ps 4 0, vi 25, ps 5 0, vi 32, ps 6 0, vi 55, ps 8 0, U, vb 7, f1 noF (vb 7), vi 6, vb 8, f1 noF (vb 8), f1 noF (vb 8), gd false (f1 noF (vb 8)) (dg 0), gd false (f1 noF (vb 8)) (vb 9), gd false (f1 noF (vb 8)) (f1 noF (vb 9)), pk (f1 noF (vb 8)) (lb true) (f1 noF (vb 9)), pk (f1 noF (vb 8)) (lb true) (f1 noF (vb 9)), gd false (pk (f1 noF (vb 8)) (lb true) (f1 noF (vb 9))) (dg 3), gd false (pk (f1 noF (vb 8)) (lb true) (f1 noF (vb 9))) (vb 10), gd false (pk (f1 noF (vb 8)) (lb true) (f1 noF (vb 9))) (f1 noF (vb 10)), pk (pk (f1 noF (vb 8)) (lb true) (f1 noF (vb 9))) (lb true) (f1 noF (vb 10)), tu [dg 11, vi 14], dg 0, dg 3, tu [dg 11, vi 14], dg 11, vi 14, tu [dg 15, vi 18], dg 0, tu [dg 15, vi 18], dg 15, vi 18, tu [ig 19, vi 25], dg 0, vi 6, tu [ig 19, vi 25], ig 19, vi 25, tu [ig 26, vi 32], dg 3, vi 6, tu [ig 26, vi 32], ig 26, vi 32, vi 14, bo .neq (vi 14) (li 0), bo .neq (vi 14) (li 0), gd false (bo .neq (vi 14) (li 0)) (vi 18), gd false (bo .neq (vi 14) (li 0)) (bo .neq (vi 18) (li 0)), pk (bo .neq (vi 14) (li 0)) (lb true) (bo .neq (vi 18) (li 0)), pk (bo .neq (vi 14) (li 0)) (lb true) (bo .neq (vi 18) (li 0)), gd false (pk (bo .neq (vi 14) (li 0)) (lb true) (bo .neq (vi 18) (li 0))) (vi 25), gd false (pk (bo .neq (vi 14) (li 0)) (lb true) (bo .neq (vi 18) (li 0))) (bo .neq (vi 25) (li 0)), pk (pk (bo .neq (vi 14) (li 0)) (lb true) (bo .neq (vi 18) (li 0))) (lb true) (bo .neq (vi 25) (li 0)), pk (pk (bo .neq (vi 14) (li 0)) (lb true) (bo .neq (vi 18) (li 0))) (lb true) (bo .neq (vi 25) (li 0)), gd false (pk (pk (bo .neq (vi 14) (li 0)) (lb true) (bo .neq (vi 18) (li 0))) (lb true) (bo .neq (vi 25) (li 0))) (vi 32), gd false (pk (pk (bo .neq (vi 14) (li 0)) (lb true) (bo .neq (vi 18) (li 0))) (lb true) (bo .neq (vi 25) (li 0))) (bo .neq (vi 32) (li 0)), pk (pk (pk (bo .neq (vi 14) (li 0)) (lb true) (bo .neq (vi 18) (li 0))) (lb true) (bo .neq (vi 25) (li 0))) (lb true) (bo .neq (vi 32) (li 0)), tu [ig 33, vi 39], dg 11, vi 6, tu [ig 33, vi 39], ig 33, vi 39, ig 19, ig 26, osl (ps 7 0) 2, vb 40, f1 noF (vb 40), f1 noF (vb 40), gd false (f1 noF (vb 40)) (vi 39), gd false (f1 noF (vb 40)) (bo .eql (vi 39) (li 0)), gd false (f1 noF (vb 40)) (bo .eql (vi 39) (li 0)), gd true (gd false (f1 noF (vb 40)) (bo .eql (vi 39) (li 0))) (ig 33), jw jj3 0, gd true (gd false (f1 noF (vb 40)) (bo .eql (vi 39) (li 0))) (vb 41), gd true (gd false (f1 noF (vb 40)) (bo .eql (vi 39) (li 0))) (f1 noF (vb 41)), gd false (f1 noF (vb 40)) (pk (bo .eql (vi 39) (li 0)) (f1 noF (vb 41)) (lb false)), pk (f1 noF (vb 40)) (lb true) (pk (bo .eql (vi 39) (li 0)) (f1 noF (vb 41)) (lb false)), vi 39, bo .eql (vi 39) (li 0), bo .eql (vi 39) (li 0), gd true (bo .eql (vi 39) (li 0)) (ig 33), gd true (bo .eql (vi 39) (li 0)) (ig 19), gd true (bo .eql (vi 39) (li 0)) (ig 26), gd true (bo .eql (vi 39) (li 0)) (vi 6), gd true (bo .eql (vi 39) (li 0)) (bo .add (vi 6) (li 8)), gd true (bo .eql (vi 39) (li 0)) (ig 42), gd true (bo .eql (vi 39) (li 0)) (vb 48), gd true (bo .eql (vi 39) (li 0)) (f1 noF (vb 48)), pk (bo .eql (vi 39) (li 0)) (f1 noF (vb 48)) (lb false), pk (bo .eql (vi 39) (li 0)) (f1 noF (vb 48)) (lb false), gd false (pk (bo .eql (vi 39) (li 0)) (f1 noF (vb 48)) (lb false)) (vi 39), gd false (pk (bo .eql (vi 39) (li 0)) (f1 noF (vb 48)) (lb false)) (bo .neq (vi 39) (li 0)), gd false (pk (bo .eql (vi 39) (li 0)) (f1 noF (vb 48)) (lb false)) (bo .neq (vi 39) (li 0)), gd true (gd false (pk (bo .eql (vi 39) (li 0)) (f1 noF (vb 48)) (lb false)) (bo .neq (vi 39) (li 0))) (vi 39), gd true (gd false (pk (bo .eql (vi 39) (li 0)) (f1 noF (vb 48)) (lb false)) (bo .neq (vi 39) (li 0))) (bo .neq (vi 39) (li 3)), gd false (pk (bo .eql (vi 39) (li 0)) (f1 noF (vb 48)) (lb false)) (pk (bo .neq (vi 39) (li 0)) (bo .neq (vi 39) (li 3)) (lb false)), pk (pk (bo .eql (vi 39) (li 0)) (f1 noF (vb 48)) (lb false)) (lb true) (pk (bo .neq (vi 39) (li 0)) (bo .neq (vi 39) (li 3)) (lb false)), tu [ig 49, vi 55], dg 15, vi 6, tu [ig 49, vi 55], ig 49, vi 55, vi 55, bo .eql (vi 55) (li 3), bo .eql (vi 55) (li 3), gd true (bo .eql (vi 55) (li 3)) (dg 0), gd true (bo .eql (vi 55) (li 3)) (vb 56), pk (bo .eql (vi 55) (li 3)) (vb 56) (lb false), vi 55, bo .neq (vi 55) (li 0), bo .neq (vi 55) (li 0), gd false (bo .neq (vi 55) (li 0)) (ig 49), jw jj4 0, gd false (bo .neq (vi 55) (li 0)) (vb 57), gd false (bo .neq (vi 55) (li 0)) (f1 noF (vb 57)), pk (bo .neq (vi 55) (li 0)) (lb true) (f1 noF (vb 57)), U, U, U, U, U, U, U, U, U, U, U, U, U, U, U, U, U]
def Fwt7_69 (jj3 : List Value) (jj4 : List Value) : List Sy := fs (Fwt7_68 jj3 jj4) [(18, ps 9 0), (132, ig 19), (133, ig 49), (134, vi 6), (135, bo .add (vi 6) (li 8)), (136, ig 58)]
def Rwt7_70 (jj3 : List Value) (jj4 : List Value) : Rg := ⟨6, 58, 9, (Fwt7_68 jj3 jj4), Bwt7_54, [pl (ig 19) 0 4 0, pl (ig 49) 0 8 0, pv (vi 6) 0, pv (bo .add (vi 6) (li 8)) 0, pc (ig 58) 0 31 [ig 19, ig 49, bo .add (vi 6) (li 8)] 6, pa 9 0], [4]⟩
def Fwt7_71 (jj3 : List Value) (jj4 : List Value) : List Sy := fs (Fwt7_69 jj3 jj4) [(6, pk (bo .leq (vi 67) (li 0)) (bo .leq (vi 71) (li 0)) (lb false)), (137, ps 9 0), (138, dg 58), (139, dg 64), (140, vi 67), (141, bo .leq (vi 67) (li 0)), (142, bo .leq (vi 67) (li 0)), (143, gd true (bo .leq (vi 67) (li 0)) (dg 68)), (144, gd true (bo .leq (vi 67) (li 0)) (ps 9 3)), (145, gd true (bo .leq (vi 67) (li 0)) (dg 61)), (146, gd true (bo .leq (vi 67) (li 0)) (vi 71)), (147, gd true (bo .leq (vi 67) (li 0)) (bo .leq (vi 71) (li 0))), (148, pk (bo .leq (vi 67) (li 0)) (bo .leq (vi 71) (li 0)) (lb false))]
def Rwt7_72 (jj3 : List Value) (jj4 : List Value) : Rg := ⟨13, 64, 10, (Fwt7_69 jj3 jj4), Bwt7_56, [pv (ps 9 0) 0, pl (dg 58) 0 9 0, pc (dg 64) 0 21 [li 1] 3, pc (vi 67) 1 26 [dg 58, dg 64] 1, pv (bo .leq (vi 67) (li 0)) 2, pv (bo .leq (vi 67) (li 0)) 2, ⟨dg 68, 2, [], .cl 2 21 [li 1] 3 [], gd true (bo .leq (vi 67) (li 0)) (dg 68)⟩, ⟨ps 9 3, 2, [], .val, gd true (bo .leq (vi 67) (li 0)) (ps 9 3)⟩, ⟨dg 61, 2, [], .ld 9 3, gd true (bo .leq (vi 67) (li 0)) (dg 61)⟩, ⟨vi 71, 3, [], .cl 3 26 [dg 68, dg 61] 1 [], gd true (bo .leq (vi 67) (li 0)) (vi 71)⟩, ⟨bo .leq (vi 71) (li 0), 4, [], .val, gd true (bo .leq (vi 67) (li 0)) (bo .leq (vi 71) (li 0))⟩, ⟨pk (bo .leq (vi 67) (li 0)) (bo .leq (vi 71) (li 0)) (lb false), 4, [], .pk, pk (bo .leq (vi 67) (li 0)) (bo .leq (vi 71) (li 0)) (lb false)⟩, pv (pk (bo .leq (vi 67) (li 0)) (bo .leq (vi 71) (li 0)) (lb false)) 4], [2, 3, 6, 9]⟩
theorem power_law {t t' : Value} {s s' : Bool} {m m' : Nat} {x x' p : Int} {w : World} (h : ADy w t s m x) (h' : ADy w t' s' m' x') (hT : TB w) :
 Calls Tryz.prog 7 #[t, t', .int .i64 p] w fun en w' => en = .returned (.bool true) ∧ BL w w' := by
 obtain ⟨A0, n0, c0, rfl, h⟩ := h
 have h : ADy w (.agg #[.bool s, .slice A0 n0 c0, .int .i64 x]) s m x := ⟨_, _, _, rfl, h⟩
 obtain ⟨Ay, ny, cy, rfl, h'⟩ := h'
 have h' : ADy w (.agg #[.bool s', .slice Ay ny cy, .int .i64 x']) s' m' x' := ⟨_, _, _, rfl, h'⟩
 refine fn_enter (u := 64) (fn := Tryz.f7) Tryz.func7 rfl Fwt7_0 [.bool s, .slice A0 n0 c0, .int .i64 x, .bool s', .slice Ay ny cy, .int .i64 x', .int .i64 p] (by kernel_rfl) rfl (fun a0 S0 r0 => ?_)
 refine wp_seq (rk Rwt7_3 [] Fwt7_1 Bwt7_2 S0 r0 ?_)
 intro _ _ _ r1 S1
 refine wp_seq ?_
 refine wp_seq (rk Rwt7_5 [] Fwt7_4 Bwt7_2 S1 r1 ?_)
 intro _ _ r2 _
 refine cgo (l := #[]) (by kernel_rfl) ?_
 refine (begins_q _ (tb hT r2)).mono ?_
 rintro _ V1 ⟨rfl, k1⟩
 refine ⟨[.bool true], rfl, rfl, by kernel_rfl, k1, ?_⟩
 intro _ _ _ r3 S3
 refine wp_cond_split (t := !true) (S3.cnd (by kernel_rfl)) (fun q1 => ?_) (fun q1 => ?_)
 · cases q1
 · refine wp_skip ?_
   refine wp_seq ?_
   refine wp_seq (rk Rwt7_7 [] Fwt7_6 Bwt7_2 S3 r3 ?_)
   intro _ _ r4 _
   refine cgo (l := #[.int .i64 p]) (by kernel_rfl) ?_
   refine (fit_q p _).mono ?_
   rintro _ V2 ⟨rfl, k2⟩
   refine ⟨[.bool (decide (8 ≤ p ∧ p ≤ 4096))], rfl, rfl, by kernel_rfl, k2, ?_⟩
   refine ⟨fun c5 => ?_, fun c5 => ?_⟩
   · replace c5 := yvk (b := !(decide (8 ≤ p ∧ p ≤ 4096))) (by kernel_rfl) c5
     intro _ _ r6 _
     refine cgo (l := #[.agg #[.bool s, .slice A0 n0 c0, .int .i64 x]]) (by kernel_rfl) ?_
     refine (dright_all (h.below r6.first)).mono ?_
     rintro _ V3 ⟨rfl, k3⟩
     refine ⟨[.bool (Fit m x)], rfl, rfl, by kernel_rfl, k3, ?_⟩
     refine ⟨fun c7 => ?_, fun c7 => ?_⟩
     · replace c7 := yvk (b := if !(decide (8 ≤ p ∧ p ≤ 4096)) then true else !(Fit m x)) (by kernel_rfl) c7
       intro W8 g8 r8 _
       refine cgo (l := #[.agg #[.bool s', .slice Ay ny cy, .int .i64 x']]) (by kernel_rfl) ?_
       refine (dright_all (h'.below r8.first)).mono ?_
       rintro _ V4 ⟨rfl, k4⟩
       refine ⟨[.bool (Fit m' x')], rfl, rfl, by kernel_rfl, k4, ?_⟩
       intro a9 g9 W9 r9 S9
       refine wp_cond_split (t := if if !(decide (8 ≤ p ∧ p ≤ 4096)) then true else !(Fit m x) then true else !(Fit m' x')) (S9.cnd (by kernel_rfl)) (fun q2 => ?_) (fun q2 => ?_)
       · refine wp_seq (rk Rwt7_9 [] Fwt7_8 Bwt7_2 S9 r9 ?_)
         intro _ g10 W10 r10 S10
         exact wp_ret (then_ret (ret_ok S10 [.bool true] (by kernel_rfl) (⟨rfl, r10.first⟩)))
       · have hok := fit_go3 q2
         refine wp_skip ?_
         refine wp_seq (rk Rwt7_12 [.st 2 0 (d3 11), .mv (vi 14)] Fwt7_10 Bwt7_13 S9 r9 ?_)
         intro W10 g10 r10 _
         refine cgo (l := #[.agg #[.bool s, .slice A0 n0 c0, .int .i64 x], .agg #[.bool s', .slice Ay ny cy, .int .i64 x']]) (by kernel_rfl) ?_
         refine (dadd_g (h.below r10.first) (h'.below r10.first) hok.1 hok.2.1 (tb hT r10)).mono ?_
         rintro _ V5 ⟨v, why1, rfl, hs, k5⟩
         obtain ⟨b5, A5, n5, c5, x5, rfl⟩ := hs.ex3
         replace hs := hs.lower r10.fs
         refine ⟨[.bool b5, .slice A5 n5 c5, .int .i64 x5, .int .i64 why1], rfl, rfl, by kernel_rfl, k5, ?_⟩
         intro _ _ _ r11 S11
         refine wp_seq (rk Rwt7_16 [.st 3 0 (d3 15), .mv (vi 18)] Fwt7_14 Bwt7_17 S11 r11 ?_)
         intro _ _ r12 _
         refine cgo (l := #[.agg #[.bool s, .slice A0 n0 c0, .int .i64 x]]) (by kernel_rfl) ?_
         refine (dneg_g (h.below r12.first) hok.1 (tb hT r12)).mono ?_
         rintro _ V6 ⟨v, why2, rfl, hn, k6⟩
         obtain ⟨b6, A6, n6, c6, x6, rfl⟩ := hn.ex3
         replace hn := hn.lower r12.fs
         refine ⟨[.bool b6, .slice A6 n6 c6, .int .i64 x6, .int .i64 why2], rfl, rfl, by kernel_rfl, k6, ?_⟩
         intro _ _ _ r13 S13
         refine wp_seq (rk Rwt7_20 [.st 4 0 (i6 19), .mv (vi 25)] Fwt7_18 Bwt7_21 S13 r13 ?_)
         intro _ _ r14 _
         refine cgo (l := #[.agg #[.bool s, .slice A0 n0 c0, .int .i64 x], .int .i64 p]) (by kernel_rfl) ?_
         refine (exp_q (p := p) (h.below r14.first) (tb hT r14)).mono ?_
         rintro _ V7 ⟨v, why3, rfl, ha, k7⟩
         obtain ⟨b7, A7, n7, c7, x7, d7, B7, m7, e7, y7, rfl⟩ := ha.ex6
         replace ha := ha.lower r14.fs
         refine ⟨[.bool b7, .slice A7 n7 c7, .int .i64 x7, .bool d7, .slice B7 m7 e7, .int .i64 y7, .int .i64 why3], rfl, rfl, by kernel_rfl, k7, ?_⟩
         intro _ _ _ r15 S15
         refine wp_seq (rk Rwt7_24 [.st 5 0 (i6 26), .mv (vi 32)] Fwt7_22 Bwt7_25 S15 r15 ?_)
         intro _ _ r16 _
         refine cgo (l := #[.agg #[.bool s', .slice Ay ny cy, .int .i64 x'], .int .i64 p]) (by kernel_rfl) ?_
         refine (exp_q (p := p) (h'.below r16.first) (tb hT r16)).mono ?_
         rintro _ V8 ⟨v, why4, rfl, hb, k8⟩
         obtain ⟨b8, A8, n8, c8, x8, d8, B8, m8, e8, y8, rfl⟩ := hb.ex6
         replace hb := hb.lower r16.fs
         refine ⟨[.bool b8, .slice A8 n8 c8, .int .i64 x8, .bool d8, .slice B8 m8 e8, .int .i64 y8, .int .i64 why4], rfl, rfl, by kernel_rfl, k8, ?_⟩
         intro _ _ _ r17 S17
         refine wp_seq ?_
         refine wp_seq (rk Rwt7_27 [] Fwt7_26 Bwt7_25 S17 r17 ?_)
         intro _ _ _ r18 S18
         refine wp_cond_split (t := if if if why1 != 0 then true else why2 != 0 then true else why3 != 0 then true else why4 != 0) (S18.cnd (by kernel_rfl)) (fun q3 => ?_) (fun q3 => ?_)
         · refine wp_seq (rk Rwt7_29 [] Fwt7_28 Bwt7_25 S18 r18 ?_)
           intro _ g19 W19 r19 S19
           exact wp_ret (then_ret (ret_ok S19 [.bool true] (by kernel_rfl) (⟨rfl, r19.first⟩)))
         · obtain ⟨w1, w2, w3, w4⟩ := neq_or4 q3
           have hs0 := hs
           have hn0 := hn
           have ha0 := ha
           have hb0 := hb
           rw [w1] at hs0
           rw [w2] at hn0
           rw [w3] at ha0
           rw [w4] at hb0
           obtain ⟨hps, hfs⟩ := hs0.got
           obtain ⟨hpn, hfn⟩ := hn0.got
           obtain ⟨lx, ux, hx, f11, f12, f13, f14, f15, _, pa, qa, ea, ea1, ea2⟩ := got_e ha0
           obtain ⟨ly, uy, hy, f21, f22, f23, f24, f25, _, pb, qb, eb, eb1, eb2⟩ := got_e hb0
           refine wp_skip ?_
           refine wp_seq (rk Rwt7_32 [.st 6 0 (i6 33), .mv (vi 39)] Fwt7_30 Bwt7_33 S18 r18 ?_)
           intro W19 g19 r19 _
           refine cgo (l := #[.agg #[.bool b5, .slice A5 n5 c5, .int .i64 x5], .int .i64 p]) (by kernel_rfl) ?_
           refine (exp_cq (p := p) (hps.lat (r19.at_ 4 _ rfl)).c hfs (tb hT r19)).mono ?_
           rintro _ V9 ⟨v, why5, rfl, hz, k9⟩
           obtain ⟨b9, A9, n9, c9, x9, d9, B9, m9, e9, y9, rfl⟩ := hz.ex6
           replace hz := hz.lower r19.fs
           refine ⟨[.bool b9, .slice A9 n9 c9, .int .i64 x9, .bool d9, .slice B9 m9 e9, .int .i64 y9, .int .i64 why5], rfl, rfl, by kernel_rfl, k9, ?_⟩
           intro _ _ _ r20 S20
           refine wp_seq ?_
           refine wp_seq (rk Rwt7_36 [] Fwt7_34 Bwt7_37 S20 r20 ?_)
           intro W21 g21 r21 q21
           refine cgo (l := #[.slice (some ⟨g21 7, 0, none⟩) 2 2]) (by kernel_rfl) ?_
           refine (fine_2 (g0 := g21 7) (q21 7 (by decide) _ rfl) (hx.lat (r21.at_ 6 _ rfl)).c ⟨f11, f12, f13⟩ (hy.lat (r21.at_ 7 _ rfl)).c ⟨f21, f22, f23⟩ (by decide) (tb hT r21)).mono ?_
           rintro _ V10 ⟨rfl, k10⟩
           refine ⟨[.bool true], rfl, rfl, by kernel_rfl, k10, ?_⟩
           refine ⟨fun c22 => ?_, fun c22 => ?_⟩
           · replace c22 := yvk (b := why5 == 0) (by kernel_rfl) c22
             have hw5 : why5 = 0 := by simpa using c22
             have hz0 := hz
             rw [hw5] at hz0
             obtain ⟨lz, uz, hzp, f31, f32, f33, f34, f35, _, pc, qc, ez, ez1, ez2⟩ := got_e hz0
             intro W23 g23 r23 q23
             refine cgo (l := #[.slice (some ⟨g23 8, 0, none⟩) 1 1]) (by kernel_rfl) ?_
             refine (fine_1 (g0 := g23 8) (q23 8 (by decide) _ rfl) (hzp.lat (r23.at_ 8 _ rfl)).c ⟨f31, f32, f33⟩ (by decide) (tb hT r23)).mono ?_
             rintro _ V11 ⟨rfl, k11⟩
             refine ⟨[.bool true], rfl, rfl, by kernel_rfl, k11, ?_⟩
             intro a24 g24 W24 r24 S24
             obtain ⟨jj1, hjj1⟩ : ∃ l : List Value, l = jv S24 Jwt7_39 := ⟨_, rfl⟩
             replace S24 : St w (Fwt7_38 jj1) Bwt7_37 [.bool s, .slice A0 n0 c0, .int .i64 x, .bool s', .slice Ay ny cy, .int .i64 x', .int .i64 p, .bool true, .bool (decide (8 ≤ p ∧ p ≤ 4096)), .bool (Fit m x), .bool (Fit m' x'), .bool b5, .slice A5 n5 c5, .int .i64 x5, .int .i64 why1, .bool b6, .slice A6 n6 c6, .int .i64 x6, .int .i64 why2, .bool b7, .slice A7 n7 c7, .int .i64 x7, .bool d7, .slice B7 m7 e7, .int .i64 y7, .int .i64 why3, .bool b8, .slice A8 n8 c8, .int .i64 x8, .bool d8, .slice B8 m8 e8, .int .i64 y8, .int .i64 why4, .bool b9, .slice A9 n9 c9, .int .i64 x9, .bool d9, .slice B9 m9 e9, .int .i64 y9, .int .i64 why5, .bool true, .bool true] (fun b => g24 (([0, 1, 2, 3, 4, 5, 6, 7] : List Nat).getD b 0)) a24 W24 := by rw [hjj1]; exact St.to S24 [0, 1, 2, 3, 4, 5, 6, 7] (by kernel_rfl) (by kernel_rfl) (by decide) rfl
             refine wp_cond_split (t := if !true then true else if why5 == 0 then !true else false) (S24.cnd (by kernel_rfl)) (fun q4 => ?_) (fun q4 => ?_)
             · simp at q4
             · refine wp_skip ?_
               refine wp_seq ?_
               refine wp_seq (rk (Rwt7_41 jj1) [] (Fwt7_40 jj1) Bwt7_37 S24 r24 ?_)
               refine ⟨fun c25 => ?_, fun c25 => ?_⟩
               · replace c25 := yvk (b := why5 == 0) (by kernel_rfl) c25
                 intro W26 g26 r26 _
                 have cw := dtimes_i (p := p.toNat + 8) (hx.lat (r26.at_ 6 _ rfl)).c (hy.lat (r26.at_ 7 _ rfl)).c (by decide) (by omega) (by omega) (tb hT r26)
                 rw [show ((p.toNat + 8 : Nat) : Int) = IntKind.i64.wrap (p + 8) by rw [i64_id (by omega) (by omega)]; omega] at cw
                 refine cgo (l := #[.agg #[.bool b7, .slice A7 n7 c7, .int .i64 x7, .bool d7, .slice B7 m7 e7, .int .i64 y7], .agg #[.bool b8, .slice A8 n8 c8, .int .i64 x8, .bool d8, .slice B8 m8 e8, .int .i64 y8], .int .i64 (IntKind.i64.wrap (p + 8))]) (by kernel_rfl) ?_
                 refine (cw).mono ?_
                 rintro _ V12 ⟨v, L, U, rfl, ht, ⟨_, _, f4, cu1, cu2⟩, _, _, k12⟩
                 obtain ⟨m1, m2⟩ := four_mul f4 cu1 cu2
                 obtain ⟨b12, A12, n12, c12, x12, d12, B12, m12, e12, y12, rfl⟩ := ht.ex
                 replace ht := ht.lower r26.fs
                 refine ⟨[.bool b12, .slice A12 n12 c12, .int .i64 x12, .bool d12, .slice B12 m12 e12, .int .i64 y12], rfl, rfl, by kernel_rfl, k12, ?_⟩
                 refine ⟨fun c27 => ?_, fun c27 => ?_⟩
                 · replace c27 := yvk (b := why5 == 0) (by kernel_rfl) c27
                   intro W28 g28 r28 _
                   refine cgo (l := #[.agg #[.bool b9, .slice A9 n9 c9, .int .i64 x9, .bool d9, .slice B9 m9 e9, .int .i64 y9], .agg #[.bool b12, .slice A12 n12 c12, .int .i64 x12, .bool d12, .slice B12 m12 e12, .int .i64 y12]]) (by kernel_rfl) ?_
                   refine (meets_q (hzp.lat (r28.at_ 8 _ rfl)).c (ht.lat (r28.at_ 11 _ rfl)).c (pw_meets ea eb ez f15 f25 ea1 ea2 eb1 eb2 ez1 ez2 m1 m2).1 (pw_meets ea eb ez f15 f25 ea1 ea2 eb1 eb2 ez1 ez2 m1 m2).2 (by decide) (tb hT r28)).mono ?_
                   rintro _ V13 ⟨rfl, k13⟩
                   refine ⟨[.bool true], rfl, rfl, by kernel_rfl, k13, ?_⟩
                   intro _ _ _ r29 S29
                   refine wp_cond_split (t := if if why5 == 0 then !true else false then true else if why5 != 0 then why5 != 3 else false) (S29.cnd (by kernel_rfl)) (fun q5 => ?_) (fun q5 => ?_)
                   · simp [hw5] at q5
                   · refine wp_skip ?_
                     refine wp_seq (rk (Rwt7_44 jj1) [.st 8 0 (i6 49), .mv (vi 55)] (Fwt7_42 jj1) Bwt7_45 S29 r29 ?_)
                     intro W30 g30 r30 _
                     refine cgo (l := #[.agg #[.bool b6, .slice A6 n6 c6, .int .i64 x6], .int .i64 p]) (by kernel_rfl) ?_
                     refine (exp_cq (p := p) (hpn.lat (r30.at_ 5 _ rfl)).c hfn (tb hT r30)).mono ?_
                     rintro _ V14 ⟨v, why6, rfl, hm, k14⟩
                     obtain rfl : why6 = 0 := why_n ha0 hm
                     obtain ⟨b14, A14, n14, c14, x14, d14, B14, m14, e14, y14, rfl⟩ := hm.ex6
                     replace hm := hm.lower r30.fs
                     obtain ⟨lm, um, hmp, f41, f42, f43, f44, f45, _, pm, qm, em, em1, em2⟩ := got_e hm
                     refine ⟨[.bool b14, .slice A14 n14 c14, .int .i64 x14, .bool d14, .slice B14 m14 e14, .int .i64 y14, .int .i64 (0 : Int)], rfl, rfl, by kernel_rfl, k14, ?_⟩
                     intro _ _ _ r31 S31
                     refine wp_seq ?_
                     refine wp_seq (rk (Rwt7_47 jj1) [] (Fwt7_46 jj1) Bwt7_45 S31 r31 ?_)
                     refine ⟨fun c32 => ?_, fun c32 => ?_⟩
                     · replace c32 := yvk (b := (0 : Int) == 3) (by kernel_rfl) c32
                       simp at c32
                     · replace c32 := ynk (b := (0 : Int) == 3) (by kernel_rfl) c32
                       intro a33 g33 W33 r33 S33
                       refine wp_cond_split (t := if (0 : Int) == 3 then false else false) (S33.cnd (by kernel_rfl)) (fun q6 => ?_) (fun q6 => ?_)
                       · simp at q6
                       · refine wp_skip ?_
                         refine wp_seq ?_
                         refine wp_seq (rk (Rwt7_50 jj1) [] (Fwt7_48 jj1) Bwt7_45 S33 r33 ?_)
                         refine ⟨fun c34 => ?_, fun c34 => ?_⟩
                         · replace c34 := yvk (b := (0 : Int) != 0) (by kernel_rfl) c34
                           intro W35 g35 r35 q35
                           refine cgo (l := #[.slice (some ⟨g35 9, 0, none⟩) 1 1]) (by kernel_rfl) ?_
                           refine (fine_1 (g0 := g35 9) (q35 9 (.head _) _ rfl) (hmp.lat (r35.at_ 13 _ rfl)).c ⟨f41, f42, f43⟩ (by decide) (tb hT r35)).mono ?_
                           rintro _ V15 ⟨rfl, k15⟩
                           refine ⟨[.bool true], rfl, rfl, by kernel_rfl, k15, ?_⟩
                           intro a36 g36 W36 r36 S36
                           obtain ⟨jj2, hjj2⟩ : ∃ l : List Value, l = jv S36 Jwt7_52 := ⟨_, rfl⟩
                           replace S36 : St w (Fwt7_51 jj1 jj2) Bwt7_45 [.bool s, .slice A0 n0 c0, .int .i64 x, .bool s', .slice Ay ny cy, .int .i64 x', .int .i64 p, .bool true, .bool (decide (8 ≤ p ∧ p ≤ 4096)), .bool (Fit m x), .bool (Fit m' x'), .bool b5, .slice A5 n5 c5, .int .i64 x5, .int .i64 why1, .bool b6, .slice A6 n6 c6, .int .i64 x6, .int .i64 why2, .bool b7, .slice A7 n7 c7, .int .i64 x7, .bool d7, .slice B7 m7 e7, .int .i64 y7, .int .i64 why3, .bool b8, .slice A8 n8 c8, .int .i64 x8, .bool d8, .slice B8 m8 e8, .int .i64 y8, .int .i64 why4, .bool b9, .slice A9 n9 c9, .int .i64 x9, .bool d9, .slice B9 m9 e9, .int .i64 y9, .int .i64 why5, .bool true, .bool true, .bool b12, .slice A12 n12 c12, .int .i64 x12, .bool d12, .slice B12 m12 e12, .int .i64 y12, .bool true, .bool b14, .slice A14 n14 c14, .int .i64 x14, .bool d14, .slice B14 m14 e14, .int .i64 y14, .int .i64 (0 : Int), .bool false, .bool true] (fun b => g36 (([0, 1, 2, 3, 4, 5, 6, 7, 8] : List Nat).getD b 0)) a36 W36 := by rw [hjj2]; exact St.to S36 [0, 1, 2, 3, 4, 5, 6, 7, 8] (by kernel_rfl) (by kernel_rfl) (by decide) rfl
                           refine wp_cond_split (t := if (0 : Int) != 0 then true else !true) (S36.cnd (by kernel_rfl)) (fun q7 => ?_) (fun q7 => ?_)
                           · simp at q7
                           · refine wp_skip ?_
                             refine wp_seq (rk (Rwt7_55 jj1 jj2) [.st 9 0 (i6 58)] (Fwt7_53 jj1 jj2) Bwt7_56 S36 r36 ?_)
                             intro W37 g37 r37 _
                             have cw := dtimes_i (p := p.toNat + 8) (hx.lat (r37.at_ 6 _ rfl)).c (hmp.lat (r37.at_ 13 _ rfl)).c (by decide) (by omega) (by omega) (tb hT r37)
                             rw [show ((p.toNat + 8 : Nat) : Int) = IntKind.i64.wrap (p + 8) by rw [i64_id (by omega) (by omega)]; omega] at cw
                             refine cgo (l := #[.agg #[.bool b7, .slice A7 n7 c7, .int .i64 x7, .bool d7, .slice B7 m7 e7, .int .i64 y7], .agg #[.bool b14, .slice A14 n14 c14, .int .i64 x14, .bool d14, .slice B14 m14 e14, .int .i64 y14], .int .i64 (IntKind.i64.wrap (p + 8))]) (by kernel_rfl) ?_
                             refine (cw).mono ?_
                             rintro _ V16 ⟨v, L2, U2, rfl, ho, ⟨_, _, f4, cu1, cu2⟩, _, _, k16⟩
                             obtain ⟨m3, m4⟩ := four_mul f4 cu1 cu2
                             obtain ⟨b16, A16, n16, c16, x16, d16, B16, m16, e16, y16, rfl⟩ := ho.ex
                             replace ho := ho.lower r37.fs
                             refine ⟨[.bool b16, .slice A16 n16 c16, .int .i64 x16, .bool d16, .slice B16 m16 e16, .int .i64 y16], rfl, rfl, by kernel_rfl, k16, ?_⟩
                             intro _ _ _ r38 S38
                             refine wp_seq (rk (Rwt7_58 jj1 jj2) [] (Fwt7_57 jj1 jj2) Bwt7_56 S38 r38 ?_)
                             intro W39 g39 r39 _
                             refine cgo (l := #[.int .i64 1]) (by kernel_rfl) ?_
                             refine (dint_q 1 _ (by decide) (by decide)).mono ?_
                             rintro _ V17 ⟨v, rfl, h6, k17⟩
                             obtain ⟨b17, A17, n17, c17, x17, rfl⟩ := h6.ex
                             replace h6 := h6.lower r39.fs
                             refine ⟨[.bool b17, .slice A17 n17 c17, .int .i64 x17], rfl, rfl, by kernel_rfl, k17, ?_⟩
                             intro _ _ r40 _
                             refine cgo (l := #[.agg #[.bool b16, .slice A16 n16 c16, .int .i64 x16], .agg #[.bool b17, .slice A17 n17 c17, .int .i64 x17]]) (by kernel_rfl) ?_
                             refine (dorder_q (ho.lat (r40.at_ 15 _ rfl)).lo.c (h6.lat (r40.at_ 16 _ rfl)).c (by decide) (tb hT r40)).mono ?_
                             rintro _ V18 ⟨rfl, k18⟩
                             refine ⟨[.int .i64 (cmpQ L2 ((1 : Int) : Rat))], rfl, rfl, by kernel_rfl, k18, ?_⟩
                             have e8 := cmp_le (pw_one ea em f15 f45 ea1 ea2 em1 em2 m3 m4).1
                             refine ⟨fun c41 => ?_, fun c41 => ?_⟩
                             · replace c41 := yvk (b := decide ((cmpQ L2 ((1 : Int) : Rat)) ≤ 0)) (by kernel_rfl) c41
                               intro W42 g42 r42 _
                               refine cgo (l := #[.int .i64 1]) (by kernel_rfl) ?_
                               refine (dint_q 1 _ (by decide) (by decide)).mono ?_
                               rintro _ V19 ⟨v, rfl, h7, k19⟩
                               obtain ⟨b19, A19, n19, c19, x19, rfl⟩ := h7.ex
                               replace h7 := h7.lower r42.fs
                               refine ⟨[.bool b19, .slice A19 n19 c19, .int .i64 x19], rfl, rfl, by kernel_rfl, k19, ?_⟩
                               refine ⟨fun c43 => ?_, fun c43 => ?_⟩
                               · replace c43 := yvk (b := decide ((cmpQ L2 ((1 : Int) : Rat)) ≤ 0)) (by kernel_rfl) c43
                                 intro _ _ r44 _
                                 refine cgo (l := #[.agg #[.bool b19, .slice A19 n19 c19, .int .i64 x19], .agg #[.bool d16, .slice B16 m16 e16, .int .i64 y16]]) (by kernel_rfl) ?_
                                 refine (dorder_q (h7.lat (r44.at_ 18 _ rfl)).c (ho.lat (r44.at_ 15 _ rfl)).hi.c (by decide) (tb hT r44)).mono ?_
                                 rintro _ V20 ⟨rfl, k20⟩
                                 refine ⟨[.int .i64 (cmpQ ((1 : Int) : Rat) U2)], rfl, rfl, by kernel_rfl, k20, ?_⟩
                                 have e9 := cmp_le (pw_one ea em f15 f45 ea1 ea2 em1 em2 m3 m4).2
                                 intro _ _ _ r45 S45
                                 exact rt S45 [.bool (if decide ((cmpQ L2 ((1 : Int) : Rat)) ≤ 0) then decide ((cmpQ ((1 : Int) : Rat) U2) ≤ 0) else false)] (⟨by rw [e8, e9]; rfl, r45.first⟩)
                               · replace c43 := ynk (b := decide ((cmpQ L2 ((1 : Int) : Rat)) ≤ 0)) (by kernel_rfl) c43
                                 rw [e8] at c43; cases c43
                             · replace c41 := ynk (b := decide ((cmpQ L2 ((1 : Int) : Rat)) ≤ 0)) (by kernel_rfl) c41
                               rw [e8] at c41; cases c41
                         · replace c34 := ynk (b := (0 : Int) != 0) (by kernel_rfl) c34
                           simp at c34
                 · replace c27 := ynk (b := why5 == 0) (by kernel_rfl) c27
                   simp [hw5] at c27
               · replace c25 := ynk (b := why5 == 0) (by kernel_rfl) c25
                 simp [hw5] at c25
           · replace c22 := ynk (b := why5 == 0) (by kernel_rfl) c22
             have hw5 : why5 ≠ 0 := by simpa using c22
             have hw6 : why5 = 3 := ((why_e hz ⟨trivial, hok.2.2⟩).resolve_left (fun q => hw5 q.1)).1
             intro a23 g23 W23 r23 S23
             obtain ⟨jj3, hjj3⟩ : ∃ l : List Value, l = jv S23 Jwt7_39 := ⟨_, rfl⟩
             replace S23 : St w (Fwt7_59 jj3) Bwt7_37 [.bool s, .slice A0 n0 c0, .int .i64 x, .bool s', .slice Ay ny cy, .int .i64 x', .int .i64 p, .bool true, .bool (decide (8 ≤ p ∧ p ≤ 4096)), .bool (Fit m x), .bool (Fit m' x'), .bool b5, .slice A5 n5 c5, .int .i64 x5, .int .i64 why1, .bool b6, .slice A6 n6 c6, .int .i64 x6, .int .i64 why2, .bool b7, .slice A7 n7 c7, .int .i64 x7, .bool d7, .slice B7 m7 e7, .int .i64 y7, .int .i64 why3, .bool b8, .slice A8 n8 c8, .int .i64 x8, .bool d8, .slice B8 m8 e8, .int .i64 y8, .int .i64 why4, .bool b9, .slice A9 n9 c9, .int .i64 x9, .bool d9, .slice B9 m9 e9, .int .i64 y9, .int .i64 why5, .bool true, .bool false] (fun b => g23 (([0, 1, 2, 3, 4, 5, 6, 7] : List Nat).getD b 0)) a23 W23 := by rw [hjj3]; exact St.to S23 [0, 1, 2, 3, 4, 5, 6, 7] (by kernel_rfl) (by kernel_rfl) (by decide) rfl
             refine wp_cond_split (t := if !true then true else if why5 == 0 then !false else false) (S23.cnd (by kernel_rfl)) (fun q8 => ?_) (fun q8 => ?_)
             · simp [hw6] at q8
             · refine wp_skip ?_
               refine wp_seq ?_
               refine wp_seq (rk (Rwt7_61 jj3) [] (Fwt7_60 jj3) Bwt7_37 S23 r23 ?_)
               refine ⟨fun c24 => ?_, fun c24 => ?_⟩
               · replace c24 := yvk (b := why5 == 0) (by kernel_rfl) c24
                 simp [hw6] at c24
               · replace c24 := ynk (b := why5 == 0) (by kernel_rfl) c24
                 refine ⟨fun c25 => ?_, fun c25 => ?_⟩
                 · replace c25 := yvk (b := why5 == 0) (by kernel_rfl) c25
                   simp [hw6] at c25
                 · replace c25 := ynk (b := why5 == 0) (by kernel_rfl) c25
                   intro _ g26 W26 r26 S26
                   refine wp_cond_split (t := if if why5 == 0 then !false else false then true else if why5 != 0 then why5 != 3 else false) (S26.cnd (by kernel_rfl)) (fun q9 => ?_) (fun q9 => ?_)
                   · simp [hw6] at q9
                   · refine wp_skip ?_
                     refine wp_seq (rk (Rwt7_63 jj3) [.st 8 0 (i6 49), .mv (vi 55)] (Fwt7_62 jj3) Bwt7_45 S26 r26 ?_)
                     intro _ _ r27 _
                     refine cgo (l := #[.agg #[.bool b6, .slice A6 n6 c6, .int .i64 x6], .int .i64 p]) (by kernel_rfl) ?_
                     refine (exp_cq (p := p) (hpn.lat (r27.at_ 5 _ rfl)).c hfn (tb hT r27)).mono ?_
                     rintro _ V21 ⟨v, why6, rfl, hm, k21⟩
                     obtain rfl : why6 = 0 := why_n ha0 hm
                     obtain ⟨b21, A21, n21, c21, x21, d21, B21, m21, e21, y21, rfl⟩ := hm.ex6
                     replace hm := hm.lower r27.fs
                     obtain ⟨lm, um, hmp, f41, f42, f43, f44, f45, _, pm, qm, em, em1, em2⟩ := got_e hm
                     refine ⟨[.bool b21, .slice A21 n21 c21, .int .i64 x21, .bool d21, .slice B21 m21 e21, .int .i64 y21, .int .i64 (0 : Int)], rfl, rfl, by kernel_rfl, k21, ?_⟩
                     intro _ g28 W28 r28 S28
                     refine wp_seq ?_
                     refine wp_seq (rk (Rwt7_65 jj3) [] (Fwt7_64 jj3) Bwt7_45 S28 r28 ?_)
                     refine ⟨fun c29 => ?_, fun c29 => ?_⟩
                     · replace c29 := yvk (b := (0 : Int) == 3) (by kernel_rfl) c29
                       simp at c29
                     · replace c29 := ynk (b := (0 : Int) == 3) (by kernel_rfl) c29
                       intro _ g30 W30 r30 S30
                       refine wp_cond_split (t := if (0 : Int) == 3 then false else false) (S30.cnd (by kernel_rfl)) (fun q10 => ?_) (fun q10 => ?_)
                       · simp at q10
                       · refine wp_skip ?_
                         refine wp_seq ?_
                         refine wp_seq (rk (Rwt7_67 jj3) [] (Fwt7_66 jj3) Bwt7_45 S30 r30 ?_)
                         refine ⟨fun c31 => ?_, fun c31 => ?_⟩
                         · replace c31 := yvk (b := (0 : Int) != 0) (by kernel_rfl) c31
                           intro W32 g32 r32 q32
                           refine cgo (l := #[.slice (some ⟨g32 9, 0, none⟩) 1 1]) (by kernel_rfl) ?_
                           refine (fine_1 (g0 := g32 9) (q32 9 (.head _) _ rfl) (hmp.lat (r32.at_ 10 _ rfl)).c ⟨f41, f42, f43⟩ (by decide) (tb hT r32)).mono ?_
                           rintro _ V22 ⟨rfl, k22⟩
                           refine ⟨[.bool true], rfl, rfl, by kernel_rfl, k22, ?_⟩
                           intro a33 g33 W33 r33 S33
                           obtain ⟨jj4, hjj4⟩ : ∃ l : List Value, l = jv S33 Jwt7_52 := ⟨_, rfl⟩
                           replace S33 : St w (Fwt7_68 jj3 jj4) Bwt7_45 [.bool s, .slice A0 n0 c0, .int .i64 x, .bool s', .slice Ay ny cy, .int .i64 x', .int .i64 p, .bool true, .bool (decide (8 ≤ p ∧ p ≤ 4096)), .bool (Fit m x), .bool (Fit m' x'), .bool b5, .slice A5 n5 c5, .int .i64 x5, .int .i64 why1, .bool b6, .slice A6 n6 c6, .int .i64 x6, .int .i64 why2, .bool b7, .slice A7 n7 c7, .int .i64 x7, .bool d7, .slice B7 m7 e7, .int .i64 y7, .int .i64 why3, .bool b8, .slice A8 n8 c8, .int .i64 x8, .bool d8, .slice B8 m8 e8, .int .i64 y8, .int .i64 why4, .bool b9, .slice A9 n9 c9, .int .i64 x9, .bool d9, .slice B9 m9 e9, .int .i64 y9, .int .i64 why5, .bool true, .bool false, .bool false, .bool false, .bool false, .bool false, .bool false, .bool false, .bool false, .bool b21, .slice A21 n21 c21, .int .i64 x21, .bool d21, .slice B21 m21 e21, .int .i64 y21, .int .i64 (0 : Int), .bool false, .bool true] (fun b => g33 (([0, 1, 2, 3, 4, 5, 6, 7, 8] : List Nat).getD b 0)) a33 W33 := by rw [hjj4]; exact St.to S33 [0, 1, 2, 3, 4, 5, 6, 7, 8] (by kernel_rfl) (by kernel_rfl) (by decide) rfl
                           refine wp_cond_split (t := if (0 : Int) != 0 then true else !true) (S33.cnd (by kernel_rfl)) (fun q11 => ?_) (fun q11 => ?_)
                           · simp at q11
                           · refine wp_skip ?_
                             refine wp_seq (rk (Rwt7_70 jj3 jj4) [.st 9 0 (i6 58)] (Fwt7_69 jj3 jj4) Bwt7_56 S33 r33 ?_)
                             intro _ _ r34 _
                             have cw := dtimes_i (p := p.toNat + 8) (hx.lat (r34.at_ 6 _ rfl)).c (hmp.lat (r34.at_ 10 _ rfl)).c (by decide) (by omega) (by omega) (tb hT r34)
                             rw [show ((p.toNat + 8 : Nat) : Int) = IntKind.i64.wrap (p + 8) by rw [i64_id (by omega) (by omega)]; omega] at cw
                             refine cgo (l := #[.agg #[.bool b7, .slice A7 n7 c7, .int .i64 x7, .bool d7, .slice B7 m7 e7, .int .i64 y7], .agg #[.bool b21, .slice A21 n21 c21, .int .i64 x21, .bool d21, .slice B21 m21 e21, .int .i64 y21], .int .i64 (IntKind.i64.wrap (p + 8))]) (by kernel_rfl) ?_
                             refine (cw).mono ?_
                             rintro _ V23 ⟨v, L2, U2, rfl, ho, ⟨_, _, f4, cu1, cu2⟩, _, _, k23⟩
                             obtain ⟨m3, m4⟩ := four_mul f4 cu1 cu2
                             obtain ⟨b23, A23, n23, c23, x23, d23, B23, m23, e23, y23, rfl⟩ := ho.ex
                             replace ho := ho.lower r34.fs
                             refine ⟨[.bool b23, .slice A23 n23 c23, .int .i64 x23, .bool d23, .slice B23 m23 e23, .int .i64 y23], rfl, rfl, by kernel_rfl, k23, ?_⟩
                             intro _ g35 W35 r35 S35
                             refine wp_seq (rk (Rwt7_72 jj3 jj4) [] (Fwt7_71 jj3 jj4) Bwt7_56 S35 r35 ?_)
                             intro W36 g36 r36 _
                             refine cgo (l := #[.int .i64 1]) (by kernel_rfl) ?_
                             refine (dint_q 1 _ (by decide) (by decide)).mono ?_
                             rintro _ V24 ⟨v, rfl, h6, k24⟩
                             obtain ⟨b24, A24, n24, c24, x24, rfl⟩ := h6.ex
                             replace h6 := h6.lower r36.fs
                             refine ⟨[.bool b24, .slice A24 n24 c24, .int .i64 x24], rfl, rfl, by kernel_rfl, k24, ?_⟩
                             intro W37 g37 r37 _
                             refine cgo (l := #[.agg #[.bool b23, .slice A23 n23 c23, .int .i64 x23], .agg #[.bool b24, .slice A24 n24 c24, .int .i64 x24]]) (by kernel_rfl) ?_
                             refine (dorder_q (ho.lat (r37.at_ 12 _ rfl)).lo.c (h6.lat (r37.at_ 13 _ rfl)).c (by decide) (tb hT r37)).mono ?_
                             rintro _ V25 ⟨rfl, k25⟩
                             refine ⟨[.int .i64 (cmpQ L2 ((1 : Int) : Rat))], rfl, rfl, by kernel_rfl, k25, ?_⟩
                             have e8 := cmp_le (pw_one ea em f15 f45 ea1 ea2 em1 em2 m3 m4).1
                             refine ⟨fun c38 => ?_, fun c38 => ?_⟩
                             · replace c38 := yvk (b := decide ((cmpQ L2 ((1 : Int) : Rat)) ≤ 0)) (by kernel_rfl) c38
                               intro W39 g39 r39 _
                               refine cgo (l := #[.int .i64 1]) (by kernel_rfl) ?_
                               refine (dint_q 1 _ (by decide) (by decide)).mono ?_
                               rintro _ V26 ⟨v, rfl, h7, k26⟩
                               obtain ⟨b26, A26, n26, c26, x26, rfl⟩ := h7.ex
                               replace h7 := h7.lower r39.fs
                               refine ⟨[.bool b26, .slice A26 n26 c26, .int .i64 x26], rfl, rfl, by kernel_rfl, k26, ?_⟩
                               refine ⟨fun c40 => ?_, fun c40 => ?_⟩
                               · replace c40 := yvk (b := decide ((cmpQ L2 ((1 : Int) : Rat)) ≤ 0)) (by kernel_rfl) c40
                                 intro _ _ r41 _
                                 refine cgo (l := #[.agg #[.bool b26, .slice A26 n26 c26, .int .i64 x26], .agg #[.bool d23, .slice B23 m23 e23, .int .i64 y23]]) (by kernel_rfl) ?_
                                 refine (dorder_q (h7.lat (r41.at_ 15 _ rfl)).c (ho.lat (r41.at_ 12 _ rfl)).hi.c (by decide) (tb hT r41)).mono ?_
                                 rintro _ V27 ⟨rfl, k27⟩
                                 refine ⟨[.int .i64 (cmpQ ((1 : Int) : Rat) U2)], rfl, rfl, by kernel_rfl, k27, ?_⟩
                                 have e9 := cmp_le (pw_one ea em f15 f45 ea1 ea2 em1 em2 m3 m4).2
                                 intro _ g42 W42 r42 S42
                                 exact rt S42 [.bool (if decide ((cmpQ L2 ((1 : Int) : Rat)) ≤ 0) then decide ((cmpQ ((1 : Int) : Rat) U2) ≤ 0) else false)] (⟨by rw [e8, e9]; rfl, r42.first⟩)
                               · replace c40 := ynk (b := decide ((cmpQ L2 ((1 : Int) : Rat)) ≤ 0)) (by kernel_rfl) c40
                                 rw [e8] at c40; cases c40
                             · replace c38 := ynk (b := decide ((cmpQ L2 ((1 : Int) : Rat)) ≤ 0)) (by kernel_rfl) c38
                               rw [e8] at c38; cases c38
                         · replace c31 := ynk (b := (0 : Int) != 0) (by kernel_rfl) c31
                           simp at c31
     · replace c7 := ynk (b := if !(decide (8 ≤ p ∧ p ≤ 4096)) then true else !(Fit m x)) (by kernel_rfl) c7
       intro a8 g8 W8 r8 S8
       refine wp_cond_split (t := if if !(decide (8 ≤ p ∧ p ≤ 4096)) then true else !(Fit m x) then true else !false) (S8.cnd (by kernel_rfl)) (fun q12 => ?_) (fun q12 => ?_)
       · refine wp_seq (rk Rwt7_9 [] Fwt7_8 Bwt7_2 S8 r8 ?_)
         intro a9 g9 W9 r9 S9
         exact wp_ret (then_ret (ret_ok S9 [.bool true] (by kernel_rfl) (⟨rfl, r9.first⟩)))
       · simp at q12
   · replace c5 := ynk (b := !(decide (8 ≤ p ∧ p ≤ 4096))) (by kernel_rfl) c5
     refine ⟨fun c6 => ?_, fun c6 => ?_⟩
     · replace c6 := yvk (b := if !(decide (8 ≤ p ∧ p ≤ 4096)) then true else !false) (by kernel_rfl) c6
       revert c6; cases decide (8 ≤ p ∧ p ≤ 4096) <;> intro h <;> cases h
     · replace c6 := ynk (b := if !(decide (8 ≤ p ∧ p ≤ 4096)) then true else !false) (by kernel_rfl) c6
       intro _ _ _ r7 S7
       refine wp_cond_split (t := if if !(decide (8 ≤ p ∧ p ≤ 4096)) then true else !false then true else !false) (S7.cnd (by kernel_rfl)) (fun q13 => ?_) (fun q13 => ?_)
       · refine wp_seq (rk Rwt7_9 [] Fwt7_8 Bwt7_2 S7 r7 ?_)
         intro a8 g8 W8 r8 S8
         exact wp_ret (then_ret (ret_ok S8 [.bool true] (by kernel_rfl) (⟨rfl, r8.first⟩)))
       · simp at q13
end Go.Proofs.YtkdicconchobfaaGreatDoor
