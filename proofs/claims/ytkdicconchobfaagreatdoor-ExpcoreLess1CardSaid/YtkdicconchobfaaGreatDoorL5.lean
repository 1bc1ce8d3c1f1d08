/- Part 5 of the library of this claim: what the program and the document compute, as contracts of their functions. -/
import Derived.Test.YtkdicconchobfaaGreatDoorL4
import Derived.Test.YtkdicconchobfaaGreatDoorRows
import Derived.WalkKit
import Derived.ProofKit
import Derived.Deep.Slices
set_option maxRecDepth 100000
set_option maxHeartbeats 8000000
namespace Go.Proofs.YtkdicconchobfaaGreatDoor
open Go Go.RowKit Go.Proofs.YtkdicconchobfaaGreatDoorW.PrintWords Limb Exq
set_option linter.unusedVariables false
set_option linter.unusedSimpArgs false
def Fuh87_0 := [dg 0, vi 3, U, U, U, U, U, U, U, U, U, U, U, U, U, U, U, U, U, U, U]
def Fuh87_1 := fs Fuh87_0 [(2, ps 0 0), (4, lz)]
def Buh87_2 := [bb 25 (d3 0)]
def Ruh87_3 : Rg := ⟨2, 4, 0, Fuh87_0, Buh87_2, [pa 0 0, pv (lz) 0], []⟩
def Fuh87_4 := fs Fuh87_1 [(5, ps 1 0), (8, dg 0), (9, dg 4)]
def Buh87_5 := [bb 25 (d3 0), bb 25 o3]
def Ruh87_6 : Rg := ⟨3, 4, 1, Fuh87_1, Buh87_5, [pl (dg 0) 0 0 0, pc (dg 4) 0 44 [dg 0] 3, pa 1 0], [1]⟩
def Buh87_7 := [bb 25 (d3 0), bb 25 (d3 4)]
def Fuh87_8 := fs Fuh87_4 [(6, vs 7), (7, vb 8), (10, tu [vs 7, vb 8]), (11, ps 1 1), (12, vs 5), (13, ps 1 2), (14, vi 6), (15, vi 3), (16, bo .add (vi 6) (vi 3)), (17, tu [vs 7, vb 8]), (18, vs 7), (19, vb 8)]
def Ruh87_9 : Rg := ⟨12, 7, 2, Fuh87_4, Buh87_7, [pv (ps 1 1) 0, pl (vs 5) 0 1 1, pv (ps 1 2) 0, pl (vi 6) 0 1 2, pv (vi 3) 0, pv (bo .add (vi 6) (vi 3)) 0, pc (tu [vs 7, vb 8]) 0 128 [vs 5, bo .add (vi 6) (vi 3)] 2, pv (tu [vs 7, vb 8]) 1, pv (vs 7) 1, pv (vb 8) 1, pv (vs 7) 1, pv (vb 8) 1], [6]⟩
def Fuh87_10 := fs Fuh87_8 [(4, vs 7), (20, vs 7)]
def Ruh87_11 : Rg := ⟨2, 9, 2, Fuh87_8, Buh87_7, [pv (vs 7) 0, pv (vs 7) 0], []⟩
def Fuh88_0 := [vs 0, vs 1, vi 2, U, U, U, U, U, U, U, U, U, U, U, U, U]
def Fuh88_1 := fs Fuh88_0 [(6, ps 0 0)]
def Buh88_2 := [bb 28 o6]
def Ruh88_3 : Rg := ⟨1, 3, 0, Fuh88_0, Buh88_2, [pa 0 0], []⟩
def Fuh88_4 := fs Fuh88_1 [(7, vs 0), (8, vi 2), (9, f1 ngF (vi 2)), (10, dg 3), (11, vs 1), (12, vi 2), (13, f1 ngF (vi 2)), (14, dg 6), (15, ig 3)]
def Ruh88_5 : Rg := ⟨9, 3, 1, Fuh88_1, Buh88_2, [pv (vs 0) 0, pv (vi 2) 0, pv (f1 ngF (vi 2)) 0, pc (dg 3) 0 46 [lb false, vs 0, f1 ngF (vi 2)] 3, pv (vs 1) 0, pv (vi 2) 0, pv (f1 ngF (vi 2)) 0, pc (dg 6) 1 46 [lb false, vs 1, f1 ngF (vi 2)] 3, pv (ig 3) 2], [3, 7]⟩
def Buh88_6 := [bb 28 (i6 3)]
def Fuh76_0 : List Sy := [U, U, U]
def Fuh76_1 := fs Fuh76_0 [(0, ps 0 0)]
def Buh76_2 := [bb 28 o6]
def Ruh76_3 : Rg := ⟨1, 0, 0, Fuh76_0, Buh76_2, [pa 0 0], []⟩
def Fuh76_4 := fs Fuh76_1 [(1, dg 0), (2, ig 3)]
def Ruh76_5 : Rg := ⟨2, 0, 1, Fuh76_1, Buh76_2, [pc (dg 0) 0 21 [li 1] 3, pc (ig 3) 1 20 [dg 0] 6], [0, 1]⟩
def Buh76_6 := [bb 28 (i6 3)]
theorem ab_of {a : Rat} (h : 0 ≤ a) : ab a = a := if_pos h
def Fuh74_0 := [dg 0, vi 3, U, U, U, U, U, U, U, U, U, U, U, U, U, U, U, U, U, U, U, U, U, U, U, U, U, U, U, U, U, U, U, U, U, U, U, U, U, U, U, U, U, U, U, U, U, U, U]
def Fuh74_1 := fs Fuh74_0 [(2, ps 0 0), (4, ps 1 0)]
def Buh74_2 := [bb 25 (d3 0), bb 28 o6]
def Ruh74_3 : Rg := ⟨2, 4, 0, Fuh74_0, Buh74_2, [pa 0 0, pa 1 0], []⟩
def Fuh74_4 := fs Fuh74_1 [(5, li 0)]
def Ruh74_5 : Rg := ⟨1, 4, 2, Fuh74_1, Buh74_2, [pv (li 0) 0], []⟩
def Fuh74_6 := fs Fuh74_4 [(11, dg 0), (12, vb 4), (13, f1 noF (vb 4))]
def Ruh74_7 : Rg := ⟨3, 4, 2, Fuh74_4, Buh74_2, [pl (dg 0) 0 0 0, pc (vb 4) 0 42 [dg 0] 1, pv (f1 noF (vb 4)) 1], [1]⟩
def Fuh74_8 := fs Fuh74_6 [(5, f2 mxF (bo .add (vi 5) (li 9)) (li 0)), (14, dg 0), (15, vi 5), (16, bo .add (vi 5) (li 9)), (17, f2 mxF (bo .add (vi 5) (li 9)) (li 0))]
def Ruh74_9 : Rg := ⟨5, 5, 2, Fuh74_6, Buh74_2, [pl (dg 0) 0 0 0, pc (vi 5) 0 43 [dg 0] 1, pv (bo .add (vi 5) (li 9)) 1, pv (f2 mxF (bo .add (vi 5) (li 9)) (li 0)) 1, pv (f2 mxF (bo .add (vi 5) (li 9)) (li 0)) 1], [1]⟩
def Fuh74_10 := fs Fuh74_8 [(6, bo .add (bo .add (vi 3) (bo .mul (li 2) (f2 mxF (bo .add (vi 5) (li 9)) (li 0)))) (li 64)), (18, vi 3), (19, f2 mxF (bo .add (vi 5) (li 9)) (li 0)), (20, bo .mul (li 2) (f2 mxF (bo .add (vi 5) (li 9)) (li 0))), (21, bo .add (vi 3) (bo .mul (li 2) (f2 mxF (bo .add (vi 5) (li 9)) (li 0)))), (22, bo .add (bo .add (vi 3) (bo .mul (li 2) (f2 mxF (bo .add (vi 5) (li 9)) (li 0)))) (li 64))]
def Ruh74_11 : Rg := ⟨6, 6, 2, Fuh74_8, Buh74_2, [pv (vi 3) 0, pv (f2 mxF (bo .add (vi 5) (li 9)) (li 0)) 0, pv (bo .mul (li 2) (f2 mxF (bo .add (vi 5) (li 9)) (li 0))) 0, pv (bo .add (vi 3) (bo .mul (li 2) (f2 mxF (bo .add (vi 5) (li 9)) (li 0)))) 0, pv (bo .add (bo .add (vi 3) (bo .mul (li 2) (f2 mxF (bo .add (vi 5) (li 9)) (li 0)))) (li 64)) 0, pv (bo .add (bo .add (vi 3) (bo .mul (li 2) (f2 mxF (bo .add (vi 5) (li 9)) (li 0)))) (li 64)) 0], []⟩
def Fuh74_12 := fs Fuh74_10 [(7, vs 10), (8, vs 11), (23, tu [vs 10, vs 11]), (24, dg 0), (25, f2 mxF (bo .add (vi 5) (li 9)) (li 0)), (26, f1 ngF (f2 mxF (bo .add (vi 5) (li 9)) (li 0))), (27, dg 6), (28, bo .add (bo .add (vi 3) (bo .mul (li 2) (f2 mxF (bo .add (vi 5) (li 9)) (li 0)))) (li 64)), (29, vs 9), (30, bo .add (bo .add (vi 3) (bo .mul (li 2) (f2 mxF (bo .add (vi 5) (li 9)) (li 0)))) (li 64)), (31, tu [vs 10, vs 11]), (32, vs 10), (33, vs 11)]
def Ruh74_13 : Rg := ⟨13, 6, 2, Fuh74_10, Buh74_2, [pl (dg 0) 0 0 0, pv (f2 mxF (bo .add (vi 5) (li 9)) (li 0)) 0, pv (f1 ngF (f2 mxF (bo .add (vi 5) (li 9)) (li 0))) 0, pc (dg 6) 0 114 [dg 0, f1 ngF (f2 mxF (bo .add (vi 5) (li 9)) (li 0))] 3, pv (bo .add (bo .add (vi 3) (bo .mul (li 2) (f2 mxF (bo .add (vi 5) (li 9)) (li 0)))) (li 64)) 0, pc (vs 9) 1 87 [dg 6, bo .add (bo .add (vi 3) (bo .mul (li 2) (f2 mxF (bo .add (vi 5) (li 9)) (li 0)))) (li 64)] 1, pv (bo .add (bo .add (vi 3) (bo .mul (li 2) (f2 mxF (bo .add (vi 5) (li 9)) (li 0)))) (li 64)) 0, pc (tu [vs 10, vs 11]) 2 86 [vs 9, bo .add (bo .add (vi 3) (bo .mul (li 2) (f2 mxF (bo .add (vi 5) (li 9)) (li 0)))) (li 64), lu 0] 2, pv (tu [vs 10, vs 11]) 3, pv (vs 10) 3, pv (vs 11) 3, pv (vs 10) 3, pv (vs 11) 3], [3, 5, 7]⟩
def Fuh74_14 := fs Fuh74_12 [(9, ps 2 0), (34, vs 10), (35, vs 11), (36, bo .add (bo .add (vi 3) (bo .mul (li 2) (f2 mxF (bo .add (vi 5) (li 9)) (li 0)))) (li 64)), (37, ig 12)]
def Buh74_15 := [bb 25 (d3 0), bb 28 o6, bb 28 o6]
def Ruh74_16 : Rg := ⟨5, 12, 2, Fuh74_12, Buh74_15, [pv (vs 10) 0, pv (vs 11) 0, pv (bo .add (bo .add (vi 3) (bo .mul (li 2) (f2 mxF (bo .add (vi 5) (li 9)) (li 0)))) (li 64)) 0, pc (ig 12) 0 88 [vs 10, vs 11, bo .add (bo .add (vi 3) (bo .mul (li 2) (f2 mxF (bo .add (vi 5) (li 9)) (li 0)))) (li 64)] 6, pa 2 0], [3]⟩
def Buh74_17 := [bb 25 (d3 0), bb 28 o6, bb 28 (i6 12)]
def Fuh74_18 := fs Fuh74_14 [(10, li 0)]
def Ruh74_19 : Rg := ⟨1, 18, 3, Fuh74_14, Buh74_17, [pv (li 0) 0], []⟩
def Luh74_20 (jj1 : List Value) := [dg 0, vi 3, ps 0 0, U, ps 1 0, f2 mxF (bo .add (vi 5) (li 9)) (li 0), bo .add (bo .add (vi 3) (bo .mul (li 2) (f2 mxF (bo .add (vi 5) (li 9)) (li 0)))) (li 64), vs 10, vs 11, ps 2 0, vi 24, dg 0, vb 4, f1 noF (vb 4), dg 0, vi 5, bo .add (vi 5) (li 9), f2 mxF (bo .add (vi 5) (li 9)) (li 0), vi 3, f2 mxF (bo .add (vi 5) (li 9)) (li 0), bo .mul (li 2) (f2 mxF (bo .add (vi 5) (li 9)) (li 0)), bo .add (vi 3) (bo .mul (li 2) (f2 mxF (bo .add (vi 5) (li 9)) (li 0))), bo .add (bo .add (vi 3) (bo .mul (li 2) (f2 mxF (bo .add (vi 5) (li 9)) (li 0)))) (li 64), tu [vs 10, vs 11], dg 0, f2 mxF (bo .add (vi 5) (li 9)) (li 0), f1 ngF (f2 mxF (bo .add (vi 5) (li 9)) (li 0)), dg 6, bo .add (bo .add (vi 3) (bo .mul (li 2) (f2 mxF (bo .add (vi 5) (li 9)) (li 0)))) (li 64), vs 9, bo .add (bo .add (vi 3) (bo .mul (li 2) (f2 mxF (bo .add (vi 5) (li 9)) (li 0)))) (li 64), tu [vs 10, vs 11], vs 10, vs 11, vs 10, vs 11, bo .add (bo .add (vi 3) (bo .mul (li 2) (f2 mxF (bo .add (vi 5) (li 9)) (li 0)))) (li 64), ig 12, jw jj1 0, jw jj1 1, jw jj1 2, jw jj1 3, jw jj1 4, jw jj1 5, jw jj1 6, jw jj1 7, jw jj1 8, jw jj1 9, U]
def Buh74_21 := [bb 25 (d3 0), bb 28 o6, bb 28 (i6 18)]
def Juh74_22 : List Nat := [38, 39, 40, 41, 42, 43, 44, 45, 46, 47]
def Fuh74_23 (jj1 : List Value) := fs (Luh74_20 jj1) [(38, vi 24), (39, f2 mxF (bo .add (vi 5) (li 9)) (li 0)), (40, bo .lss (vi 24) (f2 mxF (bo .add (vi 5) (li 9)) (li 0)))]
def Ruh74_24 (jj1 : List Value) : Rg := ⟨3, 25, 3, (Luh74_20 jj1), Buh74_21, [pv (vi 24) 0, pv (f2 mxF (bo .add (vi 5) (li 9)) (li 0)) 0, pv (bo .lss (vi 24) (f2 mxF (bo .add (vi 5) (li 9)) (li 0))) 0], []⟩
def Fuh74_25 (jj1 : List Value) := fs (Fuh74_23 jj1) [(43, ig 18), (44, ig 18), (45, bo .add (bo .add (vi 3) (bo .mul (li 2) (f2 mxF (bo .add (vi 5) (li 9)) (li 0)))) (li 64)), (46, bo .add (bo .add (bo .add (vi 3) (bo .mul (li 2) (f2 mxF (bo .add (vi 5) (li 9)) (li 0)))) (li 64)) (li 8)), (47, ig 25)]
def Ruh74_26 (jj1 : List Value) : Rg := ⟨5, 25, 3, (Fuh74_23 jj1), Buh74_21, [pl (ig 18) 0 2 0, pl (ig 18) 0 2 0, pv (bo .add (bo .add (vi 3) (bo .mul (li 2) (f2 mxF (bo .add (vi 5) (li 9)) (li 0)))) (li 64)) 0, pv (bo .add (bo .add (bo .add (vi 3) (bo .mul (li 2) (f2 mxF (bo .add (vi 5) (li 9)) (li 0)))) (li 64)) (li 8)) 0, pc (ig 25) 0 31 [ig 18, ig 18, bo .add (bo .add (bo .add (vi 3) (bo .mul (li 2) (f2 mxF (bo .add (vi 5) (li 9)) (li 0)))) (li 64)) (li 8)] 6], [4]⟩
def Buh74_27 := [bb 25 (d3 0), bb 28 o6, bb 28 (i6 25)]
def Fuh74_28 (jj1 : List Value) := fs (Fuh74_25 jj1) [(10, bo .add (vi 24) (li 1)), (41, vi 24), (42, bo .add (vi 24) (li 1))]
def Ruh74_29 (jj1 : List Value) : Rg := ⟨2, 31, 3, (Fuh74_25 jj1), Buh74_27, [pv (vi 24) 0, pv (bo .add (vi 24) (li 1)) 0], []⟩
def Fuh74_30 (jj1 : List Value) := fs (Fuh74_23 jj1) [(48, ig 18)]
def Ruh74_31 (jj1 : List Value) : Rg := ⟨1, 25, 3, (Fuh74_23 jj1), Buh74_21, [pl (ig 18) 0 2 0], []⟩
def Buh74_32 := [bb 25 (d3 0), bb 28 (i6 18), bb 28 (i6 18)]
def Fuh74_33 := fs Fuh74_6 [(6, bo .add (bo .add (vi 3) (li 0)) (li 64)), (18, vi 3), (19, li 0), (20, li 0), (21, bo .add (vi 3) (li 0)), (22, bo .add (bo .add (vi 3) (li 0)) (li 64))]
def Ruh74_34 : Rg := ⟨6, 5, 2, Fuh74_6, Buh74_2, [pv (vi 3) 0, pv (li 0) 0, pv (li 0) 0, pv (bo .add (vi 3) (li 0)) 0, pv (bo .add (bo .add (vi 3) (li 0)) (li 64)) 0, pv (bo .add (bo .add (vi 3) (li 0)) (li 64)) 0], []⟩
def Fuh74_35 := fs Fuh74_33 [(7, vs 9), (8, vs 10), (23, tu [vs 9, vs 10]), (24, dg 0), (25, li 0), (26, f1 ngF (li 0)), (27, dg 5), (28, bo .add (bo .add (vi 3) (li 0)) (li 64)), (29, vs 8), (30, bo .add (bo .add (vi 3) (li 0)) (li 64)), (31, tu [vs 9, vs 10]), (32, vs 9), (33, vs 10)]
def Ruh74_36 : Rg := ⟨13, 5, 2, Fuh74_33, Buh74_2, [pl (dg 0) 0 0 0, pv (li 0) 0, pv (f1 ngF (li 0)) 0, pc (dg 5) 0 114 [dg 0, f1 ngF (li 0)] 3, pv (bo .add (bo .add (vi 3) (li 0)) (li 64)) 0, pc (vs 8) 1 87 [dg 5, bo .add (bo .add (vi 3) (li 0)) (li 64)] 1, pv (bo .add (bo .add (vi 3) (li 0)) (li 64)) 0, pc (tu [vs 9, vs 10]) 2 86 [vs 8, bo .add (bo .add (vi 3) (li 0)) (li 64), lu 0] 2, pv (tu [vs 9, vs 10]) 3, pv (vs 9) 3, pv (vs 10) 3, pv (vs 9) 3, pv (vs 10) 3], [3, 5, 7]⟩
def Fuh74_37 := fs Fuh74_35 [(9, ps 2 0), (34, vs 9), (35, vs 10), (36, bo .add (bo .add (vi 3) (li 0)) (li 64)), (37, ig 11)]
def Ruh74_38 : Rg := ⟨5, 11, 2, Fuh74_35, Buh74_15, [pv (vs 9) 0, pv (vs 10) 0, pv (bo .add (bo .add (vi 3) (li 0)) (li 64)) 0, pc (ig 11) 0 88 [vs 9, vs 10, bo .add (bo .add (vi 3) (li 0)) (li 64)] 6, pa 2 0], [3]⟩
def Buh74_39 := [bb 25 (d3 0), bb 28 o6, bb 28 (i6 11)]
def Fuh74_40 := fs Fuh74_37 [(10, li 0)]
def Ruh74_41 : Rg := ⟨1, 17, 3, Fuh74_37, Buh74_39, [pv (li 0) 0], []⟩
def Luh74_42 (jj2 : List Value) := [dg 0, vi 3, ps 0 0, U, ps 1 0, li 0, bo .add (bo .add (vi 3) (li 0)) (li 64), vs 9, vs 10, ps 2 0, vi 23, dg 0, vb 4, f1 noF (vb 4), U, U, U, U, vi 3, li 0, li 0, bo .add (vi 3) (li 0), bo .add (bo .add (vi 3) (li 0)) (li 64), tu [vs 9, vs 10], dg 0, li 0, f1 ngF (li 0), dg 5, bo .add (bo .add (vi 3) (li 0)) (li 64), vs 8, bo .add (bo .add (vi 3) (li 0)) (li 64), tu [vs 9, vs 10], vs 9, vs 10, vs 9, vs 10, bo .add (bo .add (vi 3) (li 0)) (li 64), ig 11, jw jj2 0, jw jj2 1, jw jj2 2, jw jj2 3, jw jj2 4, jw jj2 5, jw jj2 6, jw jj2 7, jw jj2 8, jw jj2 9, U]
def Buh74_43 := [bb 25 (d3 0), bb 28 o6, bb 28 (i6 17)]
def Fuh74_44 (jj2 : List Value) := fs (Luh74_42 jj2) [(38, vi 23), (39, li 0), (40, bo .lss (vi 23) (li 0))]
def Ruh74_45 (jj2 : List Value) : Rg := ⟨3, 24, 3, (Luh74_42 jj2), Buh74_43, [pv (vi 23) 0, pv (li 0) 0, pv (bo .lss (vi 23) (li 0)) 0], []⟩
def Fuh74_46 (jj2 : List Value) := fs (Fuh74_44 jj2) [(43, ig 17), (44, ig 17), (45, bo .add (bo .add (vi 3) (li 0)) (li 64)), (46, bo .add (bo .add (bo .add (vi 3) (li 0)) (li 64)) (li 8)), (47, ig 24)]
def Ruh74_47 (jj2 : List Value) : Rg := ⟨5, 24, 3, (Fuh74_44 jj2), Buh74_43, [pl (ig 17) 0 2 0, pl (ig 17) 0 2 0, pv (bo .add (bo .add (vi 3) (li 0)) (li 64)) 0, pv (bo .add (bo .add (bo .add (vi 3) (li 0)) (li 64)) (li 8)) 0, pc (ig 24) 0 31 [ig 17, ig 17, bo .add (bo .add (bo .add (vi 3) (li 0)) (li 64)) (li 8)] 6], [4]⟩
def Buh74_48 := [bb 25 (d3 0), bb 28 o6, bb 28 (i6 24)]
def Fuh74_49 (jj2 : List Value) := fs (Fuh74_46 jj2) [(10, bo .add (vi 23) (li 1)), (41, vi 23), (42, bo .add (vi 23) (li 1))]
def Ruh74_50 (jj2 : List Value) : Rg := ⟨2, 30, 3, (Fuh74_46 jj2), Buh74_48, [pv (vi 23) 0, pv (bo .add (vi 23) (li 1)) 0], []⟩
def Fuh74_51 (jj2 : List Value) := fs (Fuh74_44 jj2) [(48, ig 17)]
def Ruh74_52 (jj2 : List Value) : Rg := ⟨1, 24, 3, (Fuh74_44 jj2), Buh74_43, [pl (ig 17) 0 2 0], []⟩
def Buh74_53 := [bb 25 (d3 0), bb 28 (i6 17), bb 28 (i6 17)]
theorem norm_n {v : Value} {m : Nat} {w : World} (h : AN w v m) (hm : bl m ≤ 4294967296) :
 Calls Tryz.prog 89 #[v] w fun e w' => ∃ v, e = .returned v ∧ PN w' w.heap.size v m ∧ BL w w' := by
 obtain ⟨A, n, c, l, rfl, h2, rfl, h4, h5, h6⟩ := h
 have := norm_all l A c w h2 h4 h5 (by rw [h6]; have := len_le (K := 67108864) hm; omega)
 rw [h6] at this
 exact this.mono (by rintro e w' ⟨v, rfl, h, hb⟩; exact ⟨v, rfl, PL.of_R h, hb⟩)
theorem low_d {w : World} {v : Value} {m : Nat} (h : CN w v m) (hm : bl m ≤ 4294967296) :
 Calls Tryz.prog 91 #[v] w fun e w' => e = .returned (.int .i64 (tz m : Int)) ∧ BL w w' := by
 obtain ⟨A, n, c, rfl, h1, rfl, h3⟩ := h
 have hl := len_le (K := 67108864) hm
 have := low_any (limbs m) A c w h1 h3 (wf_limbs _) (by omega)
 rw [nv_limbs] at this
 exact this
def Fui46_0 := [vb 0, vs 1, vi 2, U, U, U, U, U, U, U, U, U, U, U, U, U, U, U, U, U, U, U, U, U, U, U, U, U, U, U, U]
def Fui46_1 := fs Fui46_0 [(6, ps 0 0)]
def Bui46_2 := [bb 25 o3]
def Rui46_3 : Rg := ⟨1, 3, 0, Fui46_0, Bui46_2, [pa 0 0], []⟩
def Fui46_4 := fs Fui46_1 [(7, vs 3), (11, vs 1), (12, vs 3)]
def Rui46_5 : Rg := ⟨3, 3, 1, Fui46_1, Bui46_2, [pv (vs 1) 0, pc (vs 3) 0 89 [vs 1] 1, pv (vs 3) 1], [1]⟩
def Fui46_6 := fs Fui46_4 [(13, vs 3), (14, f1 lnF (vs 3)), (15, bo .eql (f1 lnF (vs 3)) (li 0))]
def Rui46_7 : Rg := ⟨3, 4, 1, Fui46_4, Bui46_2, [pv (vs 3) 0, pv (f1 lnF (vs 3)) 0, pv (bo .eql (f1 lnF (vs 3)) (li 0)) 0], []⟩
def Fui46_8 := fs Fui46_6 [(16, ag o3)]
def Rui46_9 : Rg := ⟨1, 4, 1, Fui46_6, Bui46_2, [pv (ag o3) 0], []⟩
def Fui46_10 := fs Fui46_6 [(8, vi 4), (17, vs 3), (18, vi 4)]
def Rui46_11 : Rg := ⟨3, 4, 1, Fui46_6, Bui46_2, [pv (vs 3) 0, pc (vi 4) 0 91 [vs 3] 1, pv (vi 4) 1], [1]⟩
def Fui46_12 := fs Fui46_10 [(9, vs 5), (10, vb 6), (19, tu [vs 5, vb 6]), (20, vs 3), (21, vi 4), (22, tu [vs 5, vb 6]), (23, vs 5), (24, vb 6)]
def Rui46_13 : Rg := ⟨8, 5, 1, Fui46_10, Bui46_2, [pv (vs 3) 0, pv (vi 4) 0, pc (tu [vs 5, vb 6]) 0 92 [vs 3, vi 4] 2, pv (tu [vs 5, vb 6]) 1, pv (vs 5) 1, pv (vb 6) 1, pv (vs 5) 1, pv (vb 6) 1], [2]⟩
def Fui46_14 := fs Fui46_12 [(25, vb 0), (26, vs 5), (27, vi 2), (28, vi 4), (29, bo .add (vi 2) (vi 4)), (30, ag [vb 0, vs 5, bo .add (vi 2) (vi 4)])]
def Rui46_15 : Rg := ⟨6, 7, 1, Fui46_12, Bui46_2, [pv (vb 0) 0, pv (vs 5) 0, pv (vi 2) 0, pv (vi 4) 0, pv (bo .add (vi 2) (vi 4)) 0, pv (ag [vb 0, vs 5, bo .add (vi 2) (vi 4)]) 0], []⟩
def Bui46_16 := [bb 25 [vb 0, vs 5, bo .add (vi 2) (vi 4)]]
theorem dform_all {v : Value} {m : Nat} (neg : Bool) (x : Int) {w : World} (h : AN w v m) (hm : bl m ≤ 4294967296) (h1 : -1099511627776 ≤ x) (h2 : x ≤ 1099511627776) :
 Calls Tryz.prog 46 #[.bool neg, v, .int .i64 x] w fun e w' => ∃ v, e = .returned v ∧ PDy w' w.heap.size v (sgn neg m) x ∧ BL w w' := by
 obtain ⟨A0, n0, c0, rfl⟩ := h.ex
 refine fn_enter (u := 64) (fn := Tryz.f46) Tryz.func46 rfl Fui46_0 [.bool neg, .slice A0 n0 c0, .int .i64 x] (by kernel_rfl) rfl (fun a0 S0 r0 => ?_)
 refine wp_seq (rk Rui46_3 [] Fui46_1 Bui46_2 S0 r0 ?_)
 intro _ _ _ r1 S1
 refine wp_seq (rk Rui46_5 [] Fui46_4 Bui46_2 S1 r1 ?_)
 intro _ _ r2 _
 refine (norm_n (h.below r2.first) hm).mono ?_
 rintro _ V1 ⟨v, rfl, hn, k1⟩
 obtain ⟨A1, n1, c1, rfl⟩ := hn.ex
 replace hn := hn.lower r2.fs
 refine ⟨[.slice A1 n1 c1], rfl, rfl, rfl, k1, ?_⟩
 have hlen := hn.len
 intro _ _ _ r3 S3
 refine wp_seq ?_
 refine wp_seq (rk Rui46_7 [] Fui46_6 Bui46_2 S3 r3 ?_)
 intro _ _ _ r4 S4
 refine wp_cond_split (t := ((n1 : Nat) : Int) == 0) (S4.cnd (by kernel_rfl)) (fun q1 => ?_) (fun q1 => ?_)
 · have hm0 : m = 0 := by rw [hlen] at q1; exact len_zero q1
   refine wp_seq (rk Rui46_9 [.st 0 0 o3] Fui46_8 Bui46_2 S4 r4 ?_)
   intro _ g5 W5 r5 S5
   exact wp_ret (then_ret (ret_ok S5 [.agg #[.bool false, .slice none 0 0, .int .i64 0]] (by kernel_rfl) (⟨_, rfl, by rw [hm0, sgn_zero]; exact .zero0 _ _ _, r5.first⟩)))
 · have hm0 : m ≠ 0 := fun h => by rw [hlen, h] at q1; simp [limbs] at q1
   refine wp_skip ?_
   refine wp_seq (rk Rui46_11 [] Fui46_10 Bui46_2 S4 r4 ?_)
   intro W5 g5 r5 _
   refine (low_d (hn.lat (r5.at_ 0 _ rfl)).c hm).mono ?_
   rintro _ V2 ⟨rfl, k2⟩
   refine ⟨[.int .i64 (tz m : Int)], rfl, rfl, rfl, k2, ?_⟩
   intro _ _ _ r6 S6
   refine wp_seq (rk Rui46_13 [] Fui46_12 Bui46_2 S6 r6 ?_)
   intro _ _ r7 _
   refine (shr_d _ (tz m) rfl (hn.lat (r7.at_ 0 _ rfl)).c hm (by have := tz_le_bl hm0; omega)).mono ?_
   rintro _ V3 ⟨v, rfl, h3, k3⟩
   obtain ⟨A3, n3, c3, rfl⟩ := h3.ex
   replace h3 := h3.lower r7.fs
   refine ⟨[.slice A3 n3 c3, .bool (m % 2 ^ tz m != 0)], rfl, rfl, rfl, k3, ?_⟩
   intro _ _ _ r8 S8
   refine wp_seq (rk Rui46_15 [.st 0 0 [vb 0, vs 5, bo .add (vi 2) (vi 4)]] Fui46_14 Bui46_16 S8 r8 ?_)
   intro _ _ _ r9 S9
   exact rt S9 [.agg #[.bool neg, .slice A3 n3 c3, .int .i64 (IntKind.i64.wrap (x + (tz m : Int)))]] (⟨_, rfl, .of_cells (h3.lat (r9.at_ 2 _ rfl)) hm0 (i64_id (by have := tz_le_bl hm0; omega) (by have := tz_le_bl hm0; omega)), r9.first⟩)
def Fui44_0 := [dg 0, U, U, U, U, U, U, U, U, U]
def Fui44_1 := fs Fui44_0 [(1, ps 0 0), (2, ps 1 0)]
def Bui44_2 := [bb 25 (d3 0), bb 25 o3]
def Rui44_3 : Rg := ⟨2, 3, 0, Fui44_0, Bui44_2, [pa 0 0, pa 1 0], []⟩
def Fui44_4 := fs Fui44_1 [(3, ps 0 0), (4, vb 0), (5, ps 0 1), (6, vs 1), (7, ps 0 2), (8, vi 2), (9, dg 3)]
def Rui44_5 : Rg := ⟨7, 3, 2, Fui44_1, Bui44_2, [pv (ps 0 0) 0, pl (vb 0) 0 0 0, pv (ps 0 1) 0, pl (vs 1) 0 0 1, pv (ps 0 2) 0, pl (vi 2) 0 0 2, pc (dg 3) 0 46 (d3 0) 3], [6]⟩
def Bui44_6 := [bb 25 (d3 0), bb 25 (d3 3)]
theorem done_all {v : Value} {s : Bool} {m : Nat} {x : Int} {w : World} (h : ADy w v s m x) (hm : bl m ≤ 4294967296) (h1 : -1099511627776 ≤ x) (h2 : x ≤ 1099511627776) :
 Calls Tryz.prog 44 #[v] w fun en w' => ∃ v', en = .returned v' ∧ PDy w' w.heap.size v' (sgn s m) x ∧ BL w w' := by
 obtain ⟨A0, n0, c0, rfl, h⟩ := h
 have h : ADy w (.agg #[.bool s, .slice A0 n0 c0, .int .i64 x]) s m x := ⟨_, _, _, rfl, h⟩
 refine fn_enter (u := 64) (fn := Tryz.f44) Tryz.func44 rfl Fui44_0 [.bool s, .slice A0 n0 c0, .int .i64 x] (by kernel_rfl) rfl (fun a0 S0 r0 => ?_)
 refine wp_seq (rk Rui44_3 [] Fui44_1 Bui44_2 S0 r0 ?_)
 intro _ _ _ r1 S1
 refine wp_seq (rk Rui44_5 [.st 1 0 (d3 3)] Fui44_4 Bui44_6 S1 r1 ?_)
 intro _ _ r2 _
 refine (dform_all s x (h.below r2.first).n hm h1 h2).mono ?_
 rintro _ V1 ⟨v, rfl, h1, k1⟩
 obtain ⟨b1, A1, n1, c1, x1, rfl⟩ := h1.ex
 replace h1 := h1.lower r2.fs
 refine ⟨[.bool b1, .slice A1 n1 c1, .int .i64 x1], rfl, rfl, rfl, k1, ?_⟩
 intro _ _ _ r3 S3
 exact rt S3 [.agg #[.bool b1, .slice A1 n1 c1, .int .i64 x1]] (⟨_, rfl, (h1.lat (r3.at_ 0 _ rfl)), r3.first⟩)
theorem len_eq0 {m : Nat} : ((((limbs m).length : Nat) : Int) == 0) = decide (m = 0) := by
 by_cases h : m = 0
 · subst h; simp [limbs]
 · rw [decide_eq_false h]
   have : (limbs m).length ≠ 0 := fun q => h (limbs_zero_len.1 q)
   exact beq_eq_false_iff_ne.2 (by omega)
def Fui42_0 := [dg 0, U, U, U, U, U, U, U]
def Fui42_1 := fs Fui42_0 [(1, ps 0 0), (2, lb false)]
def Bui42_2 := [bb 25 (d3 0)]
def Rui42_3 : Rg := ⟨2, 3, 0, Fui42_0, Bui42_2, [pa 0 0, pv (lb false) 0], []⟩
def Fui42_4 := fs Fui42_1 [(2, bo .eql (f1 lnF (vs 3)) (li 0)), (3, ps 0 1), (4, vs 1), (5, vs 3), (6, f1 lnF (vs 3)), (7, bo .eql (f1 lnF (vs 3)) (li 0))]
def Rui42_5 : Rg := ⟨6, 3, 1, Fui42_1, Bui42_2, [pv (ps 0 1) 0, pl (vs 1) 0 0 1, pc (vs 3) 0 89 [vs 1] 1, pv (f1 lnF (vs 3)) 1, pv (bo .eql (f1 lnF (vs 3)) (li 0)) 1, pv (bo .eql (f1 lnF (vs 3)) (li 0)) 1], [2]⟩
theorem dzero_all {v : Value} {s : Bool} {m : Nat} {x : Int} {w : World} (h : ADy w v s m x) (hm : bl m ≤ 4294967296) :
 Calls Tryz.prog 42 #[v] w fun en w' => en = .returned (.bool (decide (m = 0))) ∧ BL w w' := by
 obtain ⟨A0, n0, c0, rfl, h⟩ := h
 have h : ADy w (.agg #[.bool s, .slice A0 n0 c0, .int .i64 x]) s m x := ⟨_, _, _, rfl, h⟩
 refine fn_enter (u := 64) (fn := Tryz.f42) Tryz.func42 rfl Fui42_0 [.bool s, .slice A0 n0 c0, .int .i64 x] (by kernel_rfl) rfl (fun a0 S0 r0 => ?_)
 refine wp_seq (rk Rui42_3 [] Fui42_1 Bui42_2 S0 r0 ?_)
 intro _ _ _ r1 S1
 refine wp_seq (rk Rui42_5 [] Fui42_4 Bui42_2 S1 r1 ?_)
 intro _ _ r2 _
 refine (norm_n (h.below r2.first).n hm).mono ?_
 rintro _ V1 ⟨v, rfl, hn, k1⟩
 obtain ⟨A1, n1, c1, rfl⟩ := hn.ex
 replace hn := hn.lower r2.fs
 refine ⟨[.slice A1 n1 c1], rfl, rfl, rfl, k1, ?_⟩
 have hlen := hn.len
 intro _ _ _ r3 S3
 exact rt S3 [.bool (((n1 : Nat) : Int) == 0)] (⟨by rw [hlen, len_eq0]; rfl, r3.first⟩)
theorem cman_ab (z : Int) : cman (z.natAbs : Int) = cman z := by unfold cman; rw [Int.natAbs_natCast]
theorem cexp_ab (z e : Int) : cexp (z.natAbs : Int) e = cexp z e := by
 unfold cexp
 by_cases h : z = 0
 · rw [if_pos h, if_pos (by omega)]
 · rw [if_neg h, if_neg (by omega), Int.natAbs_natCast]
def Fui35_0 := [dg 0, vi 3, U, U, U, U, U, U, U, U, U, U, U, U, U, U, U, U, U, U, U, U, U]
def Fui35_1 := fs Fui35_0 [(2, ps 0 0), (4, ps 1 0)]
def Bui35_2 := [bb 25 (d3 0), bb 28 o6]
def Rui35_3 : Rg := ⟨2, 4, 0, Fui35_0, Bui35_2, [pa 0 0, pa 1 0], []⟩
def Fui35_4 := fs Fui35_1 [(5, ps 2 0), (8, dg 0), (9, dg 4)]
def Bui35_5 := [bb 25 (d3 0), bb 28 o6, bb 25 o3]
def Rui35_6 : Rg := ⟨3, 4, 2, Fui35_1, Bui35_5, [pl (dg 0) 0 0 0, pc (dg 4) 0 44 [dg 0] 3, pa 2 0], [1]⟩
def Bui35_7 := [bb 25 (d3 0), bb 28 o6, bb 25 (d3 4)]
def Fui35_8 := fs Fui35_4 [(6, vb 4), (10, ps 2 0), (11, vb 4)]
def Rui35_9 : Rg := ⟨3, 7, 3, Fui35_4, Bui35_7, [pv (ps 2 0) 0, pl (vb 4) 0 2 0, pv (vb 4) 0], []⟩
def Fui35_10 := fs Fui35_8 [(12, ps 2 0)]
def Rui35_11 : Rg := ⟨1, 7, 3, Fui35_8, Bui35_7, [pv (ps 2 0) 0], []⟩
def Bui35_12 := [bb 25 (d3 0), bb 28 o6, bb 25 [lb false, vs 5, vi 6]]
def Fui35_13 := fs Fui35_10 [(7, ps 3 0), (13, ag [lb false, vs 5, vi 6]), (14, vi 3), (15, ig 7)]
def Bui35_14 := [bb 25 (d3 0), bb 28 o6, bb 25 [lb false, vs 5, vi 6], bb 28 o6]
def Rui35_15 : Rg := ⟨4, 7, 3, Fui35_10, Bui35_14, [pl (ag [lb false, vs 5, vi 6]) 0 2 0, pv (vi 3) 0, pc (ig 7) 0 74 [ag [lb false, vs 5, vi 6], vi 3] 6, pa 3 0], [2]⟩
def Bui35_16 := [bb 25 (d3 0), bb 28 o6, bb 25 [lb false, vs 5, vi 6], bb 28 (i6 7)]
def Fui35_17 := fs Fui35_13 [(16, vb 4)]
def Rui35_18 : Rg := ⟨1, 13, 4, Fui35_13, Bui35_16, [pv (vb 4) 0], []⟩
def Fui35_19 := fs Fui35_17 [(17, ig 13), (18, ig 7), (19, vi 3), (20, bo .add (vi 3) (li 64)), (21, ig 19)]
def Rui35_20 : Rg := ⟨5, 13, 4, Fui35_17, Bui35_16, [pc (ig 13) 0 76 [] 6, pl (ig 7) 0 3 0, pv (vi 3) 0, pv (bo .add (vi 3) (li 64)) 0, pc (ig 19) 1 75 [ig 13, ig 7, bo .add (vi 3) (li 64)] 6], [0, 4]⟩
def Bui35_21 := [bb 25 (d3 0), bb 28 (i6 19), bb 25 [lb false, vs 5, vi 6], bb 28 (i6 7)]
def Fui35_22 := fs Fui35_17 [(22, ig 7)]
def Rui35_23 : Rg := ⟨1, 13, 4, Fui35_17, Bui35_16, [pl (ig 7) 0 3 0], []⟩
def Bui35_24 := [bb 25 (d3 0), bb 28 (i6 7), bb 25 [lb false, vs 5, vi 6], bb 28 (i6 7)]
def Fui40_0 := [dg 0, vi 3, U, U, U, U, U, U, U, U, U, U, U, U, U, U, U, U, U, U, U, U, U, U, U, U, U, U, U, U, U, U, U, U, U, U, U, U, U, U, U, U, U, U, U, U, U, U, U, U, U, U, U, U, U, U, U]
def Fui40_1 := fs Fui40_0 [(2, ps 0 0), (4, ps 1 0)]
def Bui40_2 := [bb 25 (d3 0), bb 28 o6]
def Rui40_3 : Rg := ⟨2, 4, 0, Fui40_0, Bui40_2, [pa 0 0, pa 1 0], []⟩
def Fui40_4 := fs Fui40_1 [(5, ps 2 0), (11, dg 0), (12, dg 4)]
def Bui40_5 := [bb 25 (d3 0), bb 28 o6, bb 25 o3]
def Rui40_6 : Rg := ⟨3, 4, 2, Fui40_1, Bui40_5, [pl (dg 0) 0 0 0, pc (dg 4) 0 44 [dg 0] 3, pa 2 0], [1]⟩
def Bui40_7 := [bb 25 (d3 0), bb 28 o6, bb 25 (d3 4)]
def Fui40_8 := fs Fui40_4 [(13, dg 4), (14, vb 7)]
def Rui40_9 : Rg := ⟨2, 7, 3, Fui40_4, Bui40_7, [pl (dg 4) 0 2 0, pc (vb 7) 0 42 [dg 4] 1], [1]⟩
def Fui40_10 := fs Fui40_8 [(15, ag o6)]
def Rui40_11 : Rg := ⟨1, 8, 3, Fui40_8, Bui40_7, [pv (ag o6) 0], []⟩
def Fui40_12 := fs Fui40_8 [(16, dg 4), (17, vi 8), (18, bo .geq (vi 8) (li (-8)))]
def Rui40_13 : Rg := ⟨3, 8, 3, Fui40_8, Bui40_7, [pl (dg 4) 0 2 0, pc (vi 8) 0 43 [dg 4] 1, pv (bo .geq (vi 8) (li (-8))) 1], [1]⟩
def Fui40_14 := fs Fui40_12 [(19, dg 4), (20, vi 3), (21, bo .add (vi 3) (li 24)), (22, ig 9), (23, ig 15), (24, vi 3), (25, bo .add (vi 3) (li 40)), (26, ig 21)]
def Rui40_15 : Rg := ⟨8, 9, 3, Fui40_12, Bui40_7, [pl (dg 4) 0 2 0, pv (vi 3) 0, pv (bo .add (vi 3) (li 24)) 0, pc (ig 9) 0 35 [dg 4, bo .add (vi 3) (li 24)] 6, pc (ig 15) 1 76 [] 6, pv (vi 3) 0, pv (bo .add (vi 3) (li 40)) 0, pc (ig 21) 2 24 [ig 9, ig 15, bo .add (vi 3) (li 40)] 6], [3, 4, 7]⟩
def Bui40_16 := [bb 25 (d3 0), bb 28 (i6 21), bb 25 (d3 4)]
def Fui40_17 := fs Fui40_12 [(6, vb 4), (27, ps 2 0), (28, vb 4)]
def Rui40_18 : Rg := ⟨3, 9, 3, Fui40_12, Bui40_7, [pv (ps 2 0) 0, pl (vb 4) 0 2 0, pv (vb 4) 0], []⟩
def Fui40_19 := fs Fui40_17 [(29, ps 2 0)]
def Rui40_20 : Rg := ⟨1, 9, 3, Fui40_17, Bui40_7, [pv (ps 2 0) 0], []⟩
def Bui40_21 := [bb 25 (d3 0), bb 28 o6, bb 25 [lb false, vs 5, vi 6]]
def Fui40_22 := fs Fui40_19 [(7, bo .add (vi 3) (li 64)), (30, vi 3), (31, bo .add (vi 3) (li 64))]
def Rui40_23 : Rg := ⟨3, 9, 3, Fui40_19, Bui40_21, [pv (vi 3) 0, pv (bo .add (vi 3) (li 64)) 0, pv (bo .add (vi 3) (li 64)) 0], []⟩
def Fui40_24 := fs Fui40_22 [(8, vs 10), (9, vs 11), (32, tu [vs 10, vs 11]), (33, ag [lb false, vs 5, vi 6]), (34, bo .add (vi 3) (li 64)), (35, vs 9), (36, bo .add (vi 3) (li 64)), (37, tu [vs 10, vs 11]), (38, vs 10), (39, vs 11)]
def Rui40_25 : Rg := ⟨10, 9, 3, Fui40_22, Bui40_21, [pl (ag [lb false, vs 5, vi 6]) 0 2 0, pv (bo .add (vi 3) (li 64)) 0, pc (vs 9) 0 87 [ag [lb false, vs 5, vi 6], bo .add (vi 3) (li 64)] 1, pv (bo .add (vi 3) (li 64)) 0, pc (tu [vs 10, vs 11]) 1 86 [vs 9, bo .add (vi 3) (li 64), lu 1] 2, pv (tu [vs 10, vs 11]) 2, pv (vs 10) 2, pv (vs 11) 2, pv (vs 10) 2, pv (vs 11) 2], [2, 4]⟩
def Fui40_26 := fs Fui40_24 [(10, ps 3 0), (40, ag [lb false, vs 5, vi 6]), (41, ig 12), (42, vs 10), (43, vs 11), (44, bo .add (vi 3) (li 64)), (45, ig 18), (46, bo .add (vi 3) (li 64)), (47, ig 24)]
def Bui40_27 := [bb 25 (d3 0), bb 28 o6, bb 25 [lb false, vs 5, vi 6], bb 28 o6]
def Rui40_28 : Rg := ⟨9, 12, 3, Fui40_24, Bui40_27, [pl (ag [lb false, vs 5, vi 6]) 0 2 0, pc (ig 12) 0 20 [ag [lb false, vs 5, vi 6]] 6, pv (vs 10) 0, pv (vs 11) 0, pv (bo .add (vi 3) (li 64)) 0, pc (ig 18) 1 88 [vs 10, vs 11, bo .add (vi 3) (li 64)] 6, pv (bo .add (vi 3) (li 64)) 0, pc (ig 24) 2 31 [ig 12, ig 18, bo .add (vi 3) (li 64)] 6, pa 3 0], [1, 5, 7]⟩
def Bui40_29 := [bb 25 (d3 0), bb 28 o6, bb 25 [lb false, vs 5, vi 6], bb 28 (i6 24)]
def Fui40_30 := fs Fui40_26 [(48, vb 4)]
def Rui40_31 : Rg := ⟨1, 30, 4, Fui40_26, Bui40_29, [pv (vb 4) 0], []⟩
def Fui40_32 := fs Fui40_30 [(49, ig 24), (50, ag [lb false, vs 5, vi 6]), (51, vi 3), (52, ig 30), (53, bo .add (vi 3) (li 64)), (54, ig 36), (55, ig 42)]
def Rui40_33 : Rg := ⟨7, 30, 4, Fui40_30, Bui40_29, [pl (ig 24) 0 3 0, pl (ag [lb false, vs 5, vi 6]) 0 2 0, pv (vi 3) 0, pc (ig 30) 0 74 [ag [lb false, vs 5, vi 6], vi 3] 6, pv (bo .add (vi 3) (li 64)) 0, pc (ig 36) 1 75 [ig 24, ig 30, bo .add (vi 3) (li 64)] 6, pc (ig 42) 2 51 [ig 36] 6], [3, 5, 6]⟩
def Bui40_34 := [bb 25 (d3 0), bb 28 (i6 42), bb 25 [lb false, vs 5, vi 6], bb 28 (i6 24)]
def Fui40_35 := fs Fui40_30 [(56, ig 24)]
def Rui40_36 : Rg := ⟨1, 30, 4, Fui40_30, Bui40_29, [pl (ig 24) 0 3 0], []⟩
def Bui40_37 := [bb 25 (d3 0), bb 28 (i6 24), bb 25 [lb false, vs 5, vi 6], bb 28 (i6 24)]
def FaultP (fits : Prop) (p : Int) (q : Rat) (why : Int) : Prop :=
 (why = 2 ∧ ¬ (fits ∧ 8 ≤ p ∧ p ≤ 4096)) ∨ ((fits ∧ 8 ≤ p ∧ p ≤ 4096) ∧ ((why = 3 ∧ 16384 < ab q) ∨ (why = 0 ∧ ab q ≤ 16384)))
def DAsk (w' : World) (b : Nat) (fits : Prop) (p : Int) (q : Rat) (Sp : Nat → Rat → Rat → Rat → Prop) (v : Value) (why : Int) : Prop :=
 (why = 2 ∧ v = zI ∧ ¬ (fits ∧ 8 ≤ p ∧ p ≤ 4096)) ∨ ((fits ∧ 8 ≤ p ∧ p ≤ 4096) ∧ ((why = 3 ∧ v = zI ∧ 16384 < ab q) ∨ (why = 0 ∧ ab q ≤ 16384 ∧ ∃ l u, PI w' b v l u 1000000 ∧ Sp p.toNat q l u)))
def Fuj34_0 := [dg 0, vi 3, U, U, U, U, U, U, U, U, U, U, U, U, U, U, U, U, U, U, U, U, U, U]
def Fuj34_1 := fs Fuj34_0 [(2, ps 0 0), (4, li 0)]
def Buj34_2 := [bb 25 (d3 0)]
def Ruj34_3 : Rg := ⟨2, 4, 0, Fuj34_0, Buj34_2, [pa 0 0, pv (li 0) 0], []⟩
def Fuj34_4 := fs Fuj34_1 [(6, dg 0), (7, vb 4), (8, f1 noF (vb 4)), (9, f1 noF (vb 4)), (10, gd false (f1 noF (vb 4)) (vi 3)), (11, gd false (f1 noF (vb 4)) (bo .lss (vi 3) (li 8))), (12, pk (f1 noF (vb 4)) (lb true) (bo .lss (vi 3) (li 8))), (13, pk (f1 noF (vb 4)) (lb true) (bo .lss (vi 3) (li 8))), (14, gd false (pk (f1 noF (vb 4)) (lb true) (bo .lss (vi 3) (li 8))) (vi 3)), (15, gd false (pk (f1 noF (vb 4)) (lb true) (bo .lss (vi 3) (li 8))) (bo .gtr (vi 3) (li 4096))), (16, pk (pk (f1 noF (vb 4)) (lb true) (bo .lss (vi 3) (li 8))) (lb true) (bo .gtr (vi 3) (li 4096)))]
def Ruj34_5 : Rg := ⟨11, 4, 1, Fuj34_1, Buj34_2, [pl (dg 0) 0 0 0, pc (vb 4) 0 17 [dg 0] 1, pv (f1 noF (vb 4)) 1, pv (f1 noF (vb 4)) 1, ⟨vi 3, 1, [], .val, gd false (f1 noF (vb 4)) (vi 3)⟩, ⟨bo .lss (vi 3) (li 8), 1, [], .val, gd false (f1 noF (vb 4)) (bo .lss (vi 3) (li 8))⟩, ⟨pk (f1 noF (vb 4)) (lb true) (bo .lss (vi 3) (li 8)), 1, [], .pk, pk (f1 noF (vb 4)) (lb true) (bo .lss (vi 3) (li 8))⟩, pv (pk (f1 noF (vb 4)) (lb true) (bo .lss (vi 3) (li 8))) 1, ⟨vi 3, 1, [], .val, gd false (pk (f1 noF (vb 4)) (lb true) (bo .lss (vi 3) (li 8))) (vi 3)⟩, ⟨bo .gtr (vi 3) (li 4096), 1, [], .val, gd false (pk (f1 noF (vb 4)) (lb true) (bo .lss (vi 3) (li 8))) (bo .gtr (vi 3) (li 4096))⟩, ⟨pk (pk (f1 noF (vb 4)) (lb true) (bo .lss (vi 3) (li 8))) (lb true) (bo .gtr (vi 3) (li 4096)), 1, [], .pk, pk (pk (f1 noF (vb 4)) (lb true) (bo .lss (vi 3) (li 8))) (lb true) (bo .gtr (vi 3) (li 4096))⟩], [1]⟩
def Fuj34_6 := fs Fuj34_4 [(4, li 2)]
def Ruj34_7 : Rg := ⟨1, 5, 1, Fuj34_4, Buj34_2, [pv (li 2) 0], []⟩
def Fuj34_8 := fs Fuj34_4 [(5, ps 1 0), (17, dg 0), (18, dg 5)]
def Buj34_9 := [bb 25 (d3 0), bb 25 o3]
def Ruj34_10 : Rg := ⟨3, 5, 1, Fuj34_4, Buj34_9, [pl (dg 0) 0 0 0, pc (dg 5) 0 44 [dg 0] 3, pa 1 0], [1]⟩
def Buj34_11 := [bb 25 (d3 0), bb 25 (d3 5)]
def Fuj34_12 := fs Fuj34_8 [(19, ps 1 0)]
def Ruj34_13 : Rg := ⟨1, 8, 2, Fuj34_8, Buj34_11, [pv (ps 1 0) 0], []⟩
def Buj34_14 := [bb 25 (d3 0), bb 25 [lb false, vs 6, vi 7]]
def Fuj34_15 := fs Fuj34_12 [(20, ag [lb false, vs 6, vi 7]), (21, dg 8), (22, vi 11), (23, bo .gtr (vi 11) (li 0))]
def Ruj34_16 : Rg := ⟨4, 8, 2, Fuj34_12, Buj34_14, [pl (ag [lb false, vs 6, vi 7]) 0 1 0, pc (dg 8) 0 21 [li 16384] 3, pc (vi 11) 1 26 [ag [lb false, vs 6, vi 7], dg 8] 1, pv (bo .gtr (vi 11) (li 0)) 2], [1, 2]⟩
def Fuj34_17 := fs Fuj34_15 [(4, li 3)]
def Ruj34_18 : Rg := ⟨1, 12, 2, Fuj34_15, Buj34_14, [pv (li 3) 0], []⟩
def Ruj34_19 : Rg := ⟨1, 12, 2, Fuj34_15, Buj34_14, [pv (li 0) 0], []⟩
def Fuj10_0 := [dg 0, vi 3, U, U, U, U, U, U, U, U, U, U, U, U, U, U, U]
def Fuj10_1 := fs Fuj10_0 [(2, ps 0 0), (4, ps 1 0), (5, li 0)]
def Buj10_2 := [bb 25 (d3 0), bb 28 o6]
def Ruj10_3 : Rg := ⟨3, 4, 0, Fuj10_0, Buj10_2, [pa 0 0, pa 1 0, pv (li 0) 0], []⟩
def Fuj10_4 := fs Fuj10_1 [(6, vi 4), (7, dg 0), (8, vi 3), (9, vi 4)]
def Ruj10_5 : Rg := ⟨4, 4, 2, Fuj10_1, Buj10_2, [pl (dg 0) 0 0 0, pv (vi 3) 0, pc (vi 4) 0 34 [dg 0, vi 3] 1, pv (vi 4) 1], [2]⟩
def Fuj10_6 := fs Fuj10_4 [(10, vi 4), (11, bo .neq (vi 4) (li 0))]
def Ruj10_7 : Rg := ⟨2, 5, 2, Fuj10_4, Buj10_2, [pv (vi 4) 0, pv (bo .neq (vi 4) (li 0)) 0], []⟩
def Fuj10_8 := fs Fuj10_6 [(5, vi 4), (12, ag o6), (13, vi 4)]
def Ruj10_9 : Rg := ⟨2, 5, 2, Fuj10_6, Buj10_2, [pv (ag o6) 0, pv (vi 4) 0], []⟩
def Fuj10_10 := fs Fuj10_6 [(14, dg 0), (15, vi 3), (16, ig 5)]
def Ruj10_11 : Rg := ⟨3, 5, 2, Fuj10_6, Buj10_2, [pl (dg 0) 0 0 0, pv (vi 3) 0, pc (ig 5) 0 35 [dg 0, vi 3] 6], [2]⟩
def Buj10_12 := [bb 25 (d3 0), bb 28 (i6 5)]
def Fuj15_0 := [dg 0, vi 3, U, U, U, U, U, U, U, U, U, U, U, U, U, U, U]
def Fuj15_1 := fs Fuj15_0 [(2, ps 0 0), (4, ps 1 0), (5, li 0)]
def Buj15_2 := [bb 25 (d3 0), bb 28 o6]
def Ruj15_3 : Rg := ⟨3, 4, 0, Fuj15_0, Buj15_2, [pa 0 0, pa 1 0, pv (li 0) 0], []⟩
def Fuj15_4 := fs Fuj15_1 [(6, vi 4), (7, dg 0), (8, vi 3), (9, vi 4)]
def Ruj15_5 : Rg := ⟨4, 4, 2, Fuj15_1, Buj15_2, [pl (dg 0) 0 0 0, pv (vi 3) 0, pc (vi 4) 0 34 [dg 0, vi 3] 1, pv (vi 4) 1], [2]⟩
def Fuj15_6 := fs Fuj15_4 [(10, vi 4), (11, bo .neq (vi 4) (li 0))]
def Ruj15_7 : Rg := ⟨2, 5, 2, Fuj15_4, Buj15_2, [pv (vi 4) 0, pv (bo .neq (vi 4) (li 0)) 0], []⟩
def Fuj15_8 := fs Fuj15_6 [(5, vi 4), (12, ag o6), (13, vi 4)]
def Ruj15_9 : Rg := ⟨2, 5, 2, Fuj15_6, Buj15_2, [pv (ag o6) 0, pv (vi 4) 0], []⟩
def Fuj15_10 := fs Fuj15_6 [(14, dg 0), (15, vi 3), (16, ig 5)]
def Ruj15_11 : Rg := ⟨3, 5, 2, Fuj15_6, Buj15_2, [pl (dg 0) 0 0 0, pv (vi 3) 0, pc (ig 5) 0 40 [dg 0, vi 3] 6], [2]⟩
def Buj15_12 := [bb 25 (d3 0), bb 28 (i6 5)]
theorem far_if {T : Int} : (if decide (T < -16384) = true then true else decide (T > 16384)) = decide (T < -16384 ∨ T > 16384) := by
 by_cases h : T < -16384
 · simp [h]
 · simp [h]
def Fuj18_0 := [dg 0, U, U, U, U, U, U, U, U, U, U, U, U, U, U]
def Fuj18_1 := fs Fuj18_0 [(1, ps 0 0), (2, lb false)]
def Buj18_2 := [bb 25 (d3 0)]
def Ruj18_3 : Rg := ⟨2, 3, 0, Fuj18_0, Buj18_2, [pa 0 0, pv (lb false) 0], []⟩
def Fuj18_4 := fs Fuj18_1 [(4, dg 0), (5, vb 3)]
def Ruj18_5 : Rg := ⟨2, 3, 1, Fuj18_1, Buj18_2, [pl (dg 0) 0 0 0, pc (vb 3) 0 42 [dg 0] 1], [1]⟩
def Ruj18_6 : Rg := ⟨1, 4, 1, Fuj18_4, Buj18_2, [pv (lb false) 0], []⟩
def Fuj18_7 := fs Fuj18_4 [(3, vi 7), (6, dg 0), (7, dg 4), (8, vi 7)]
def Ruj18_8 : Rg := ⟨4, 4, 1, Fuj18_4, Buj18_2, [pl (dg 0) 0 0 0, pc (dg 4) 0 44 [dg 0] 3, pc (vi 7) 1 43 [dg 4] 1, pv (vi 7) 2], [1, 2]⟩
def Fuj18_9 := fs Fuj18_7 [(2, pk (bo .lss (vi 7) (li (-16384))) (lb true) (bo .gtr (vi 7) (li 16384))), (9, vi 7), (10, bo .lss (vi 7) (li (-16384))), (11, bo .lss (vi 7) (li (-16384))), (12, gd false (bo .lss (vi 7) (li (-16384))) (vi 7)), (13, gd false (bo .lss (vi 7) (li (-16384))) (bo .gtr (vi 7) (li 16384))), (14, pk (bo .lss (vi 7) (li (-16384))) (lb true) (bo .gtr (vi 7) (li 16384)))]
def Ruj18_10 : Rg := ⟨7, 8, 1, Fuj18_7, Buj18_2, [pv (vi 7) 0, pv (bo .lss (vi 7) (li (-16384))) 0, pv (bo .lss (vi 7) (li (-16384))) 0, ⟨vi 7, 0, [], .val, gd false (bo .lss (vi 7) (li (-16384))) (vi 7)⟩, ⟨bo .gtr (vi 7) (li 16384), 0, [], .val, gd false (bo .lss (vi 7) (li (-16384))) (bo .gtr (vi 7) (li 16384))⟩, ⟨pk (bo .lss (vi 7) (li (-16384))) (lb true) (bo .gtr (vi 7) (li 16384)), 0, [], .pk, pk (bo .lss (vi 7) (li (-16384))) (lb true) (bo .gtr (vi 7) (li 16384))⟩, pv (pk (bo .lss (vi 7) (li (-16384))) (lb true) (bo .gtr (vi 7) (li 16384))) 0], []⟩
theorem dfar_q {v : Value} {s : Bool} {m : Nat} {x : Int} {w : World} (h : ADy w v s m x) (hfit : Fit m x = true) (hT : TB w) :
 Calls Tryz.prog 18 #[v] w fun en w' => ∃ r : Bool, en = .returned (.bool r) ∧ (r = false → Dv (sgn s m) x ≠ 0 → (2 : Rat) ^ (-16384 : Int) ≤ ab (Dv (sgn s m) x)) ∧ BL w w' := by
 obtain ⟨A0, n0, c0, rfl, h⟩ := h
 have h : ADy w (.agg #[.bool s, .slice A0 n0 c0, .int .i64 x]) s m x := ⟨_, _, _, rfl, h⟩
 obtain ⟨hbl, hx1, hx2⟩ := fit_bl hfit
 refine fn_enter (u := 64) (fn := Tryz.f18) Tryz.func18 rfl Fuj18_0 [.bool s, .slice A0 n0 c0, .int .i64 x] (by kernel_rfl) rfl (fun a0 S0 r0 => ?_)
 refine wp_seq (rk Ruj18_3 [] Fuj18_1 Buj18_2 S0 r0 ?_)
 intro _ _ _ r1 S1
 refine wp_seq ?_
 refine wp_seq (rk Ruj18_5 [] Fuj18_4 Buj18_2 S1 r1 ?_)
 intro _ _ r2 _
 refine (dzero_all (h.below r2.first) (by omega)).mono ?_
 rintro _ V1 ⟨rfl, k1⟩
 refine ⟨[.bool (decide (m = 0))], rfl, rfl, rfl, k1, ?_⟩
 intro _ _ _ r3 S3
 refine wp_cond_split (t := (decide (m = 0))) (S3.cnd (by kernel_rfl)) (fun q1 => ?_) (fun q1 => ?_)
 · refine wp_seq (rk Ruj18_6 [] Fuj18_4 Buj18_2 S3 r3 ?_)
   intro _ g4 W4 r4 S4
   exact wp_ret (then_ret (ret_ok S4 [.bool false] (by kernel_rfl) (⟨_, rfl, fun _ h0 => absurd (by rw [of_decide_eq_true q1, sgn_zero, Dv_zero]) h0, r4.first⟩)))
 · refine wp_skip ?_
   refine wp_seq (rk Ruj18_8 [] Fuj18_7 Buj18_2 S3 r3 ?_)
   intro W4 g4 r4 _
   refine (done_all (h.below r4.first) (by omega) (by omega) (by omega)).mono ?_
   rintro _ V2 ⟨v, rfl, h1, k2⟩
   obtain ⟨b2, A2, n2, c2, x2, rfl⟩ := h1.ex
   replace h1 := h1.lower r4.fs
   refine ⟨[.bool b2, .slice A2 n2 c2, .int .i64 x2], rfl, rfl, rfl, k2, ?_⟩
   have hB : Bd 65536 (sgn s m) x := bd_of hbl (by omega) (by omega)
   have ho : PQ _ w.heap.size _ (Dv (sgn s m) x) 65536 := ⟨_, _, h1, rfl, hB⟩
   intro _ _ r5 _
   refine (dtop_q (ho.lat (r5.at_ 1 _ rfl)).c (by omega)).mono ?_
   rintro _ V3 ⟨T, rfl, t0, t3, t4, k3⟩
   refine ⟨[.int .i64 T], rfl, rfl, rfl, k3, ?_⟩
   intro _ _ _ r6 S6
   refine wp_seq (rk Ruj18_10 [] Fuj18_9 Buj18_2 S6 r6 ?_)
   intro _ _ _ r7 S7
   exact rt S7 [.bool (if decide (T < (-16384)) then true else decide (T > 16384))] (⟨_, rfl, fun hr h0 => by rw [far_if] at hr; have := of_decide_eq_false hr; exact Rat.le_trans (pw_mono (by omega)) (t0 h0).1, r7.first⟩)
def Fuk37_0 := [ig 0, ig 6, vi 12, U, U, U, U, U, U, U, U, U, U, U, U, U, U, U, U, U, U, U, U, U, U, U, U, U, U, U, U, U, U, U, U, U]
def Fuk37_1 := fs Fuk37_0 [(3, ps 0 0), (4, ps 1 0), (6, lb false)]
def Buk37_2 := [bb 28 (i6 0), bb 28 (i6 6)]
def Ruk37_3 : Rg := ⟨3, 13, 0, Fuk37_0, Buk37_2, [pa 0 0, pa 1 0, pv (lb false) 0], []⟩
def Fuk37_4 := fs Fuk37_1 [(6, pk (pk (pk (pk (vb 13) (vb 20) (lb false)) (vb 21) (lb false)) (bo .leq (vi 22) (li 0)) (lb false)) (bo .leq (vi 23) (li 0)) (lb false)), (7, ig 0), (8, vb 13), (9, vb 13), (10, gd true (vb 13) (ig 0)), (11, gd true (vb 13) (ig 0)), (12, gd true (vb 13) (ig 14)), (13, gd true (vb 13) (vb 20)), (14, pk (vb 13) (vb 20) (lb false)), (15, pk (vb 13) (vb 20) (lb false)), (16, gd true (pk (vb 13) (vb 20) (lb false)) (ig 0)), (17, gd true (pk (vb 13) (vb 20) (lb false)) (vi 12)), (18, gd true (pk (vb 13) (vb 20) (lb false)) (vb 21)), (19, pk (pk (vb 13) (vb 20) (lb false)) (vb 21) (lb false)), (20, pk (pk (vb 13) (vb 20) (lb false)) (vb 21) (lb false)), (21, gd true (pk (pk (vb 13) (vb 20) (lb false)) (vb 21) (lb false)) (ps 0 0)), (22, gd true (pk (pk (vb 13) (vb 20) (lb false)) (vb 21) (lb false)) (dg 0)), (23, gd true (pk (pk (vb 13) (vb 20) (lb false)) (vb 21) (lb false)) (ps 1 3)), (24, gd true (pk (pk (vb 13) (vb 20) (lb false)) (vb 21) (lb false)) (dg 9)), (25, gd true (pk (pk (vb 13) (vb 20) (lb false)) (vb 21) (lb false)) (vi 22)), (26, gd true (pk (pk (vb 13) (vb 20) (lb false)) (vb 21) (lb false)) (bo .leq (vi 22) (li 0))), (27, pk (pk (pk (vb 13) (vb 20) (lb false)) (vb 21) (lb false)) (bo .leq (vi 22) (li 0)) (lb false)), (28, pk (pk (pk (vb 13) (vb 20) (lb false)) (vb 21) (lb false)) (bo .leq (vi 22) (li 0)) (lb false)), (29, gd true (pk (pk (pk (vb 13) (vb 20) (lb false)) (vb 21) (lb false)) (bo .leq (vi 22) (li 0)) (lb false)) (ps 1 0)), (30, gd true (pk (pk (pk (vb 13) (vb 20) (lb false)) (vb 21) (lb false)) (bo .leq (vi 22) (li 0)) (lb false)) (dg 6)), (31, gd true (pk (pk (pk (vb 13) (vb 20) (lb false)) (vb 21) (lb false)) (bo .leq (vi 22) (li 0)) (lb false)) (ps 0 3)), (32, gd true (pk (pk (pk (vb 13) (vb 20) (lb false)) (vb 21) (lb false)) (bo .leq (vi 22) (li 0)) (lb false)) (dg 3)), (33, gd true (pk (pk (pk (vb 13) (vb 20) (lb false)) (vb 21) (lb false)) (bo .leq (vi 22) (li 0)) (lb false)) (vi 23)), (34, gd true (pk (pk (pk (vb 13) (vb 20) (lb false)) (vb 21) (lb false)) (bo .leq (vi 22) (li 0)) (lb false)) (bo .leq (vi 23) (li 0))), (35, pk (pk (pk (pk (vb 13) (vb 20) (lb false)) (vb 21) (lb false)) (bo .leq (vi 22) (li 0)) (lb false)) (bo .leq (vi 23) (li 0)) (lb false))]
def Ruk37_5 : Rg := ⟨30, 13, 2, Fuk37_1, Buk37_2, [pl (ig 0) 0 0 0, pc (vb 13) 0 45 [ig 0] 1, pv (vb 13) 1, ⟨ig 0, 1, [], .ld 0 0, gd true (vb 13) (ig 0)⟩, ⟨ig 0, 1, [], .ld 0 0, gd true (vb 13) (ig 0)⟩, ⟨ig 14, 1, [], .cl 1 77 [ig 0] 6 [], gd true (vb 13) (ig 14)⟩, ⟨vb 20, 2, [], .cl 2 36 [ig 0, ig 14] 1 [], gd true (vb 13) (vb 20)⟩, ⟨pk (vb 13) (vb 20) (lb false), 3, [], .pk, pk (vb 13) (vb 20) (lb false)⟩, pv (pk (vb 13) (vb 20) (lb false)) 3, ⟨ig 0, 3, [], .ld 0 0, gd true (pk (vb 13) (vb 20) (lb false)) (ig 0)⟩, ⟨vi 12, 3, [], .val, gd true (pk (vb 13) (vb 20) (lb false)) (vi 12)⟩, ⟨vb 21, 3, [], .cl 3 78 [ig 0, vi 12] 1 [], gd true (pk (vb 13) (vb 20) (lb false)) (vb 21)⟩, ⟨pk (pk (vb 13) (vb 20) (lb false)) (vb 21) (lb false), 4, [], .pk, pk (pk (vb 13) (vb 20) (lb false)) (vb 21) (lb false)⟩, pv (pk (pk (vb 13) (vb 20) (lb false)) (vb 21) (lb false)) 4, ⟨ps 0 0, 4, [], .val, gd true (pk (pk (vb 13) (vb 20) (lb false)) (vb 21) (lb false)) (ps 0 0)⟩, ⟨dg 0, 4, [], .ld 0 0, gd true (pk (pk (vb 13) (vb 20) (lb false)) (vb 21) (lb false)) (dg 0)⟩, ⟨ps 1 3, 4, [], .val, gd true (pk (pk (vb 13) (vb 20) (lb false)) (vb 21) (lb false)) (ps 1 3)⟩, ⟨dg 9, 4, [], .ld 1 3, gd true (pk (pk (vb 13) (vb 20) (lb false)) (vb 21) (lb false)) (dg 9)⟩, ⟨vi 22, 4, [], .cl 4 26 [dg 0, dg 9] 1 [], gd true (pk (pk (vb 13) (vb 20) (lb false)) (vb 21) (lb false)) (vi 22)⟩, ⟨bo .leq (vi 22) (li 0), 5, [], .val, gd true (pk (pk (vb 13) (vb 20) (lb false)) (vb 21) (lb false)) (bo .leq (vi 22) (li 0))⟩, ⟨pk (pk (pk (vb 13) (vb 20) (lb false)) (vb 21) (lb false)) (bo .leq (vi 22) (li 0)) (lb false), 5, [], .pk, pk (pk (pk (vb 13) (vb 20) (lb false)) (vb 21) (lb false)) (bo .leq (vi 22) (li 0)) (lb false)⟩, pv (pk (pk (pk (vb 13) (vb 20) (lb false)) (vb 21) (lb false)) (bo .leq (vi 22) (li 0)) (lb false)) 5, ⟨ps 1 0, 5, [], .val, gd true (pk (pk (pk (vb 13) (vb 20) (lb false)) (vb 21) (lb false)) (bo .leq (vi 22) (li 0)) (lb false)) (ps 1 0)⟩, ⟨dg 6, 5, [], .ld 1 0, gd true (pk (pk (pk (vb 13) (vb 20) (lb false)) (vb 21) (lb false)) (bo .leq (vi 22) (li 0)) (lb false)) (dg 6)⟩, ⟨ps 0 3, 5, [], .val, gd true (pk (pk (pk (vb 13) (vb 20) (lb false)) (vb 21) (lb false)) (bo .leq (vi 22) (li 0)) (lb false)) (ps 0 3)⟩, ⟨dg 3, 5, [], .ld 0 3, gd true (pk (pk (pk (vb 13) (vb 20) (lb false)) (vb 21) (lb false)) (bo .leq (vi 22) (li 0)) (lb false)) (dg 3)⟩, ⟨vi 23, 5, [], .cl 5 26 [dg 6, dg 3] 1 [], gd true (pk (pk (pk (vb 13) (vb 20) (lb false)) (vb 21) (lb false)) (bo .leq (vi 22) (li 0)) (lb false)) (vi 23)⟩, ⟨bo .leq (vi 23) (li 0), 6, [], .val, gd true (pk (pk (pk (vb 13) (vb 20) (lb false)) (vb 21) (lb false)) (bo .leq (vi 22) (li 0)) (lb false)) (bo .leq (vi 23) (li 0))⟩, ⟨pk (pk (pk (pk (vb 13) (vb 20) (lb false)) (vb 21) (lb false)) (bo .leq (vi 22) (li 0)) (lb false)) (bo .leq (vi 23) (li 0)) (lb false), 6, [], .pk, pk (pk (pk (pk (vb 13) (vb 20) (lb false)) (vb 21) (lb false)) (bo .leq (vi 22) (li 0)) (lb false)) (bo .leq (vi 23) (li 0)) (lb false)⟩, pv (pk (pk (pk (pk (vb 13) (vb 20) (lb false)) (vb 21) (lb false)) (bo .leq (vi 22) (li 0)) (lb false)) (bo .leq (vi 23) (li 0)) (lb false)) 6], [1, 5, 6, 11, 18, 26]⟩
theorem fit_of {P M : Nat} {q : Rat} (h : Short P q) (hP : P ≤ 8000) (hM : M ≤ 24700) (h0 : (((2 ^ M : Nat) : Rat))⁻¹ ≤ ab q) (h1 : ab q ≤ ((2 ^ M : Nat) : Rat)) : FitQ q := by
 obtain ⟨y, f, rfl, hy⟩ := h
 refine fitq_iff.2 ?_
 have hc : cman y ≤ 2 ^ P := Nat.le_trans (Nat.div_le_self _ _) hy
 have b1 : bl (cman y) ≤ P + 1 := bl_le_iff.2 (Nat.lt_of_le_of_lt hc (Nat.pow_lt_pow_right (by decide) (by omega)))
 have hl : (limbs (cman y)).length ≤ 1024 := len_le (by omega)
 have hu : (0 : Rat) < (((2 ^ M : Nat) : Rat))⁻¹ := Rat.inv_pos.2 (upos (Nat.two_pow_pos M))
 rw [ab_Dv] at h0 h1
 have hpos : 0 < (y.natAbs : Int) := Dv_pos.1 (show 0 < Dv (y.natAbs : Int) f by grind)
 obtain ⟨t1, t2⟩ := top_pure (e := f) hpos
 rw [cman_ab, cexp_ab] at t1 t2
 rw [inv_pow] at h0
 rw [← two_w] at h1
 have a1 := pw_le (Rat.le_trans t1 h1)
 have t3 : (2 : Rat) ^ (-(M : Int)) < (2 : Rat) ^ (cexp y f + (bl (cman y) : Int) - 1 + 1) := by grind
 have a2 := pw_lt t3
 have b1 : bl (cman y) ≤ P + 1 := bl_le_iff.2 (Nat.lt_of_le_of_lt hc (Nat.pow_lt_pow_right (by decide) (by omega)))
 exact decide_eq_true ⟨hl, by omega, by omega⟩
theorem fit_zero : FitQ 0 := ⟨0, 0, (Dv_zero 0).symm, by rw [cman_zero, cexp_zero]; exact decide_eq_true ⟨by simp [limbs], by omega, by omega⟩⟩
structure LawSp (Sp : Nat → Rat → Rat → Rat → Prop) (far : Bool) : Prop where
 ok : ∀ P q l u l' u', 8 ≤ P → P ≤ 4096 → ab q ≤ 16384 → Sp P q l u → CutOf false l l' (ep (P + 8)) → CutOf true u u' (ep (P + 8)) → l' ≤ u' ∧ NarQ P l' u'
 fit : ∀ P q l u l' u', 8 ≤ P → P ≤ 4096 → ab q ≤ 16384 → Sp P q l u → CutOf false l l' (ep (P + 8)) → CutOf true u u' (ep (P + 8)) → Short (P + 8) l' → Short (P + 8) u' → (far = true → q = 0 ∨ (2 : Rat) ^ (-16384 : Int) ≤ ab q) → FitQ l' ∧ FitQ u'
 meet : ∀ P q l u l' u' c d, ab q ≤ 16384 → Sp P q l u → CutOf false l l' (ep (P + 8)) → CutOf true u u' (ep (P + 8)) → Sp P q c d → l' ≤ d ∧ c ≤ u'
theorem cut_err {P : Nat} {d : Rat} (h : d ≤ ep (P + 30)) : d + 5 * ep (P + 8) ≤ ep (P + 1) := by
 have h1 := ep_six (a := P + 30) (b := P + 8) (k := P + 5) (by omega) (by omega)
 have h2 := ep_le (p := P + 1) (q := P + 5) (by omega)
 grind
theorem nar_pow {lo hi d : Rat} {P : Nat} (h : Nar lo hi d) (hd : d ≤ ep (P + 1)) : (hi - lo) * (2 : Rat) ^ (P : Int) ≤ lo := by
 rw [two_w]; exact h.narrow hd
theorem nar_two {lo hi d : Rat} {P : Nat} (h : Nar lo hi d) (hd : d ≤ ep (P + 1)) : hi ≤ lo * 2 := by
 have e := ep_small (p := P + 1) (by omega)
 have := Rat.mul_le_mul_of_nonneg_left (Rat.le_trans hd e) (Rat.le_of_lt h.1)
 have := h.2
 grind
theorem ab_le' {q M : Rat} (h : ab q ≤ M) : -M ≤ q ∧ q ≤ M := by
 unfold ab at h
 split at h <;> constructor <;> grind
theorem lawE : LawSp SpE false := by
 have cut : ∀ {P q l u l' u'}, 8 ≤ P → SpE P q l u → CutOf false l l' (ep (P + 8)) → CutOf true u u' (ep (P + 8)) → Enc l' u' q (ep (P + 1)) := by
  intro P q l u l' u' hP h c1 c2
  have h := Enc.cut (show Enc l u q (ep (P + 49)) from h) c1 c2 (Rat.le_of_lt (ep_pos _)) (ep_small (by omega)) (Rat.le_of_lt (ep_pos _)) (ep8 (by omega))
  exact ⟨h.1, h.2.more (cut_err (ep_le (by omega)))⟩
 refine ⟨?_, ?_, ?_⟩
 · intro P q l u l' u' h8 h40 hq h c1 c2
   have e := cut h8 h c1 c2
   exact ⟨e.1.2.1, .inr (.inl ⟨e.1.1, nar_pow e.2 Rat.le_refl⟩)⟩
 · intro P q l u l' u' h8 h40 hq h c1 c2 s1 s2 _
   have e := cut h8 h c1 c2
   obtain ⟨n, hn⟩ : ∃ n, n = 8192 := ⟨_, rfl⟩
   obtain ⟨b1, b2⟩ := ab_le' hq
   obtain ⟨q1, q2⟩ := enc_size hn e (by omega) b1 b2
   have p1 := e.1.1
   have p2 := e.1.2.1
   have a1 : ab l' = l' := ab_of (Rat.le_of_lt p1)
   have a2 : ab u' = u' := ab_of (by grind)
   exact ⟨fit_of s1 (by omega) (M := 3 * n + 1) (by omega) (by rw [a1]; exact q1) (by rw [a1]; exact Rat.le_trans p2 q2), fit_of s2 (by omega) (M := 3 * n + 1) (by omega) (by rw [a2]; exact Rat.le_trans q1 p2) (by rw [a2]; exact q2)⟩
 · intro P q l u l' u' c d hq h c1 c2 h'
   have m := Exs.meet (show Enc l u q (ep (P + 49)) from h).1 (show Enc c d q (ep (P + 49)) from h').1
   exact ⟨Rat.le_trans c1.le m.1, Rat.le_trans m.2 c2.ge⟩
theorem cut_zero {up : Bool} {c e : Rat} (h : CutOf up 0 c e) : c = 0 := by
 have h1 := h.1 Rat.le_refl
 cases up
 · have := h1.1; have := h1.2; grind
 · have := h1.1; have := h1.2; grind
theorem le1_cut {P : Nat} {q l u l' u' : Rat} (hP : 8 ≤ P) (h : Le1 (P + 30) q l u) (hq : q ≠ 0) (c1 : CutOf false l l' (ep (P + 8))) (c2 : CutOf true u u' (ep (P + 8))) : (0 < q ∧ Nar l' u' (ep (P + 1))) ∨ (q < 0 ∧ Nar (-u') (-l') (ep (P + 1))) := by
 obtain ⟨a, b, e1, e2, e3⟩ := h.encl
 have hab := e1.2.1
 have hlu : l ≤ u := by grind
 by_cases hp : 0 < q
 · have n := h.pos hp
   have l0 := n.1
   have d1 := c1.1 (Rat.le_of_lt l0)
   have d2 := c2.1 (Rat.le_trans (Rat.le_of_lt l0) hlu)
   exact .inl ⟨hp, (Nar.cut n d1 d2 (Rat.le_of_lt (ep_pos _)) (ep_small (by omega)) (Rat.le_of_lt (ep_pos _)) (ep8 (by omega))).more (cut_err Rat.le_refl)⟩
 · have hn : q < 0 := by grind
   have n := h.neg hn
   have u0 := n.1
   have d1 := c1.2 (by grind)
   have d2 := c2.2 (by grind)
   exact .inr ⟨hn, (Nar.cut n d2 d1 (Rat.le_of_lt (ep_pos _)) (ep_small (by omega)) (Rat.le_of_lt (ep_pos _)) (ep8 (by omega))).more (cut_err Rat.le_refl)⟩
theorem lawL : LawSp SpL true := by
 refine ⟨?_, ?_, ?_⟩
 · intro P q l u l' u' h8 h40 hq h c1 c2
   rcases h with ⟨rfl, rfl, rfl⟩ | ⟨hne, h⟩
   · rw [cut_zero c1, cut_zero c2]
     exact ⟨Rat.le_refl, .inl ⟨rfl, rfl⟩⟩
   · obtain ⟨a, b, e1, e2, e3⟩ := h.encl
     have hab := e1.2.1
     have o1 := c1.le
     have o2 := c2.ge
     refine ⟨by grind, ?_⟩
     rcases le1_cut h8 h hne c1 c2 with ⟨hp, n⟩ | ⟨hn, n⟩
     · exact .inr (.inl ⟨n.1, nar_pow n Rat.le_refl⟩)
     · refine .inr (.inr ⟨by have := n.1; grind, ?_⟩)
       have := nar_pow n Rat.le_refl
       rw [show u' - l' = -l' - -u' by grind]; exact this
 · intro P q l u l' u' h8 h40 hq h c1 c2 s1 s2 hfar
   rcases h with ⟨rfl, rfl, rfl⟩ | ⟨hne, h⟩
   · rw [cut_zero c1, cut_zero c2]
     exact ⟨fit_zero, fit_zero⟩
   · have hbig := (hfar rfl).resolve_left hne
     obtain ⟨a, b, e1, e2, e3⟩ := h.encl
     obtain ⟨b1, b2⟩ := ab_le' hq
     have o1 := c1.le
     have o2 := c2.ge
     have hM : ((2 ^ 24580 : Nat) : Rat) = ((2 ^ 24580 : Nat) : Rat) := rfl
     obtain ⟨n, hn⟩ : ∃ n, n = 8192 := ⟨_, rfl⟩
     have e16 : ((2 * n : Nat) : Rat) = 16384 := by rw [hn]; decide +kernel
     obtain ⟨G, hG⟩ : ∃ G : Rat, G = (2 : Rat) ^ (-16384 : Int) := ⟨_, rfl⟩
     rw [← hG] at hbig
     have hG0 : 0 < G := by rw [hG]; exact Dv_pow_pos _
     have hG4 : (((2 ^ (3 * n + 4) : Nat) : Rat))⁻¹ ≤ G * (1 / 4) := by
      rw [inv_pow, hG, show (1 / 4 : Rat) = (2 : Rat) ^ (-2 : Int) by decide +kernel, ← Rat.zpow_add two_ne]
      exact pw_mono (by omega)
     obtain ⟨B, hB⟩ : ∃ B : Rat, B = ((2 ^ (3 * n) : Nat) : Rat) := ⟨_, rfl⟩
     have hB4 : ((2 ^ (3 * n + 4) : Nat) : Rat) = B * 16 := by rw [Nat.pow_add, Rat.natCast_mul, hB]; rfl
     have hB1 : 1 ≤ B := by rw [hB]; exact Rat.natCast_le_natCast.2 (Nat.one_le_two_pow)
     have fin : ∀ {y : Rat}, Short (P + 8) y → G * (1 / 4) ≤ ab y → ab y ≤ B * 16 → FitQ y := by
      intro y hs h1 h2
      exact fit_of hs (by omega) (M := 3 * n + 4) (by omega) (Rat.le_trans hG4 h1) (by rw [hB4]; exact h2)
     rcases le1_cut h8 h hne c1 c2 with ⟨hp, nn⟩ | ⟨hng, nn⟩
     · have g1 := e1.ge_add
       have hq0 : ab q = q := ab_of (Rat.le_of_lt hp)
       have ha := Ex.le_big (n := n) (Rat.le_of_lt hp) (by rw [e16]; exact b2) (e1.pos (Rat.le_of_lt hp))
       rw [← hB] at ha
       have l0 := nn.1
       have t := nar_two nn Rat.le_refl
       have x1 : ab l' = l' := ab_of (Rat.le_of_lt l0)
       have x2 : ab u' = u' := ab_of (by grind)
       rw [hq0] at hbig
       exact ⟨fin s1 (by rw [x1]; grind) (by rw [x1]; grind), fin s2 (by rw [x2]; grind) (by rw [x2]; grind)⟩
     · have g1 := e1.neg.ge_add
       have a0 := e1.1
       have hab := e1.2.1
       have hai : a * a⁻¹ = 1 := Rat.mul_inv_cancel _ (by grind)
       have hq0 : ab q = -q := ab_neg (Rat.le_of_lt hng)
       rw [hq0] at hbig
       have u0 := nn.1
       have t := nar_two nn Rat.le_refl
       have x1 : ab l' = -l' := ab_neg (by grind)
       have x2 : ab u' = -u' := ab_neg (by grind)
       -- 1 - a is at least G / 2
       have k1 : a * (1 + -q) ≤ 1 := by
        have := Rat.mul_le_mul_of_nonneg_left g1 (Rat.le_of_lt a0)
        rw [hai] at this; exact this
       have hG1 : G ≤ 1 := by
        rw [hG]
        have := pw_mono (a := -16384) (b := 0) (by omega)
        rwa [Rat.zpow_zero] at this
       have k2 : a * (1 + G) ≤ 1 := by
        have := Rat.mul_le_mul_of_nonneg_left (show 1 + G ≤ 1 + -q by grind) (Rat.le_of_lt a0)
        grind
       have k3 : G * (1 / 2) ≤ 1 - a := by
        refine Classical.byContradiction fun hc => ?_
        have hc : 1 - a < G * (1 / 2) := Rat.not_le.1 hc
        have h1 : 1 - G * (1 / 2) < a := by grind
        have h2 := Rat.mul_lt_mul_of_pos_right h1 (show 0 < 1 + G by grind)
        have h3 : 1 ≤ (1 - G * (1 / 2)) * (1 + G) := by
         have : (1 - G * (1 / 2)) * (1 + G) = 1 + G * (1 / 2) * (1 - G) := by grind
         rw [this]
         have := Rat.mul_nonneg (show 0 ≤ G * (1 / 2) by grind) (show 0 ≤ 1 - G by grind)
         grind
        grind
       have k4 : -u' < 1 := by grind
       exact ⟨fin s1 (by rw [x1]; grind) (by rw [x1]; grind), fin s2 (by rw [x2]; grind) (by rw [x2]; grind)⟩
 · intro P q l u l' u' c d hq h c1 c2 h'
   have o1 := c1.le
   have o2 := c2.ge
   rcases h with ⟨h0, rfl, rfl⟩ | ⟨hne, h⟩
   · rcases h' with ⟨_, rfl, rfl⟩ | ⟨hne, _⟩
     · exact ⟨o1, o2⟩
     · exact absurd h0 hne
   · rcases h' with ⟨h0, _, _⟩ | ⟨_, h'⟩
     · exact absurd h0 hne
     · obtain ⟨a, b, e1, e2, e3⟩ := h.encl
       obtain ⟨a', b', f1, f2, f3⟩ := h'.encl
       have m := Exs.meet e1 f1
       exact ⟨by grind, by grind⟩
theorem zi_c (w : World) : CI w zI 0 0 64 := (PI.mk (k := 0) ⟨0, 0, .zero0 _ _ _, (Dv_zero 0).symm, bd_zero _⟩ ⟨0, 0, .zero0 _ _ _, (Dv_zero 0).symm, bd_zero _⟩).c
def Fulk2_0 := [dg 0, ig 3, li 2, ig 9, li 2, vi 15, U, U, U, U, U, U, U, U, U, U, U, U, U, U, U, U, U, U, U, U, U, U, U, U, U, U, U, U, U, U, U, U]
def Fulk2_1 := fs Fulk2_0 [(6, ps 0 0), (7, ps 1 0), (9, ps 2 0), (12, lb false)]
def Bulk2_2 := [bb 25 (d3 0), bb 28 (i6 3), bb 28 (i6 9)]
def Rulk2_3 : Rg := ⟨4, 16, 0, Fulk2_0, Bulk2_2, [pa 0 0, pa 1 0, pa 2 0, pv (lb false) 0], []⟩
def Fulk2_4 := fs Fulk2_1 [(13, li 2), (14, lb false), (15, lb false), (16, gd true (lb false) (li 2)), (17, gd true (lb false) (lb false)), (18, pk (lb false) (lb false) (lb false)), (19, pk (lb false) (lb false) (lb false)), (20, gd true (pk (lb false) (lb false) (lb false)) (dg 0)), (21, gd true (pk (lb false) (lb false) (lb false)) (vb 16)), (22, pk (pk (lb false) (lb false) (lb false)) (vb 16) (lb false))]
def Rulk2_5 : Rg := ⟨10, 16, 3, Fulk2_1, Bulk2_2, [pv (li 2) 0, pv (lb false) 0, pv (lb false) 0, ⟨li 2, 0, [], .val, gd true (lb false) (li 2)⟩, ⟨lb false, 0, [], .val, gd true (lb false) (lb false)⟩, ⟨pk (lb false) (lb false) (lb false), 0, [], .pk, pk (lb false) (lb false) (lb false)⟩, pv (pk (lb false) (lb false) (lb false)) 0, ⟨dg 0, 0, [], .ld 0 0, gd true (pk (lb false) (lb false) (lb false)) (dg 0)⟩, ⟨vb 16, 0, [], .cl 0 18 [dg 0] 1 [], gd true (pk (lb false) (lb false) (lb false)) (vb 16)⟩, ⟨pk (pk (lb false) (lb false) (lb false)) (vb 16) (lb false), 1, [], .pk, pk (pk (lb false) (lb false) (lb false)) (vb 16) (lb false)⟩], [8]⟩
def Fulk2_6 := fs Fulk2_4 [(26, li 2), (27, li 2), (28, lb false)]
def Rulk2_7 : Rg := ⟨3, 17, 3, Fulk2_4, Bulk2_2, [pv (li 2) 0, pv (li 2) 0, pv (lb false) 0], []⟩
def Fulk2_8 := fs Fulk2_6 [(29, li 2), (30, lb true)]
def Rulk2_9 : Rg := ⟨2, 17, 3, Fulk2_6, Bulk2_2, [pv (li 2) 0, pv (lb true) 0], []⟩
def Fulk2_10 := fs Fulk2_8 [(12, vb 17), (31, ig 3), (32, ag o6), (33, vb 17)]
def Rulk2_11 : Rg := ⟨4, 17, 3, Fulk2_8, Bulk2_2, [pl (ig 3) 0 1 0, pv (ag o6) 0, pc (vb 17) 0 36 [ig 3, ag o6] 1, pv (vb 17) 1], [2]⟩
def Fulk3_0 := [dg 0, ig 3, li 3, ig 9, li 3, vi 15, U, U, U, U, U, U, U, U, U, U, U, U, U, U, U, U, U, U, U, U, U, U, U, U, U, U, U, U, U, U, U, U]
def Fulk3_1 := fs Fulk3_0 [(6, ps 0 0), (7, ps 1 0), (9, ps 2 0), (12, lb false)]
def Bulk3_2 := [bb 25 (d3 0), bb 28 (i6 3), bb 28 (i6 9)]
def Rulk3_3 : Rg := ⟨4, 16, 0, Fulk3_0, Bulk3_2, [pa 0 0, pa 1 0, pa 2 0, pv (lb false) 0], []⟩
def Fulk3_4 := fs Fulk3_1 [(13, li 3), (14, lb false), (15, lb false), (16, gd true (lb false) (li 3)), (17, gd true (lb false) (lb true)), (18, pk (lb false) (lb true) (lb false)), (19, pk (lb false) (lb true) (lb false)), (20, gd true (pk (lb false) (lb true) (lb false)) (dg 0)), (21, gd true (pk (lb false) (lb true) (lb false)) (vb 16)), (22, pk (pk (lb false) (lb true) (lb false)) (vb 16) (lb false))]
def Rulk3_5 : Rg := ⟨10, 16, 3, Fulk3_1, Bulk3_2, [pv (li 3) 0, pv (lb false) 0, pv (lb false) 0, ⟨li 3, 0, [], .val, gd true (lb false) (li 3)⟩, ⟨lb true, 0, [], .val, gd true (lb false) (lb true)⟩, ⟨pk (lb false) (lb true) (lb false), 0, [], .pk, pk (lb false) (lb true) (lb false)⟩, pv (pk (lb false) (lb true) (lb false)) 0, ⟨dg 0, 0, [], .ld 0 0, gd true (pk (lb false) (lb true) (lb false)) (dg 0)⟩, ⟨vb 16, 0, [], .cl 0 18 [dg 0] 1 [], gd true (pk (lb false) (lb true) (lb false)) (vb 16)⟩, ⟨pk (pk (lb false) (lb true) (lb false)) (vb 16) (lb false), 1, [], .pk, pk (pk (lb false) (lb true) (lb false)) (vb 16) (lb false)⟩], [8]⟩
def Fulk3_6 := fs Fulk3_4 [(26, li 3), (27, li 3), (28, lb false)]
def Rulk3_7 : Rg := ⟨3, 17, 3, Fulk3_4, Bulk3_2, [pv (li 3) 0, pv (li 3) 0, pv (lb false) 0], []⟩
def Fulk3_8 := fs Fulk3_6 [(29, li 3), (30, lb true)]
def Rulk3_9 : Rg := ⟨2, 17, 3, Fulk3_6, Bulk3_2, [pv (li 3) 0, pv (lb true) 0], []⟩
def Fulk3_10 := fs Fulk3_8 [(12, vb 17), (31, ig 3), (32, ag o6), (33, vb 17)]
def Rulk3_11 : Rg := ⟨4, 17, 3, Fulk3_8, Bulk3_2, [pl (ig 3) 0 1 0, pv (ag o6) 0, pc (vb 17) 0 36 [ig 3, ag o6] 1, pv (vb 17) 1], [2]⟩
def Fulc_0 := [dg 0, ig 3, li 0, ig 9, li 0, vi 15, U, U, U, U, U, U, U, U, U, U, U, U, U, U, U, U, U, U, U, U, U, U, U, U, U, U, U, U, U, U, U, U]
def Fulc_1 := fs Fulc_0 [(6, ps 0 0), (7, ps 1 0), (9, ps 2 0), (12, lb false)]
def Bulc_2 := [bb 25 (d3 0), bb 28 (i6 3), bb 28 (i6 9)]
def Rulc_3 : Rg := ⟨4, 16, 0, Fulc_0, Bulc_2, [pa 0 0, pa 1 0, pa 2 0, pv (lb false) 0], []⟩
def Fulc_4 := fs Fulc_1 [(13, li 0), (14, lb true), (15, lb true), (16, gd true (lb true) (li 0)), (17, gd true (lb true) (lb false)), (18, pk (lb true) (lb false) (lb false)), (19, pk (lb true) (lb false) (lb false)), (20, gd true (pk (lb true) (lb false) (lb false)) (dg 0)), (21, gd true (pk (lb true) (lb false) (lb false)) (vb 16)), (22, pk (pk (lb true) (lb false) (lb false)) (vb 16) (lb false))]
def Rulc_5 : Rg := ⟨10, 16, 3, Fulc_1, Bulc_2, [pv (li 0) 0, pv (lb true) 0, pv (lb true) 0, ⟨li 0, 0, [], .val, gd true (lb true) (li 0)⟩, ⟨lb false, 0, [], .val, gd true (lb true) (lb false)⟩, ⟨pk (lb true) (lb false) (lb false), 0, [], .pk, pk (lb true) (lb false) (lb false)⟩, pv (pk (lb true) (lb false) (lb false)) 0, ⟨dg 0, 0, [], .ld 0 0, gd true (pk (lb true) (lb false) (lb false)) (dg 0)⟩, ⟨vb 16, 0, [], .cl 0 18 [dg 0] 1 [], gd true (pk (lb true) (lb false) (lb false)) (vb 16)⟩, ⟨pk (pk (lb true) (lb false) (lb false)) (vb 16) (lb false), 1, [], .pk, pk (pk (lb true) (lb false) (lb false)) (vb 16) (lb false)⟩], [8]⟩
def Fulc_6 := fs Fulc_4 [(26, li 0), (27, li 0), (28, lb false)]
def Rulc_7 : Rg := ⟨3, 17, 3, Fulc_4, Bulc_2, [pv (li 0) 0, pv (li 0) 0, pv (lb false) 0], []⟩
def Fulc_8 := fs Fulc_6 [(29, li 0), (30, lb false)]
def Rulc_9 : Rg := ⟨2, 17, 3, Fulc_6, Bulc_2, [pv (li 0) 0, pv (lb false) 0], []⟩
def Fulc_10 := fs Fulc_8 [(12, vb 17), (34, ig 3), (35, ig 9), (36, vi 15), (37, vb 17)]
def Rulc_11 : Rg := ⟨5, 17, 3, Fulc_8, Bulc_2, [pl (ig 3) 0 1 0, pl (ig 9) 0 2 0, pv (vi 15) 0, pc (vb 17) 0 37 [ig 3, ig 9, vi 15] 1, pv (vb 17) 1], [3]⟩
def Fuld_0 := [dg 0, ig 3, li 3, ig 9, li 0, vi 15, U, U, U, U, U, U, U, U, U, U, U, U, U, U, U, U, U, U, U, U, U, U, U, U, U, U, U, U, U, U, U, U]
def Fuld_1 := fs Fuld_0 [(6, ps 0 0), (7, ps 1 0), (9, ps 2 0), (12, lb false)]
def Buld_2 := [bb 25 (d3 0), bb 28 (i6 3), bb 28 (i6 9)]
def Ruld_3 : Rg := ⟨4, 16, 0, Fuld_0, Buld_2, [pa 0 0, pa 1 0, pa 2 0, pv (lb false) 0], []⟩
def Fuld_4 := fs Fuld_1 [(13, li 0), (14, lb true), (15, lb true), (16, gd true (lb true) (li 3)), (17, gd true (lb true) (lb true)), (18, pk (lb true) (lb true) (lb false)), (19, pk (lb true) (lb true) (lb false)), (20, gd true (pk (lb true) (lb true) (lb false)) (dg 0)), (21, gd true (pk (lb true) (lb true) (lb false)) (vb 16)), (22, pk (pk (lb true) (lb true) (lb false)) (vb 16) (lb false))]
def Ruld_5 : Rg := ⟨10, 16, 3, Fuld_1, Buld_2, [pv (li 0) 0, pv (lb true) 0, pv (lb true) 0, ⟨li 3, 0, [], .val, gd true (lb true) (li 3)⟩, ⟨lb true, 0, [], .val, gd true (lb true) (lb true)⟩, ⟨pk (lb true) (lb true) (lb false), 0, [], .pk, pk (lb true) (lb true) (lb false)⟩, pv (pk (lb true) (lb true) (lb false)) 0, ⟨dg 0, 0, [], .ld 0 0, gd true (pk (lb true) (lb true) (lb false)) (dg 0)⟩, ⟨vb 16, 0, [], .cl 0 18 [dg 0] 1 [], gd true (pk (lb true) (lb true) (lb false)) (vb 16)⟩, ⟨pk (pk (lb true) (lb true) (lb false)) (vb 16) (lb false), 1, [], .pk, pk (pk (lb true) (lb true) (lb false)) (vb 16) (lb false)⟩], [8]⟩
def Fuld_6 := fs Fuld_4 [(12, vb 17), (23, ig 3), (24, ag o6), (25, vb 17)]
def Ruld_7 : Rg := ⟨4, 17, 3, Fuld_4, Buld_2, [pl (ig 3) 0 1 0, pv (ag o6) 0, pc (vb 17) 0 36 [ig 3, ag o6] 1, pv (vb 17) 1], [2]⟩
theorem Asked.got {w : World} {b : Nat} {fits : Prop} {p why : Int} {q : Rat} {Sp : Nat → Rat → Rat → Rat → Prop} {v : Value} {far : Bool} (h : Asked w b fits p q Sp v why) (hok : fits ∧ 8 ≤ p ∧ p ≤ 4096) (hsm : ab q ≤ 16384) (L : LawSp Sp far) (hfar : far = true → q = 0 ∨ (2 : Rat) ^ (-16384 : Int) ≤ ab q) :
 why = 0 ∧ ∃ l u l' u', Sp p.toNat q l u ∧ CutOf false l l' (ep (p.toNat + 8)) ∧ CutOf true u u' (ep (p.toNat + 8)) ∧ PI w b v l' u' 1000001 ∧ FitQ l' ∧ FitQ u' ∧ l' ≤ u' ∧ NarQ p.toNat l' u' := by
 rcases h with ⟨_, _, hno⟩ | ⟨_, ⟨_, _, hbig⟩ | ⟨_, l, u, l', u', hs, c1, c2, s1, s2, hr⟩⟩
 · exact absurd hok hno
 · exact absurd hsm (Rat.not_le.2 hbig)
 · have h8 : 8 ≤ p.toNat := by have := hok.2; omega
   have h40 : p.toNat ≤ 4096 := by have := hok.2; omega
   obtain ⟨k1, k2⟩ := L.ok _ _ _ _ _ _ h8 h40 hsm hs c1 c2
   obtain ⟨g1, g2⟩ := L.fit _ _ _ _ _ _ h8 h40 hsm hs c1 c2 s1 s2 hfar
   rcases hr with ⟨rfl, hpi, f1, f2, _⟩ | ⟨rfl, rfl, hnf⟩
   · exact ⟨rfl, l, u, l', u', hs, c1, c2, hpi, f1, f2, k1, k2⟩
   · exact absurd ⟨g1, g2, k1⟩ hnf
theorem Asked.two {w : World} {b : Nat} {fits : Prop} {p why : Int} {q : Rat} {Sp : Nat → Rat → Rat → Rat → Prop} {v : Value} (h : Asked w b fits p q Sp v why) (hno : ¬ (fits ∧ 8 ≤ p ∧ p ≤ 4096)) : why = 2 ∧ v = zI := by
 rcases h with ⟨h1, h2, _⟩ | ⟨hok, _⟩
 · exact ⟨h1, h2⟩
 · exact absurd hok hno
theorem dint_pd (n : Int) (w : World) (h1 : -9223372036854775808 ≤ n) (h2 : n < 9223372036854775808) :
 Calls Tryz.prog 21 #[.int .i64 n] w fun en w' => ∃ v', en = .returned v' ∧ PDy w' w.heap.size v' n 0 ∧ BL w w' :=
 (dint_any n w h1 h2).mono (by rintro e w' ⟨v, rfl, h, hb⟩; exact ⟨v, rfl, h.p, hb⟩)
theorem PDy.ad {w : World} {b : Nat} {v : Value} (h : PDy w b v 1 0) : ADy w v false 1 0 := by
 have := h.c.any
 rw [show cneg 1 = false from rfl, show cman 1 = 1 by decide +kernel, show cexp 1 0 = 0 by decide +kernel] at this
 exact this
theorem fit_one : Fit 1 0 = true := decide_eq_true ⟨by have := len_le (m := 1) (K := 1) (by decide); omega, by omega, by omega⟩
theorem dv_one : Dv (sgn false 1) 0 = 1 := by decide +kernel
theorem dv_z : Dv (sgn false 0) 0 = 0 := by decide +kernel
theorem ad_zero (w : World) : ADy w (.agg #[.bool false, .slice none 0 0, .int .i64 0]) false 0 0 := by
 have := (PDy.zero0 w 0 0).c.any
 rw [show cneg 0 = false from rfl, show cman 0 = 0 from cman_zero, show cexp 0 0 = 0 from cexp_zero 0] at this
 exact this
theorem fit_0 : Fit 0 0 = true := decide_eq_true ⟨by simp [limbs], by omega, by omega⟩
theorem e_between {l u l' u' : Rat} (h : SpE 8 1 l u) (c1 : CutOf false l l' (ep (8 + 8))) (c2 : CutOf true u u' (ep (8 + 8))) (hn : NarQ 8 l' u') : ((2 : Int) : Rat) < l' ∧ u' < ((3 : Int) : Rat) := by
 have e : Exs (27 / 10) (11 / 4) 1 := ⟨by decide +kernel, by decide +kernel, .inl ⟨by decide +kernel, Ex.one⟩⟩
 obtain ⟨m1, m2⟩ := Exs.meet (show Enc l u 1 (ep (8 + 49)) from h).1 e
 have o1 := c1.le
 have o2 := c2.ge
 have e2 : (2 : Rat) ^ ((8 : Nat) : Int) = 256 := by decide +kernel
 rw [show ((2 : Int) : Rat) = 2 from rfl, show ((3 : Int) : Rat) = 3 from rfl]
 rcases hn with ⟨h1, h2⟩ | ⟨h1, h2⟩ | ⟨h1, h2⟩
 · constructor <;> grind
 · rw [e2] at h2; constructor <;> grind
 · constructor <;> grind
def Fum13_0 : List Sy := [U, U, U, U, U, U, U, U, U, U, U, U, U, U, U, U, U, U, U, U, U, U, U, U, U, U, U, U, U, U, U, U, U, U, U, U, U, U, U, U, U, U, U, U, U, U, U, U, U, U, U]
def Fum13_1 := fs Fum13_0 [(0, lb false)]
def Rum13_2 : Rg := ⟨1, 0, 0, Fum13_0, [], [pv (lb false) 0], []⟩
def Fum13_3 := fs Fum13_1 [(1, ps 0 0), (2, vi 9), (7, tu [ig 3, vi 9]), (8, dg 0), (9, tu [ig 3, vi 9]), (10, ig 3), (11, vi 9)]
def Bum13_4 := [bb 28 o6]
def Rum13_5 : Rg := ⟨6, 0, 0, Fum13_1, Bum13_4, [pc (dg 0) 0 21 [li 1] 3, pc (tu [ig 3, vi 9]) 1 9 [dg 0, li 8] 7, pv (tu [ig 3, vi 9]) 2, pv (ig 3) 2, pv (vi 9) 2, pa 0 0], [0, 1]⟩
def Bum13_6 := [bb 28 (i6 3)]
def Fum13_7 := fs Fum13_3 [(3, ps 1 0), (4, vi 16), (12, tu [ig 10, vi 16]), (13, ag o3), (14, tu [ig 10, vi 16]), (15, ig 10), (16, vi 16)]
def Bum13_8 := [bb 28 (i6 3), bb 28 o6]
def Rum13_9 : Rg := ⟨6, 10, 1, Fum13_3, Bum13_8, [pv (ag o3) 0, pc (tu [ig 10, vi 16]) 0 14 [ag o3, li 8] 7, pv (tu [ig 10, vi 16]) 1, pv (ig 10) 1, pv (vi 16) 1, pa 1 0], [1]⟩
def Bum13_10 := [bb 28 (i6 3), bb 28 (i6 10)]
def Fum13_11 := fs Fum13_7 [(5, ps 2 0), (6, vi 26), (17, tu [ig 20, vi 26]), (18, dg 17), (19, tu [ig 20, vi 26]), (20, ig 20), (21, vi 26)]
def Bum13_12 := [bb 28 (i6 3), bb 28 (i6 10), bb 28 o6]
def Rum13_13 : Rg := ⟨6, 17, 2, Fum13_7, Bum13_12, [pc (dg 17) 0 21 [li 1] 3, pc (tu [ig 20, vi 26]) 1 9 [dg 17, li 7] 7, pv (tu [ig 20, vi 26]) 2, pv (ig 20) 2, pv (vi 26) 2, pa 2 0], [0, 1]⟩
def Bum13_14 := [bb 28 (i6 3), bb 28 (i6 10), bb 28 (i6 20)]
def Fum13_15 := fs Fum13_11 [(0, pk (pk (pk (pk (pk (bo .eql (vi 9) (li 0)) (bo .lss (vi 30) (li 0)) (lb false)) (bo .lss (vi 34) (li 0)) (lb false)) (bo .eql (vi 16) (li 0)) (lb false)) (vb 35) (lb false)) (bo .eql (vi 26) (li 2)) (lb false)), (22, vi 9), (23, bo .eql (vi 9) (li 0)), (24, bo .eql (vi 9) (li 0)), (25, gd true (bo .eql (vi 9) (li 0)) (dg 27)), (26, gd true (bo .eql (vi 9) (li 0)) (ps 0 0)), (27, gd true (bo .eql (vi 9) (li 0)) (dg 3)), (28, gd true (bo .eql (vi 9) (li 0)) (vi 30)), (29, gd true (bo .eql (vi 9) (li 0)) (bo .lss (vi 30) (li 0))), (30, pk (bo .eql (vi 9) (li 0)) (bo .lss (vi 30) (li 0)) (lb false)), (31, pk (bo .eql (vi 9) (li 0)) (bo .lss (vi 30) (li 0)) (lb false)), (32, gd true (pk (bo .eql (vi 9) (li 0)) (bo .lss (vi 30) (li 0)) (lb false)) (ps 0 3)), (33, gd true (pk (bo .eql (vi 9) (li 0)) (bo .lss (vi 30) (li 0)) (lb false)) (dg 6)), (34, gd true (pk (bo .eql (vi 9) (li 0)) (bo .lss (vi 30) (li 0)) (lb false)) (dg 31)), (35, gd true (pk (bo .eql (vi 9) (li 0)) (bo .lss (vi 30) (li 0)) (lb false)) (vi 34)), (36, gd true (pk (bo .eql (vi 9) (li 0)) (bo .lss (vi 30) (li 0)) (lb false)) (bo .lss (vi 34) (li 0))), (37, pk (pk (bo .eql (vi 9) (li 0)) (bo .lss (vi 30) (li 0)) (lb false)) (bo .lss (vi 34) (li 0)) (lb false)), (38, pk (pk (bo .eql (vi 9) (li 0)) (bo .lss (vi 30) (li 0)) (lb false)) (bo .lss (vi 34) (li 0)) (lb false)), (39, gd true (pk (pk (bo .eql (vi 9) (li 0)) (bo .lss (vi 30) (li 0)) (lb false)) (bo .lss (vi 34) (li 0)) (lb false)) (vi 16)), (40, gd true (pk (pk (bo .eql (vi 9) (li 0)) (bo .lss (vi 30) (li 0)) (lb false)) (bo .lss (vi 34) (li 0)) (lb false)) (bo .eql (vi 16) (li 0))), (41, pk (pk (pk (bo .eql (vi 9) (li 0)) (bo .lss (vi 30) (li 0)) (lb false)) (bo .lss (vi 34) (li 0)) (lb false)) (bo .eql (vi 16) (li 0)) (lb false)), (42, pk (pk (pk (bo .eql (vi 9) (li 0)) (bo .lss (vi 30) (li 0)) (lb false)) (bo .lss (vi 34) (li 0)) (lb false)) (bo .eql (vi 16) (li 0)) (lb false)), (43, gd true (pk (pk (pk (bo .eql (vi 9) (li 0)) (bo .lss (vi 30) (li 0)) (lb false)) (bo .lss (vi 34) (li 0)) (lb false)) (bo .eql (vi 16) (li 0)) (lb false)) (ig 10)), (44, gd true (pk (pk (pk (bo .eql (vi 9) (li 0)) (bo .lss (vi 30) (li 0)) (lb false)) (bo .lss (vi 34) (li 0)) (lb false)) (bo .eql (vi 16) (li 0)) (lb false)) (ag o6)), (45, gd true (pk (pk (pk (bo .eql (vi 9) (li 0)) (bo .lss (vi 30) (li 0)) (lb false)) (bo .lss (vi 34) (li 0)) (lb false)) (bo .eql (vi 16) (li 0)) (lb false)) (vb 35)), (46, pk (pk (pk (pk (bo .eql (vi 9) (li 0)) (bo .lss (vi 30) (li 0)) (lb false)) (bo .lss (vi 34) (li 0)) (lb false)) (bo .eql (vi 16) (li 0)) (lb false)) (vb 35) (lb false)), (47, pk (pk (pk (pk (bo .eql (vi 9) (li 0)) (bo .lss (vi 30) (li 0)) (lb false)) (bo .lss (vi 34) (li 0)) (lb false)) (bo .eql (vi 16) (li 0)) (lb false)) (vb 35) (lb false)), (48, gd true (pk (pk (pk (pk (bo .eql (vi 9) (li 0)) (bo .lss (vi 30) (li 0)) (lb false)) (bo .lss (vi 34) (li 0)) (lb false)) (bo .eql (vi 16) (li 0)) (lb false)) (vb 35) (lb false)) (vi 26)), (49, gd true (pk (pk (pk (pk (bo .eql (vi 9) (li 0)) (bo .lss (vi 30) (li 0)) (lb false)) (bo .lss (vi 34) (li 0)) (lb false)) (bo .eql (vi 16) (li 0)) (lb false)) (vb 35) (lb false)) (bo .eql (vi 26) (li 2))), (50, pk (pk (pk (pk (pk (bo .eql (vi 9) (li 0)) (bo .lss (vi 30) (li 0)) (lb false)) (bo .lss (vi 34) (li 0)) (lb false)) (bo .eql (vi 16) (li 0)) (lb false)) (vb 35) (lb false)) (bo .eql (vi 26) (li 2)) (lb false))]
def Rum13_16 : Rg := ⟨30, 27, 3, Fum13_11, Bum13_14, [pv (vi 9) 0, pv (bo .eql (vi 9) (li 0)) 0, pv (bo .eql (vi 9) (li 0)) 0, ⟨dg 27, 0, [], .cl 0 21 [li 2] 3 [], gd true (bo .eql (vi 9) (li 0)) (dg 27)⟩, ⟨ps 0 0, 0, [], .val, gd true (bo .eql (vi 9) (li 0)) (ps 0 0)⟩, ⟨dg 3, 0, [], .ld 0 0, gd true (bo .eql (vi 9) (li 0)) (dg 3)⟩, ⟨vi 30, 1, [], .cl 1 26 [dg 27, dg 3] 1 [], gd true (bo .eql (vi 9) (li 0)) (vi 30)⟩, ⟨bo .lss (vi 30) (li 0), 2, [], .val, gd true (bo .eql (vi 9) (li 0)) (bo .lss (vi 30) (li 0))⟩, ⟨pk (bo .eql (vi 9) (li 0)) (bo .lss (vi 30) (li 0)) (lb false), 2, [], .pk, pk (bo .eql (vi 9) (li 0)) (bo .lss (vi 30) (li 0)) (lb false)⟩, pv (pk (bo .eql (vi 9) (li 0)) (bo .lss (vi 30) (li 0)) (lb false)) 2, ⟨ps 0 3, 2, [], .val, gd true (pk (bo .eql (vi 9) (li 0)) (bo .lss (vi 30) (li 0)) (lb false)) (ps 0 3)⟩, ⟨dg 6, 2, [], .ld 0 3, gd true (pk (bo .eql (vi 9) (li 0)) (bo .lss (vi 30) (li 0)) (lb false)) (dg 6)⟩, ⟨dg 31, 2, [], .cl 2 21 [li 3] 3 [], gd true (pk (bo .eql (vi 9) (li 0)) (bo .lss (vi 30) (li 0)) (lb false)) (dg 31)⟩, ⟨vi 34, 3, [], .cl 3 26 [dg 6, dg 31] 1 [], gd true (pk (bo .eql (vi 9) (li 0)) (bo .lss (vi 30) (li 0)) (lb false)) (vi 34)⟩, ⟨bo .lss (vi 34) (li 0), 4, [], .val, gd true (pk (bo .eql (vi 9) (li 0)) (bo .lss (vi 30) (li 0)) (lb false)) (bo .lss (vi 34) (li 0))⟩, ⟨pk (pk (bo .eql (vi 9) (li 0)) (bo .lss (vi 30) (li 0)) (lb false)) (bo .lss (vi 34) (li 0)) (lb false), 4, [], .pk, pk (pk (bo .eql (vi 9) (li 0)) (bo .lss (vi 30) (li 0)) (lb false)) (bo .lss (vi 34) (li 0)) (lb false)⟩, pv (pk (pk (bo .eql (vi 9) (li 0)) (bo .lss (vi 30) (li 0)) (lb false)) (bo .lss (vi 34) (li 0)) (lb false)) 4, ⟨vi 16, 4, [], .val, gd true (pk (pk (bo .eql (vi 9) (li 0)) (bo .lss (vi 30) (li 0)) (lb false)) (bo .lss (vi 34) (li 0)) (lb false)) (vi 16)⟩, ⟨bo .eql (vi 16) (li 0), 4, [], .val, gd true (pk (pk (bo .eql (vi 9) (li 0)) (bo .lss (vi 30) (li 0)) (lb false)) (bo .lss (vi 34) (li 0)) (lb false)) (bo .eql (vi 16) (li 0))⟩, ⟨pk (pk (pk (bo .eql (vi 9) (li 0)) (bo .lss (vi 30) (li 0)) (lb false)) (bo .lss (vi 34) (li 0)) (lb false)) (bo .eql (vi 16) (li 0)) (lb false), 4, [], .pk, pk (pk (pk (bo .eql (vi 9) (li 0)) (bo .lss (vi 30) (li 0)) (lb false)) (bo .lss (vi 34) (li 0)) (lb false)) (bo .eql (vi 16) (li 0)) (lb false)⟩, pv (pk (pk (pk (bo .eql (vi 9) (li 0)) (bo .lss (vi 30) (li 0)) (lb false)) (bo .lss (vi 34) (li 0)) (lb false)) (bo .eql (vi 16) (li 0)) (lb false)) 4, ⟨ig 10, 4, [], .ld 1 0, gd true (pk (pk (pk (bo .eql (vi 9) (li 0)) (bo .lss (vi 30) (li 0)) (lb false)) (bo .lss (vi 34) (li 0)) (lb false)) (bo .eql (vi 16) (li 0)) (lb false)) (ig 10)⟩, ⟨ag o6, 4, [], .val, gd true (pk (pk (pk (bo .eql (vi 9) (li 0)) (bo .lss (vi 30) (li 0)) (lb false)) (bo .lss (vi 34) (li 0)) (lb false)) (bo .eql (vi 16) (li 0)) (lb false)) (ag o6)⟩, ⟨vb 35, 4, [], .cl 4 36 [ig 10, ag o6] 1 [], gd true (pk (pk (pk (bo .eql (vi 9) (li 0)) (bo .lss (vi 30) (li 0)) (lb false)) (bo .lss (vi 34) (li 0)) (lb false)) (bo .eql (vi 16) (li 0)) (lb false)) (vb 35)⟩, ⟨pk (pk (pk (pk (bo .eql (vi 9) (li 0)) (bo .lss (vi 30) (li 0)) (lb false)) (bo .lss (vi 34) (li 0)) (lb false)) (bo .eql (vi 16) (li 0)) (lb false)) (vb 35) (lb false), 5, [], .pk, pk (pk (pk (pk (bo .eql (vi 9) (li 0)) (bo .lss (vi 30) (li 0)) (lb false)) (bo .lss (vi 34) (li 0)) (lb false)) (bo .eql (vi 16) (li 0)) (lb false)) (vb 35) (lb false)⟩, pv (pk (pk (pk (pk (bo .eql (vi 9) (li 0)) (bo .lss (vi 30) (li 0)) (lb false)) (bo .lss (vi 34) (li 0)) (lb false)) (bo .eql (vi 16) (li 0)) (lb false)) (vb 35) (lb false)) 5, ⟨vi 26, 5, [], .val, gd true (pk (pk (pk (pk (bo .eql (vi 9) (li 0)) (bo .lss (vi 30) (li 0)) (lb false)) (bo .lss (vi 34) (li 0)) (lb false)) (bo .eql (vi 16) (li 0)) (lb false)) (vb 35) (lb false)) (vi 26)⟩, ⟨bo .eql (vi 26) (li 2), 5, [], .val, gd true (pk (pk (pk (pk (bo .eql (vi 9) (li 0)) (bo .lss (vi 30) (li 0)) (lb false)) (bo .lss (vi 34) (li 0)) (lb false)) (bo .eql (vi 16) (li 0)) (lb false)) (vb 35) (lb false)) (bo .eql (vi 26) (li 2))⟩, ⟨pk (pk (pk (pk (pk (bo .eql (vi 9) (li 0)) (bo .lss (vi 30) (li 0)) (lb false)) (bo .lss (vi 34) (li 0)) (lb false)) (bo .eql (vi 16) (li 0)) (lb false)) (vb 35) (lb false)) (bo .eql (vi 26) (li 2)) (lb false), 5, [], .pk, pk (pk (pk (pk (pk (bo .eql (vi 9) (li 0)) (bo .lss (vi 30) (li 0)) (lb false)) (bo .lss (vi 34) (li 0)) (lb false)) (bo .eql (vi 16) (li 0)) (lb false)) (vb 35) (lb false)) (bo .eql (vi 26) (li 2)) (lb false)⟩, pv (pk (pk (pk (pk (pk (bo .eql (vi 9) (li 0)) (bo .lss (vi 30) (li 0)) (lb false)) (bo .lss (vi 34) (li 0)) (lb false)) (bo .eql (vi 16) (li 0)) (lb false)) (vb 35) (lb false)) (bo .eql (vi 26) (li 2)) (lb false)) 5], [3, 6, 12, 13, 23]⟩
theorem begins_q (w : World) (hT : TB w) :
 Calls Tryz.prog 13 #[] w fun en w' => en = .returned (.bool true) ∧ BL w w' := by
 refine fn_enter (u := 64) (fn := Tryz.f13) Tryz.func13 rfl Fum13_0 [] (by kernel_rfl) rfl (fun a0 S0 r0 => ?_)
 refine wp_seq (rk Rum13_2 [] Fum13_1 [] S0 r0 ?_)
 intro _ _ _ r1 S1
 refine wp_seq (rk Rum13_5 [.st 0 0 (i6 3), .mv (vi 9)] Fum13_3 Bum13_6 S1 r1 ?_)
 intro _ _ r2 _
 refine (dint_pd 1 _ (by decide) (by decide)).mono ?_
 rintro _ V1 ⟨v, rfl, h1, k1⟩
 obtain ⟨b1, A1, n1, c1, x1, rfl⟩ := h1.ex
 replace h1 := h1.lower r2.fs
 refine ⟨[.bool b1, .slice A1 n1 c1, .int .i64 x1], rfl, rfl, rfl, k1, ?_⟩
 intro _ _ r3 _
 refine (exp_q (p := 8) (h1.lat (r3.at_ 0 _ rfl)).ad (tb hT r3)).mono ?_
 rintro _ V2 ⟨v, why, rfl, ha, k2⟩
 rw [dv_one] at ha
 obtain ⟨rfl, l, u, l1, u1, hs, c1, c2, hv, f1, f2, hle, hn⟩ := ha.got ⟨fit_one, by decide, by decide⟩ (by decide +kernel) lawE (fun h => by cases h)
 obtain ⟨hlo, hhi⟩ := e_between hs c1 c2 hn
 obtain ⟨b2, A2, n2, c2, x2, d2, B2, m2, e2, y2, rfl⟩ := hv.ex
 replace hv := hv.lower r3.fs
 refine ⟨[.bool b2, .slice A2 n2 c2, .int .i64 x2, .bool d2, .slice B2 m2 e2, .int .i64 y2, .int .i64 (0 : Int)], rfl, rfl, rfl, k2, ?_⟩
 intro _ _ _ r4 S4
 refine wp_seq (rk Rum13_9 [.st 1 0 (i6 10), .mv (vi 16)] Fum13_7 Bum13_10 S4 r4 ?_)
 intro _ _ r5 _
 refine (expm1_q (p := 8) (ad_zero _) (tb hT r5)).mono ?_
 rintro _ V3 ⟨v, why, rfl, ha, k3⟩
 rw [dv_z] at ha
 obtain ⟨rfl, l, u, l2, u2, hs, c1, c2, hz, _, _, _, _⟩ := ha.got ⟨fit_0, by decide, by decide⟩ (by decide +kernel) lawL (fun _ => .inl rfl)
 obtain ⟨_, rfl, rfl⟩ := hs.resolve_right (fun h => h.1 rfl)
 obtain rfl := cut_zero c1
 obtain rfl := cut_zero c2
 obtain ⟨b3, A3, n3, c3, x3, d3, B3, m3, e3, y3, rfl⟩ := hz.ex
 replace hz := hz.lower r5.fs
 refine ⟨[.bool b3, .slice A3 n3 c3, .int .i64 x3, .bool d3, .slice B3 m3 e3, .int .i64 y3, .int .i64 (0 : Int)], rfl, rfl, rfl, k3, ?_⟩
 intro _ _ _ r6 S6
 refine wp_seq (rk Rum13_13 [.st 2 0 (i6 20), .mv (vi 26)] Fum13_11 Bum13_14 S6 r6 ?_)
 intro _ _ r7 _
 refine (dint_pd 1 _ (by decide) (by decide)).mono ?_
 rintro _ V4 ⟨v, rfl, h3, k4⟩
 obtain ⟨b4, A4, n4, c4, x4, rfl⟩ := h3.ex
 replace h3 := h3.lower r7.fs
 refine ⟨[.bool b4, .slice A4 n4 c4, .int .i64 x4], rfl, rfl, rfl, k4, ?_⟩
 intro _ _ r8 _
 refine (exp_q (p := 7) (h3.lat (r8.at_ 3 _ rfl)).ad (tb hT r8)).mono ?_
 rintro _ V5 ⟨v, why, rfl, ha, k5⟩
 obtain ⟨rfl, rfl⟩ := ha.two (by omega)
 refine ⟨[.bool false, .slice none 0 0, .int .i64 0, .bool false, .slice none 0 0, .int .i64 0, .int .i64 (2 : Int)], rfl, rfl, rfl, k5, ?_⟩
 intro _ _ _ r9 S9
 refine wp_seq (rk Rum13_16 [] Fum13_15 Bum13_14 S9 r9 ?_)
 refine ⟨fun c10 => ?_, fun c10 => ?_⟩
 · replace c10 := yv (b := (0 : Int) == 0) c10
   intro _ _ r11 _
   refine (dint_q 2 _ (by decide) (by decide)).mono ?_
   rintro _ V6 ⟨v, rfl, h4, k6⟩
   obtain ⟨b6, A6, n6, c6, x6, rfl⟩ := h4.ex
   replace h4 := h4.lower r11.fs
   refine ⟨[.bool b6, .slice A6 n6 c6, .int .i64 x6], rfl, rfl, rfl, k6, ?_⟩
   refine ⟨fun c12 => ?_, fun c12 => ?_⟩
   · replace c12 := yv (b := (0 : Int) == 0) c12
     intro _ _ r13 _
     refine (dorder_q (h4.lat (r13.at_ 5 _ rfl)).c (hv.lat (r13.at_ 1 _ rfl)).lo.c (by decide) (tb hT r13)).mono ?_
     rintro _ V7 ⟨rfl, k7⟩
     rw [show cmpQ (((2 : Int) : Rat)) (l1) = -1 from if_pos (by first | exact hlo | exact hhi)]
     refine ⟨[.int .i64 (-1 : Int)], rfl, rfl, rfl, k7, ?_⟩
     refine ⟨fun c14 => ?_, fun c14 => ?_⟩
     · replace c14 := yv (b := if (0 : Int) == 0 then decide ((-1 : Int) < 0) else false) c14
       intro _ _ r15 _
       refine (dint_q 3 _ (by decide) (by decide)).mono ?_
       rintro _ V8 ⟨v, rfl, h5, k8⟩
       obtain ⟨b8, A8, n8, c8, x8, rfl⟩ := h5.ex
       replace h5 := h5.lower r15.fs
       refine ⟨[.bool b8, .slice A8 n8 c8, .int .i64 x8], rfl, rfl, rfl, k8, ?_⟩
       refine ⟨fun c16 => ?_, fun c16 => ?_⟩
       · replace c16 := yv (b := if (0 : Int) == 0 then decide ((-1 : Int) < 0) else false) c16
         intro _ _ r17 _
         refine (dorder_q (hv.lat (r17.at_ 1 _ rfl)).hi.c (h5.lat (r17.at_ 7 _ rfl)).c (by decide) (tb hT r17)).mono ?_
         rintro _ V9 ⟨rfl, k9⟩
         rw [show cmpQ (u1) (((3 : Int) : Rat)) = -1 from if_pos (by first | exact hlo | exact hhi)]
         refine ⟨[.int .i64 (-1 : Int)], rfl, rfl, rfl, k9, ?_⟩
         refine ⟨fun c18 => ?_, fun c18 => ?_⟩
         · replace c18 := yv (b := if if if (0 : Int) == 0 then decide ((-1 : Int) < 0) else false then decide ((-1 : Int) < 0) else false then (0 : Int) == 0 else false) c18
           intro _ _ r19 _
           refine (dsame_i (hz.lat (r19.at_ 2 _ rfl)).c (zi_c _) (by decide) (tb hT r19)).mono ?_
           rintro _ V10 ⟨r, rfl, hr, k10⟩
           obtain rfl : r = true := hr.2 ⟨rfl, rfl⟩
           refine ⟨[.bool true], rfl, rfl, rfl, k10, ?_⟩
           intro _ _ _ r20 S20
           exact rt S20 [.bool (if if if if if (0 : Int) == 0 then decide ((-1 : Int) < 0) else false then decide ((-1 : Int) < 0) else false then (0 : Int) == 0 else false then true else false then (2 : Int) == 2 else false)] (⟨rfl, r20.first⟩)
         · replace c18 := yn (b := if if if (0 : Int) == 0 then decide ((-1 : Int) < 0) else false then decide ((-1 : Int) < 0) else false then (0 : Int) == 0 else false) c18
           simp at c18
       · replace c16 := yn (b := if (0 : Int) == 0 then decide ((-1 : Int) < 0) else false) c16
         simp at c16
     · replace c14 := yn (b := if (0 : Int) == 0 then decide ((-1 : Int) < 0) else false) c14
       simp at c14
   · replace c12 := yn (b := (0 : Int) == 0) c12
     simp at c12
 · replace c10 := yn (b := (0 : Int) == 0) c10
   simp at c10
def Fun4_0 := [dg 0, vi 3, U, U, U, U, U, U, U, U, U, U, U, U, U, U, U, U, U, U, U, U, U, U, U, U, U, U, U, U, U]
def Fun4_1 := fs Fun4_0 [(2, ps 0 0), (4, lb false)]
def Bun4_2 := [bb 25 (d3 0)]
def Run4_3 : Rg := ⟨2, 4, 0, Fun4_0, Bun4_2, [pa 0 0, pv (lb false) 0], []⟩
def Fun4_4 := fs Fun4_1 [(5, ps 1 0), (6, vi 10), (9, tu [ig 4, vi 10]), (10, dg 0), (11, vi 3), (12, tu [ig 4, vi 10]), (13, ig 4), (14, vi 10)]
def Bun4_5 := [bb 25 (d3 0), bb 28 o6]
def Run4_6 : Rg := ⟨7, 4, 1, Fun4_1, Bun4_5, [pl (dg 0) 0 0 0, pv (vi 3) 0, pc (tu [ig 4, vi 10]) 0 14 [dg 0, vi 3] 7, pv (tu [ig 4, vi 10]) 1, pv (ig 4) 1, pv (vi 10) 1, pa 1 0], [2]⟩
def Bun4_7 := [bb 25 (d3 0), bb 28 (i6 4)]
def Fun4_8 := fs Fun4_4 [(7, ps 2 0), (8, vi 17), (15, tu [ig 11, vi 17]), (16, dg 0), (17, vi 3), (18, tu [ig 11, vi 17]), (19, ig 11), (20, vi 17)]
def Bun4_9 := [bb 25 (d3 0), bb 28 (i6 4), bb 28 o6]
def Run4_10 : Rg := ⟨7, 11, 2, Fun4_4, Bun4_9, [pl (dg 0) 0 0 0, pv (vi 3) 0, pc (tu [ig 11, vi 17]) 0 15 [dg 0, vi 3] 7, pv (tu [ig 11, vi 17]) 1, pv (ig 11) 1, pv (vi 17) 1, pa 2 0], [2]⟩
def Bun4_11 := [bb 25 (d3 0), bb 28 (i6 4), bb 28 (i6 11)]
def Fun4_12 := fs Fun4_8 [(4, pk (vb 18) (vb 19) (lb false)), (21, dg 0), (22, ig 4), (23, vi 10), (24, ig 11), (25, vi 17), (26, vi 3), (27, vb 18), (28, vb 18), (29, gd true (vb 18) (vb 19)), (30, pk (vb 18) (vb 19) (lb false))]
def Run4_13 : Rg := ⟨11, 18, 3, Fun4_8, Bun4_11, [pl (dg 0) 0 0 0, pl (ig 4) 0 1 0, pv (vi 10) 0, pl (ig 11) 0 2 0, pv (vi 17) 0, pv (vi 3) 0, pc (vb 18) 0 11 [dg 0, ig 4, vi 10, ig 11, vi 17, vi 3] 1, pv (vb 18) 1, ⟨vb 19, 1, [], .cl 1 13 [] 1 [], gd true (vb 18) (vb 19)⟩, ⟨pk (vb 18) (vb 19) (lb false), 2, [], .pk, pk (vb 18) (vb 19) (lb false)⟩, pv (pk (vb 18) (vb 19) (lb false)) 2], [6, 8]⟩
open Go Go.ChangeShapes Go.WideShapes Go.ChangeAt Go.RowKit Go.Deep Go.Proofs.YtkdicconchobfaaGreatDoorW.PrintWords Limb
theorem trod_word {H : Type} {enc : TypeId × Value → H} {P : Program} {w : World} {base : Nat} {spare : Nat → Bool} {held : Bool} {n : Nat} {t : TypeId} {v : Value} {x : DataW H × List MemPlace} (ht : P.underlying t = some (.int .u64)) (h : DataW.trod enc P w base spare held n t [v] = some x) : ∃ b : Nat, v = .int .u64 (b : Int) ∧ b < 18446744073709551616 := by
 cases n with
 | zero => simp [DataW.trod] at h
 | succ n =>
   cases v with
   | int k b =>
     simp only [DataW.trod, ht] at h
     split at h
     · rename_i hh
       obtain ⟨rfl, hw⟩ := hh
       have hw2 : 0 ≤ b ∧ b ≤ 18446744073709551615 := by simpa [Lit.wf, IntKind.min, IntKind.max, IntKind.signed, IntKind.bits] using hw
       exact ⟨b.toNat, by rw [Int.toNat_of_nonneg hw2.1], by omega⟩
     · cases h
   | _ => simp [DataW.trod, ht] at h
theorem open_words {H : Type} {enc : TypeId × Value → H} {P : Program} {w : World} {base : Nat} {spare : Nat → Bool} {held : Bool} {fuel : Nat} {t e : TypeId} {v : Value} {x : DataW H × List MemPlace}
 (ht : P.underlying t = some (.slice e)) (he : P.underlying e = some (.int .u64)) (hc : P.cellsOf e = 1) (hf : DataW.trod enc P w base spare held fuel t [v] = some x) :
 ∃ (A : Option Addr) (len cap : Nat) (l : List Nat), v = .slice A len cap ∧ l.length = len ∧ Wf l ∧ len ≤ cap ∧ kU.C w A len l ∧ (x.1 = .nil ∧ len = 0 ∨ ∃ el sp, x.1 = .slice el sp ∧ el.length = len) := by
 rcases open_slice1 ht hc hf with ⟨hcs, hx⟩ | ⟨a, len, cap, m, n, V, D, Pl, hcs, _, hl, hm, hmm, hx, hV⟩
 · injection hcs with hcs
   subst hcs
   exact ⟨none, 0, 0, [], rfl, rfl, (by intro y hy; cases hy), Nat.le_refl _, ⟨rfl, by omega, fun h => absurd h (by omega)⟩, .inl ⟨by rw [hx], rfl⟩⟩
 · injection hcs with hcs
   subst hcs
   have hle : len ≤ m := by rw [hmm]; split <;> omega
   have hval : ∀ i, ∃ b : Nat, i < len → V i = .int .u64 (b : Int) ∧ b < 18446744073709551616 := by
    intro i
    by_cases hi : i < len
    · obtain ⟨b, hb⟩ := trod_word he (hV i (by omega)).2
      exact ⟨b, fun _ => hb⟩
    · exact ⟨0, fun h => absurd h hi⟩
   obtain ⟨B, hB⟩ := Classical.axiomOfChoice hval
   refine ⟨some a, len, cap, (List.range len).map B, rfl, by simp, ?_, hl, ⟨by simp, by unfold maxLen at hm; omega, fun _ => ⟨a, rfl, fun j p hp => ?_⟩⟩, .inr ⟨_, _, by rw [hx], by simp⟩⟩
   · intro y hy
     simp at hy
     obtain ⟨i, hi, rfl⟩ := hy
     exact (hB i hi).2
   have hj : j < len := by have := (List.getElem?_eq_some_iff.1 hp).1; simpa using this
   have hp' : p = B j := by simp [hj] at hp; exact hp.symm
   refine ⟨[.int .u64 ((B j : Nat) : Int)], rfl, by rw [hp']; rfl, fun i u hu => ?_⟩
   match i, hu with
   | 0, hu =>
     simp at hu
     subst hu
     have := (hV j (by omega)).1
     rw [(hB j hj).1] at this
     simpa [kU, Kd.scalar] using this
theorem len3 {α : Type} {l : List α} (h : l.length = 3) : ∃ a b c, l = [a, b, c] := by
 match l, h with
 | [a, b, c], _ => exact ⟨a, b, c, rfl⟩
theorem open_dyad {H : Type} {enc : TypeId × Value → H} {w : World} {base : Nat} {spare : Nat → Bool} {held : Bool} {fuel : Nat} {cs : List Value} {x : DataW H × List MemPlace}
 (hf : DataW.trod enc Tryz.prog w base spare held fuel 25 cs = some x) :
 ∃ (s : Bool) (A : Option Addr) (len cap : Nat) (X : Int) (l : List Nat), cs = [.bool s, .slice A len cap, .int .i64 X] ∧ l.length = len ∧ Wf l ∧ len ≤ cap ∧ kU.C w A len l ∧ (-9223372036854775808 ≤ X ∧ X ≤ 9223372036854775807) ∧ ∃ d0 d1 d2, x.1 = .agg [d0, d1, d2] ∧ (d1 = .nil ∧ len = 0 ∨ ∃ el sp, d1 = .slice el sp ∧ el.length = len) := by
 obtain ⟨xs, n, _, rfl, hl, hlen, hg⟩ := DataW.trod_struct Tryz.underlying25 hf
 have hc3 : Tryz.prog.cellsOf 25 = 3 := by kernel_rfl
 have hb1 : Tryz.prog.cellsOf 4 = 1 := by kernel_rfl
 have hn1 : Tryz.prog.cellsOf 23 = 1 := by kernel_rfl
 have hi1 : Tryz.prog.cellsOf 3 = 1 := by kernel_rfl
 rw [hc3] at hl
 obtain ⟨c0, c1, c2, rfl⟩ := len3 hl
 obtain ⟨y0, y1, y2, rfl⟩ := len3 (l := xs) (hlen.trans rfl)
 have g0 : DataW.trod enc Tryz.prog w base spare held n 4 (List.take (Tryz.prog.cellsOf 4) (List.drop 0 [c0, c1, c2])) = some y0 := hg 0 _ rfl
 have g1 : DataW.trod enc Tryz.prog w base spare held n 23 (List.take (Tryz.prog.cellsOf 23) (List.drop 1 [c0, c1, c2])) = some y1 := hg 1 _ rfl
 have g2 : DataW.trod enc Tryz.prog w base spare held n 3 (List.take (Tryz.prog.cellsOf 3) (List.drop 2 [c0, c1, c2])) = some y2 := hg 2 _ rfl
 rw [hb1] at g0
 rw [hn1] at g1
 rw [hi1] at g2
 simp only [List.drop_zero, List.drop_succ_cons, List.take_succ_cons, List.take_zero] at g0 g1 g2
 obtain ⟨b, e0, _⟩ := DataW.trod_bool Tryz.underlying4 g0
 obtain ⟨A, len, cap, l, e1, k1, k2, k3, k4, k5⟩ := open_words Tryz.underlying23 Tryz.underlying64 (by kernel_rfl) g1
 obtain ⟨X, e2, _, wX⟩ := DataW.trod_int Tryz.underlying3 g2
 injection e0 with e0
 injection e2 with e2
 subst e0 e1 e2
 exact ⟨b, A, len, cap, X, l, rfl, k1, k2, k3, k4, by simpa [Lit.wf, IntKind.min, IntKind.max, IntKind.signed, IntKind.bits] using wX, y0.1, y1.1, y2.1, rfl, k5⟩
theorem got_e {w : World} {b : Nat} {fits : Prop} {p : Int} {q : Rat} {v : Value} (h : Asked w b fits p q SpE v 0) :
 ∃ l u, PI w b v l u 1000001 ∧ FitQ l ∧ FitQ u ∧ l ≤ u ∧ NarQ p.toNat l u ∧ 0 < l ∧ ab q ≤ 16384 ∧ ∃ a c, Exs a c q ∧ l ≤ a ∧ c ≤ u := by
 rcases h with ⟨h1, _⟩ | ⟨hok, ⟨h1, _⟩ | ⟨hsm, l, u, l', u', hs, c1, c2, s1, s2, ⟨_, hpi, f1, f2, hle⟩ | ⟨h1, _⟩⟩⟩
 · cases h1
 · cases h1
 · have hp := hok.2
   obtain ⟨k1, k2⟩ := lawE.ok _ _ _ _ _ _ (show 8 ≤ p.toNat by omega) (by omega) hsm hs c1 c2
   have e : Enc l u q (ep (p.toNat + 49)) := hs
   have e0 := e.1.1
   have e1 := e.1.2.1
   have o1 := c1.le
   have o2 := c2.ge
   refine ⟨l', u', hpi, f1, f2, hle, k2, ?_, hsm, l, u, e.1, o1, o2⟩
   rcases k2 with ⟨h1, h2⟩ | ⟨h1, _⟩ | ⟨h1, _⟩
   · grind
   · exact h1
   · grind
 · cases h1
theorem le1_sgn {P : Nat} {q l u l' u' : Rat} (hP : 8 ≤ P) (h : SpL P q l u) (c1 : CutOf false l l' (ep (P + 8))) (c2 : CutOf true u u' (ep (P + 8))) : (0 < q → 0 < l') ∧ (q < 0 → u' < 0) ∧ (q = 0 → l' = 0 ∧ u' = 0) := by
 rcases h with ⟨rfl, rfl, rfl⟩ | ⟨hne, h⟩
 · exact ⟨fun h => absurd h Rat.lt_irrefl, fun h => absurd h Rat.lt_irrefl, fun _ => ⟨cut_zero c1, cut_zero c2⟩⟩
 · rcases le1_cut hP h hne c1 c2 with ⟨h1, h2⟩ | ⟨h1, h2⟩
   · exact ⟨fun _ => h2.1, fun h => by grind, fun h => absurd h hne⟩
   · exact ⟨fun h => by grind, fun _ => by have := h2.1; grind, fun h => absurd h hne⟩
theorem spL_ex {P : Nat} {q l u : Rat} (h : SpL P q l u) : ∃ a c, Exs a c q ∧ l ≤ a - 1 ∧ c - 1 ≤ u := by
 rcases h with ⟨rfl, rfl, rfl⟩ | ⟨_, h⟩
 · exact ⟨1, 1, ⟨by decide +kernel, Rat.le_refl, .inl ⟨Rat.le_refl, Ex.zero⟩⟩, by decide +kernel, by decide +kernel⟩
 · exact h.encl
theorem got_l {w : World} {b : Nat} {fits : Prop} {p : Int} {q : Rat} {v : Value} (h : Asked w b fits p q SpL v 0) :
 ∃ l u, PI w b v l u 1000001 ∧ FitQ l ∧ FitQ u ∧ l ≤ u ∧ NarQ p.toNat l u ∧ sgnQ l = sgnQ q ∧ ∃ a c, Exs a c q ∧ l ≤ a - 1 ∧ c - 1 ≤ u := by
 rcases h with ⟨h1, _⟩ | ⟨hok, ⟨h1, _⟩ | ⟨hsm, l, u, l', u', hs, c1, c2, s1, s2, ⟨_, hpi, f1, f2, hle⟩ | ⟨h1, _⟩⟩⟩
 · cases h1
 · cases h1
 · have hp := hok.2
   have h8 : 8 ≤ p.toNat := by omega
   obtain ⟨k1, k2⟩ := lawL.ok _ _ _ _ _ _ h8 (by omega) hsm hs c1 c2
   obtain ⟨a, c, e, e1, e2⟩ := spL_ex hs
   obtain ⟨t1, t2, t3⟩ := le1_sgn h8 hs c1 c2
   refine ⟨l', u', hpi, f1, f2, hle, k2, ?_, a, c, e, Rat.le_trans c1.le e1, Rat.le_trans e2 c2.ge⟩
   have s1 := sgnQ_cases l'; have s2 := sgnQ_cases q
   rcases s2 with ⟨z1, z2⟩ | ⟨z1, z2⟩ | ⟨z1, z2⟩
   · have := t2 z1; grind
   · have := t3 z1; grind
   · have := t1 z1; grind
 · cases h1
theorem why_e {w : World} {b : Nat} {fits : Prop} {p why : Int} {q : Rat} {v : Value} (h : Asked w b fits p q SpE v why) (hok : fits ∧ 8 ≤ p ∧ p ≤ 4096) : (why = 0 ∧ ab q ≤ 16384) ∨ (why = 3 ∧ 16384 < ab q) := by
 by_cases hq : ab q ≤ 16384
 · exact .inl ⟨(h.got hok hq lawE (fun h => by cases h)).1, hq⟩
 · rcases h with ⟨_, _, h1⟩ | ⟨_, ⟨h1, _⟩ | ⟨h1, _⟩⟩
   · exact absurd hok h1
   · exact .inr ⟨h1, Rat.not_le.1 hq⟩
   · exact absurd h1 hq
theorem why_l {w : World} {b : Nat} {fits : Prop} {p why : Int} {q : Rat} {v : Value} (h : Asked w b fits p q SpL v why) (hok : fits ∧ 8 ≤ p ∧ p ≤ 4096) : (why = 0 ∧ ab q ≤ 16384) ∨ (why = 3 ∧ (16384 < ab q ∨ (q ≠ 0 ∧ ¬ (2 : Rat) ^ (-16384 : Int) ≤ ab q))) := by
 by_cases hq : ab q ≤ 16384
 · by_cases hf : q = 0 ∨ (2 : Rat) ^ (-16384 : Int) ≤ ab q
   · exact .inl ⟨(h.got hok hq lawL (fun _ => hf)).1, hq⟩
   · have hf1 : q ≠ 0 := fun h => hf (.inl h)
     have hf2 : ¬ (2 : Rat) ^ (-16384 : Int) ≤ ab q := fun h => hf (.inr h)
     rcases h with ⟨_, _, h1⟩ | ⟨_, ⟨h1, _, h2⟩ | ⟨_, l, u, l', u', _, _, _, _, _, ⟨h1, _⟩ | ⟨h1, _⟩⟩⟩
     · exact absurd hok h1
     · exact absurd h2 (Rat.not_lt.2 hq)
     · exact .inl ⟨h1, hq⟩
     · exact .inr ⟨h1, .inr ⟨hf1, hf2⟩⟩
 · rcases h with ⟨_, _, h1⟩ | ⟨_, ⟨h1, _⟩ | ⟨h1, _⟩⟩
   · exact absurd hok h1
   · exact .inr ⟨h1, .inl (Rat.not_le.1 hq)⟩
   · exact absurd h1 hq
theorem why_same {w w' : World} {b b' : Nat} {fits : Prop} {p why why' : Int} {q : Rat} {v v' : Value} (h : Asked w b fits p q SpE v why) (h' : Asked w' b' fits p q SpL v' why') (hok : fits ∧ 8 ≤ p ∧ p ≤ 4096) : why = why' ∨ (q ≠ 0 ∧ ¬ (2 : Rat) ^ (-16384 : Int) ≤ ab q) := by
 rcases why_e h hok with ⟨h1, h2⟩ | ⟨h1, h2⟩
 · rcases why_l h' hok with ⟨k1, _⟩ | ⟨k1, k2 | k2⟩
   · exact .inl (h1.trans k1.symm)
   · exact absurd h2 (Rat.not_le.2 k2)
   · exact .inr k2
 · rcases why_l h' hok with ⟨k1, k2⟩ | ⟨k1, k2⟩
   · exact absurd h2 (Rat.not_lt.2 k2)
   · exact .inl (h1.trans k1.symm)
theorem len_an {v : Value} {m : Nat} {w : World} (h : AN w v m) (hm : bl m ≤ 4294967296) :
 Calls Tryz.prog 90 #[v] w fun e w' => e = .returned (.int .i64 (bl m : Int)) ∧ BL w w' := by
 obtain ⟨A, n, c, l, rfl, h2, rfl, h4, h5, h6⟩ := h
 have := len_all l A c w h2 h4 h5 (by rw [h6]; have := len_le (K := 67108864) hm; omega)
 rw [h6] at this
 exact this
theorem sgn_raw (s : Bool) (m : Nat) (x : Int) : sgnQ (Dv (sgn s m) x) = if m = 0 then 0 else if s = true then -1 else 1 := by
 rw [sgn_Dv]
 unfold sgnI sgn
 by_cases h : m = 0
 · subst h; cases s <;> rfl
 · rw [if_neg h]
   cases s
   · rw [if_neg (by simp; omega), if_neg (by simp), if_neg (by simp)]
   · rw [if_neg (by simp; omega), if_pos (by simp; omega), if_pos rfl]
theorem top_raw {s : Bool} {m : Nat} {x : Int} (h : Dv (sgn s m) x ≠ 0) : (2 : Rat) ^ (x + (bl m : Int) - 1) ≤ ab (Dv (sgn s m) x) ∧ ab (Dv (sgn s m) x) < (2 : Rat) ^ (x + (bl m : Int) - 1 + 1) := by
 have hm : m ≠ 0 := fun q => h (by rw [q, sgn_zero, Dv_zero])
 rw [ab_Dv, sgn_abs]
 have hb := bl_pos hm
 obtain ⟨k, hk⟩ : ∃ k, bl m = k + 1 := ⟨bl m - 1, by omega⟩
 have h1 := bl_le hm
 have h2 := bl_lt m
 rw [hk] at h1 h2 ⊢
 rw [show x + ((k + 1 : Nat) : Int) - 1 = x + (k : Int) by omega, show x + (k : Int) + 1 = x + ((k + 1 : Nat) : Int) by omega]
 rw [← Dv_one, ← Dv_one, ← Dv_shift, ← Dv_shift, Dv_le, Dv_lt]
 simp only [Int.one_mul]
 simp only [Nat.add_sub_cancel] at h1
 exact ⟨by exact_mod_cast h1, by exact_mod_cast h2⟩
def Fwb25_0 := [dg 0, U, U, U, U, U, U, U, U]
def Fwb25_1 := fs Fwb25_0 [(1, ps 0 0), (2, li 0)]
def Bwb25_2 := [bb 25 (d3 0)]
def Rwb25_3 : Rg := ⟨2, 3, 0, Fwb25_0, Bwb25_2, [pa 0 0, pv (li 0) 0], []⟩
def Fwb25_4 := fs Fwb25_1 [(3, vb 3), (4, dg 0), (5, vb 3)]
def Rwb25_5 : Rg := ⟨3, 3, 1, Fwb25_1, Bwb25_2, [pl (dg 0) 0 0 0, pc (vb 3) 0 42 [dg 0] 1, pv (vb 3) 1], [1]⟩
def Rwb25_6 : Rg := ⟨1, 4, 1, Fwb25_4, Bwb25_2, [pv (li 0) 0], []⟩
def Fwb25_7 := fs Fwb25_4 [(6, vb 0), (7, ps 0 0), (8, vb 0)]
def Rwb25_8 : Rg := ⟨3, 4, 1, Fwb25_4, Bwb25_2, [pv (ps 0 0) 0, pl (vb 0) 0 0 0, pv (vb 0) 0], []⟩
def Fwb25_9 := fs Fwb25_7 [(2, li (-1))]
def Rwb25_10 : Rg := ⟨1, 4, 1, Fwb25_7, Bwb25_2, [pv (li (-1)) 0], []⟩
def Fwb25_11 := fs Fwb25_7 [(2, li 1)]
def Rwb25_12 : Rg := ⟨1, 4, 1, Fwb25_7, Bwb25_2, [pv (li 1) 0], []⟩
theorem dsign_all {v : Value} {s : Bool} {m : Nat} {x : Int} {w : World} (h : ADy w v s m x) (hm : bl m ≤ 4294967296) :
 Calls Tryz.prog 25 #[v] w fun en w' => en = .returned (.int .i64 (sgnQ (Dv (sgn s m) x))) ∧ BL w w' := by
 obtain ⟨A0, n0, c0, rfl, h⟩ := h
 have h : ADy w (.agg #[.bool s, .slice A0 n0 c0, .int .i64 x]) s m x := ⟨_, _, _, rfl, h⟩
 refine fn_enter (u := 64) (fn := Tryz.f25) Tryz.func25 rfl Fwb25_0 [.bool s, .slice A0 n0 c0, .int .i64 x] (by kernel_rfl) rfl (fun a0 S0 r0 => ?_)
 refine wp_seq (rk Rwb25_3 [] Fwb25_1 Bwb25_2 S0 r0 ?_)
 intro _ _ _ r1 S1
 refine wp_seq ?_
 refine wp_block ?_
 refine wp_seq (rk Rwb25_5 [] Fwb25_4 Bwb25_2 S1 r1 ?_)
 intro _ _ r2 _
 refine (dzero_all (h.below r2.first) hm).mono ?_
 rintro _ V1 ⟨rfl, k1⟩
 refine ⟨[.bool (decide (m = 0))], rfl, rfl, rfl, k1, ?_⟩
 intro _ _ _ r3 S3
 refine wp_cond_split (t := (decide (m = 0))) (S3.cnd (by kernel_rfl)) (fun q1 => ?_) (fun q1 => ?_)
 · refine wp_seq (rk Rwb25_6 [] Fwb25_4 Bwb25_2 S3 r3 ?_)
   intro a4 g4 W4 r4 S4
   exact wp_ret (blk_ret (then_ret (ret_ok S4 [.int .i64 0] (by kernel_rfl) (⟨by rw [sgn_raw, if_pos (of_decide_eq_true q1)]; rfl, r4.first⟩))))
 · refine wp_seq (rk Rwb25_8 [] Fwb25_7 Bwb25_2 S3 r3 ?_)
   intro a4 g4 W4 r4 S4
   refine wp_cond_split (t := s) (S4.cnd (by kernel_rfl)) (fun q2 => ?_) (fun q2 => ?_)
   · refine wp_seq (rk Rwb25_10 [] Fwb25_9 Bwb25_2 S4 r4 ?_)
     intro a5 g5 W5 r5 S5
     exact wp_ret (blk_ret (then_ret (ret_ok S5 [.int .i64 (-1)] (by kernel_rfl) (⟨by rw [sgn_raw, if_neg (of_decide_eq_false q1), if_pos q2]; rfl, r5.first⟩))))
   · refine wp_skip ?_
     refine wp_seq (rk Rwb25_12 [] Fwb25_11 Bwb25_2 S4 r4 ?_)
     intro a5 g5 W5 r5 S5
     exact rt S5 [.int .i64 1] (⟨by rw [sgn_raw, if_neg (of_decide_eq_false q1), if_neg (by rw [q2]; decide)]; rfl, r5.first⟩)
def Fwb43_0 := [dg 0, U, U, U, U, U, U, U, U, U]
def Fwb43_1 := fs Fwb43_0 [(1, ps 0 0), (2, li 0)]
def Bwb43_2 := [bb 25 (d3 0)]
def Rwb43_3 : Rg := ⟨2, 3, 0, Fwb43_0, Bwb43_2, [pa 0 0, pv (li 0) 0], []⟩
def Fwb43_4 := fs Fwb43_1 [(2, bo .sub (bo .add (vi 2) (vi 3)) (li 1)), (3, ps 0 2), (4, vi 2), (5, ps 0 1), (6, vs 1), (7, vi 3), (8, bo .add (vi 2) (vi 3)), (9, bo .sub (bo .add (vi 2) (vi 3)) (li 1))]
def Rwb43_5 : Rg := ⟨8, 3, 1, Fwb43_1, Bwb43_2, [pv (ps 0 2) 0, pl (vi 2) 0 0 2, pv (ps 0 1) 0, pl (vs 1) 0 0 1, pc (vi 3) 0 90 [vs 1] 1, pv (bo .add (vi 2) (vi 3)) 1, pv (bo .sub (bo .add (vi 2) (vi 3)) (li 1)) 1, pv (bo .sub (bo .add (vi 2) (vi 3)) (li 1)) 1], [4]⟩
theorem dtop_all {v : Value} {s : Bool} {m : Nat} {x : Int} {w : World} (h : ADy w v s m x) (hm : bl m ≤ 4294967296) (h1 : -1099511627776 ≤ x) (h2 : x ≤ 1099511627776) :
 Calls Tryz.prog 43 #[v] w fun en w' => ∃ T : Int, en = .returned (.int .i64 T) ∧ (Dv (sgn s m) x ≠ 0 → (2 : Rat) ^ T ≤ ab (Dv (sgn s m) x) ∧ ab (Dv (sgn s m) x) < (2 : Rat) ^ (T + 1)) ∧ BL w w' := by
 obtain ⟨A0, n0, c0, rfl, h⟩ := h
 have h : ADy w (.agg #[.bool s, .slice A0 n0 c0, .int .i64 x]) s m x := ⟨_, _, _, rfl, h⟩
 refine fn_enter (u := 64) (fn := Tryz.f43) Tryz.func43 rfl Fwb43_0 [.bool s, .slice A0 n0 c0, .int .i64 x] (by kernel_rfl) rfl (fun a0 S0 r0 => ?_)
 refine wp_seq (rk Rwb43_3 [] Fwb43_1 Bwb43_2 S0 r0 ?_)
 intro _ _ _ r1 S1
 refine wp_seq (rk Rwb43_5 [] Fwb43_4 Bwb43_2 S1 r1 ?_)
 intro _ _ r2 _
 refine (len_an (h.below r2.first).n hm).mono ?_
 rintro _ V1 ⟨rfl, k1⟩
 refine ⟨[.int .i64 (bl m : Int)], rfl, rfl, rfl, k1, ?_⟩
 intro _ _ _ r3 S3
 exact rt S3 [.int .i64 (IntKind.i64.wrap ((IntKind.i64.wrap (x + (bl m : Int))) - 1))] (⟨_, rfl, fun h => by rw [i64_id (x := x + (bl m : Int)) (by omega) (by omega), i64_id (by omega) (by omega)]; exact top_raw h, r3.first⟩)
def Fwb93_0 := [dg 0, U, U, U, U, U, U, U, U, U, U]
def Fwb93_1 := fs Fwb93_0 [(1, ps 0 0), (2, ps 1 0)]
def Bwb93_2 := [bb 25 (d3 0), bb 25 o3]
def Rwb93_3 : Rg := ⟨2, 3, 0, Fwb93_0, Bwb93_2, [pa 0 0, pa 1 0], []⟩
def Fwb93_4 := fs Fwb93_1 [(3, ps 0 0), (4, vb 0), (5, f1 noF (vb 0)), (6, ps 0 1), (7, vs 1), (8, ps 0 2), (9, vi 2), (10, dg 3)]
def Rwb93_5 : Rg := ⟨8, 3, 2, Fwb93_1, Bwb93_2, [pv (ps 0 0) 0, pl (vb 0) 0 0 0, pv (f1 noF (vb 0)) 0, pv (ps 0 1) 0, pl (vs 1) 0 0 1, pv (ps 0 2) 0, pl (vi 2) 0 0 2, pc (dg 3) 0 46 [f1 noF (vb 0), vs 1, vi 2] 3], [7]⟩
def Bwb93_6 := [bb 25 (d3 0), bb 25 (d3 3)]
theorem dneg_all {v : Value} {s : Bool} {m : Nat} {x : Int} {w : World} (h : ADy w v s m x) (hm : bl m ≤ 4294967296) (h1 : -1099511627776 ≤ x) (h2 : x ≤ 1099511627776) :
 Calls Tryz.prog 93 #[v] w fun en w' => ∃ v', en = .returned v' ∧ PDy w' w.heap.size v' (sgn (!s) m) x ∧ BL w w' := by
 obtain ⟨A0, n0, c0, rfl, h⟩ := h
 have h : ADy w (.agg #[.bool s, .slice A0 n0 c0, .int .i64 x]) s m x := ⟨_, _, _, rfl, h⟩
 refine fn_enter (u := 64) (fn := Tryz.f93) Tryz.func93 rfl Fwb93_0 [.bool s, .slice A0 n0 c0, .int .i64 x] (by kernel_rfl) rfl (fun a0 S0 r0 => ?_)
 refine wp_seq (rk Rwb93_3 [] Fwb93_1 Bwb93_2 S0 r0 ?_)
 intro _ _ _ r1 S1
 refine wp_seq (rk Rwb93_5 [.st 1 0 (d3 3)] Fwb93_4 Bwb93_6 S1 r1 ?_)
 intro W2 _ r2 _
 show Calls Tryz.prog 46 #[.bool (!s), .slice A0 n0 c0, .int .i64 x] W2 _
 refine (dform_all (!s) x (h.below r2.first).n hm h1 h2).mono ?_
 rintro _ V1 ⟨v, rfl, h1, k1⟩
 obtain ⟨b1, A1, n1, c1, x1, rfl⟩ := h1.ex
 replace h1 := h1.lower r2.fs
 refine ⟨[.bool b1, .slice A1 n1 c1, .int .i64 x1], rfl, rfl, rfl, k1, ?_⟩
 intro _ _ _ r3 S3
 exact rt S3 [.agg #[.bool b1, .slice A1 n1 c1, .int .i64 x1]] (⟨_, rfl, (h1.lat (r3.at_ 0 _ rfl)), r3.first⟩)
theorem ADy.g {v : Value} {s : Bool} {m : Nat} {x : Int} {w : World} (h : ADy w v s m x) (hf : Fit m x = true) : GQ w v (Dv (sgn s m) x) 65536 := by
 obtain ⟨hbl, hx1, hx2⟩ := fit_bl hf
 have hB : Bd 65536 (sgn s m) x := bd_of hbl (by omega) (by omega)
 have hN : Dv (sgn (!s) m) x = -Dv (sgn s m) x := by rw [← Dv_neg]; cases s <;> simp [sgn]
 refine ⟨?_, fun W hW => dsign_all (h.below hW) (by omega), fun W hW => dtop_all (h.below hW) (by omega) (by omega) (by omega), fun W hW => (dneg_all (h.below hW) (by omega) (by omega) (by omega)).mono ?_, _, _, rfl, hB, fun W hW => done_all (h.below hW) (by omega) (by omega) (by omega)⟩
 · obtain ⟨A, n, c, rfl, _⟩ := h
   exact ⟨_, _, _, _, _, rfl⟩
 · rintro en w' ⟨v', rfl, h', hb⟩
   exact ⟨v', rfl, ⟨_, _, h', hN.symm, bd_of hbl (by omega) (by omega)⟩, hb⟩
theorem fit_i8 {p : Int} : (if decide (p ≥ 8) = true then decide (p ≤ 4096) else false) = decide (8 ≤ p ∧ p ≤ 4096) := by
 by_cases h : p ≥ 8
 · rw [if_pos (decide_eq_true h)]; by_cases h' : p ≤ 4096
   · rw [decide_eq_true h', decide_eq_true (p := 8 ≤ p ∧ p ≤ 4096) ⟨h, h'⟩]
   · rw [decide_eq_false h', decide_eq_false (p := 8 ≤ p ∧ p ≤ 4096) (fun q => h' q.2)]
 · rw [decide_eq_false h, decide_eq_false (p := 8 ≤ p ∧ p ≤ 4096) (fun q => h q.1)]; rfl
theorem sgn_one {a : Rat} (h : decide (sgnQ a > 0) = true) : sgnQ a = 1 := by
 have h1 := sgnQ_cases a; have := of_decide_eq_true h; omega
theorem sgn_m1 {a : Rat} (h : decide (sgnQ a < 0) = true) : sgnQ a = -1 := by
 have h1 := sgnQ_cases a; have := of_decide_eq_true h; omega
theorem sgn_nil {a : Rat} (h : decide (sgnQ a > 0) = false) (h' : decide (sgnQ a < 0) = false) : sgnQ a = 0 := by
 have h1 := sgnQ_cases a; have := of_decide_eq_false h; have := of_decide_eq_false h'; omega
def Fwp16_0 := [vi 0, U, U, U, U, U, U, U, U]
def Fwp16_1 := fs Fwp16_0 [(2, lb false)]
def Rwp16_2 : Rg := ⟨1, 1, 0, Fwp16_0, [], [pv (lb false) 0], []⟩
def Fwp16_3 := fs Fwp16_1 [(2, pk (bo .geq (vi 0) (li 8)) (bo .leq (vi 0) (li 4096)) (lb false)), (3, vi 0), (4, bo .geq (vi 0) (li 8)), (5, bo .geq (vi 0) (li 8)), (6, gd true (bo .geq (vi 0) (li 8)) (vi 0)), (7, gd true (bo .geq (vi 0) (li 8)) (bo .leq (vi 0) (li 4096))), (8, pk (bo .geq (vi 0) (li 8)) (bo .leq (vi 0) (li 4096)) (lb false))]
def Rwp16_4 : Rg := ⟨7, 1, 0, Fwp16_1, [], [pv (vi 0) 0, pv (bo .geq (vi 0) (li 8)) 0, pv (bo .geq (vi 0) (li 8)) 0, ⟨vi 0, 0, [], .val, gd true (bo .geq (vi 0) (li 8)) (vi 0)⟩, ⟨bo .leq (vi 0) (li 4096), 0, [], .val, gd true (bo .geq (vi 0) (li 8)) (bo .leq (vi 0) (li 4096))⟩, ⟨pk (bo .geq (vi 0) (li 8)) (bo .leq (vi 0) (li 4096)) (lb false), 0, [], .pk, pk (bo .geq (vi 0) (li 8)) (bo .leq (vi 0) (li 4096)) (lb false)⟩, pv (pk (bo .geq (vi 0) (li 8)) (bo .leq (vi 0) (li 4096)) (lb false)) 0], []⟩
theorem fit_q (p : Int) (w : World) :
 Calls Tryz.prog 16 #[.int .i64 p] w fun en w' => en = .returned (.bool (decide (8 ≤ p ∧ p ≤ 4096))) ∧ BL w w' := by
 refine fn_enter (u := 64) (fn := Tryz.f16) Tryz.func16 rfl Fwp16_0 [.int .i64 p] (by kernel_rfl) rfl (fun a0 S0 r0 => ?_)
 refine wp_seq (rk Rwp16_2 [] Fwp16_1 [] S0 r0 ?_)
 intro _ _ _ r1 S1
 refine wp_seq (rk Rwp16_4 [] Fwp16_3 [] S1 r1 ?_)
 intro _ _ _ r2 S2
 exact rt S2 [.bool (if decide (p ≥ 8) then decide (p ≤ 4096) else false)] (⟨by rw [fit_i8]; rfl, r2.first⟩)
def Fwp23_0 := [ig 0, ig 6, U, U, U, U, U, U, U, U, U, U, U, U, U, U, U, U, U]
def Fwp23_1 := fs Fwp23_0 [(2, ps 0 0), (3, ps 1 0), (4, lb false)]
def Bwp23_2 := [bb 28 (i6 0), bb 28 (i6 6)]
def Rwp23_3 : Rg := ⟨3, 12, 0, Fwp23_0, Bwp23_2, [pa 0 0, pa 1 0, pv (lb false) 0], []⟩
def Fwp23_4 := fs Fwp23_1 [(4, pk (bo .leq (vi 12) (li 0)) (bo .leq (vi 13) (li 0)) (lb false)), (5, ps 0 0), (6, dg 0), (7, ps 1 3), (8, dg 9), (9, vi 12), (10, bo .leq (vi 12) (li 0)), (11, bo .leq (vi 12) (li 0)), (12, gd true (bo .leq (vi 12) (li 0)) (ps 1 0)), (13, gd true (bo .leq (vi 12) (li 0)) (dg 6)), (14, gd true (bo .leq (vi 12) (li 0)) (ps 0 3)), (15, gd true (bo .leq (vi 12) (li 0)) (dg 3)), (16, gd true (bo .leq (vi 12) (li 0)) (vi 13)), (17, gd true (bo .leq (vi 12) (li 0)) (bo .leq (vi 13) (li 0))), (18, pk (bo .leq (vi 12) (li 0)) (bo .leq (vi 13) (li 0)) (lb false))]
def Rwp23_5 : Rg := ⟨15, 12, 2, Fwp23_1, Bwp23_2, [pv (ps 0 0) 0, pl (dg 0) 0 0 0, pv (ps 1 3) 0, pl (dg 9) 0 1 3, pc (vi 12) 0 26 [dg 0, dg 9] 1, pv (bo .leq (vi 12) (li 0)) 1, pv (bo .leq (vi 12) (li 0)) 1, ⟨ps 1 0, 1, [], .val, gd true (bo .leq (vi 12) (li 0)) (ps 1 0)⟩, ⟨dg 6, 1, [], .ld 1 0, gd true (bo .leq (vi 12) (li 0)) (dg 6)⟩, ⟨ps 0 3, 1, [], .val, gd true (bo .leq (vi 12) (li 0)) (ps 0 3)⟩, ⟨dg 3, 1, [], .ld 0 3, gd true (bo .leq (vi 12) (li 0)) (dg 3)⟩, ⟨vi 13, 1, [], .cl 1 26 [dg 6, dg 3] 1 [], gd true (bo .leq (vi 12) (li 0)) (vi 13)⟩, ⟨bo .leq (vi 13) (li 0), 2, [], .val, gd true (bo .leq (vi 12) (li 0)) (bo .leq (vi 13) (li 0))⟩, ⟨pk (bo .leq (vi 12) (li 0)) (bo .leq (vi 13) (li 0)) (lb false), 2, [], .pk, pk (bo .leq (vi 12) (li 0)) (bo .leq (vi 13) (li 0)) (lb false)⟩, pv (pk (bo .leq (vi 12) (li 0)) (bo .leq (vi 13) (li 0)) (lb false)) 2], [4, 11]⟩
theorem meets_q {u v : Value} {a b c d : Rat} {N M : Nat} {w : World} (h : CI w u a b N) (h' : CI w v c d M) (h1 : a ≤ d) (h2 : c ≤ b) (hN : N + M ≤ 33554431) (hT : TB w) :
 Calls Tryz.prog 23 #[u, v] w fun en w' => en = .returned (.bool true) ∧ BL w w' := by
 obtain ⟨b0, A0, n0, c0, x0, d0, B0, m0, e0, y0, rfl⟩ := h.ex
 obtain ⟨b9, A9, n9, c9, x9, d9, B9, m9, e9, y9, rfl⟩ := h'.ex
 refine fn_enter (u := 64) (fn := Tryz.f23) Tryz.func23 rfl Fwp23_0 [.bool b0, .slice A0 n0 c0, .int .i64 x0, .bool d0, .slice B0 m0 e0, .int .i64 y0, .bool b9, .slice A9 n9 c9, .int .i64 x9, .bool d9, .slice B9 m9 e9, .int .i64 y9] (by kernel_rfl) rfl (fun a0 S0 r0 => ?_)
 refine wp_seq (rk Rwp23_3 [] Fwp23_1 Bwp23_2 S0 r0 ?_)
 intro _ _ _ r1 S1
 refine wp_seq (rk Rwp23_5 [] Fwp23_4 Bwp23_2 S1 r1 ?_)
 intro _ _ r2 _
 refine (dorder_q (h.below r2.first).lo (h'.below r2.first).hi (by omega) (tb hT r2)).mono ?_
 rintro _ V1 ⟨rfl, k1⟩
 refine ⟨[.int .i64 (cmpQ (a) (d))], rfl, rfl, rfl, k1, ?_⟩
 refine ⟨fun c3 => ?_, fun c3 => ?_⟩
 · replace c3 := yv (b := decide ((cmpQ (a) (d)) ≤ 0)) c3
   intro W4 g4 r4 _
   refine (dorder_q (h'.below r4.first).lo (h.below r4.first).hi (by omega) (tb hT r4)).mono ?_
   rintro _ V2 ⟨rfl, k2⟩
   refine ⟨[.int .i64 (cmpQ (c) (b))], rfl, rfl, rfl, k2, ?_⟩
   intro _ _ _ r5 S5
   exact rt S5 [.bool (if decide ((cmpQ (a) (d)) ≤ 0) then decide ((cmpQ (c) (b)) ≤ 0) else false)] (⟨by rw [cmp_le h1, cmp_le h2]; rfl, r5.first⟩)
 · replace c3 := yn (b := decide ((cmpQ (a) (d)) ≤ 0)) c3
   intro _ g4 W4 r4 S4
   exact rt S4 [.bool (if decide ((cmpQ (a) (d)) ≤ 0) then decide (0 ≤ 0) else false)] ((by rw [cmp_le h1] at c3; cases c3))
def Fwp22_0 := [ig 0, U, U, U, U, U, U, U, U, U, U, U, U, U, U, U, U, U, U, U, U, U, U, U, U, U, U]
def Fwp22_1 := fs Fwp22_0 [(1, ps 0 0), (2, li 0), (3, lb false)]
def Bwp22_2 := [bb 28 (i6 0)]
def Rwp22_3 : Rg := ⟨3, 6, 0, Fwp22_0, Bwp22_2, [pa 0 0, pv (li 0) 0, pv (lb false) 0], []⟩
def Fwp22_4 := fs Fwp22_1 [(6, ig 0), (7, vb 6), (8, f1 noF (vb 6))]
def Rwp22_5 : Rg := ⟨3, 6, 1, Fwp22_1, Bwp22_2, [pl (ig 0) 0 0 0, pc (vb 6) 0 48 [ig 0] 1, pv (f1 noF (vb 6)) 1], [1]⟩
def Fwp22_6 := fs Fwp22_4 [(4, vi 7), (5, vi 8), (9, ps 0 0), (10, dg 0), (11, vi 7), (12, ps 0 3), (13, dg 3), (14, vi 8)]
def Rwp22_7 : Rg := ⟨8, 7, 1, Fwp22_4, Bwp22_2, [pv (ps 0 0) 0, pl (dg 0) 0 0 0, pc (vi 7) 0 49 [dg 0] 1, pv (ps 0 3) 0, pl (dg 3) 0 0 3, pc (vi 8) 1 49 [dg 3] 1, pv (vi 7) 2, pv (vi 8) 2], [2, 5]⟩
def Fwp22_8 := fs Fwp22_6 [(15, bo .gtr (vi 7) (li 0)), (16, vi 7), (17, bo .gtr (vi 7) (li 0))]
def Rwp22_9 : Rg := ⟨3, 9, 1, Fwp22_6, Bwp22_2, [pv (vi 7) 0, pv (bo .gtr (vi 7) (li 0)) 0, pv (bo .gtr (vi 7) (li 0)) 0], []⟩
def Fwp22_10 := fs Fwp22_8 [(2, li 1), (3, lb true)]
def Rwp22_11 : Rg := ⟨2, 9, 1, Fwp22_8, Bwp22_2, [pv (li 1) 0, pv (lb true) 0], []⟩
def Fwp22_12 := fs Fwp22_8 [(18, bo .lss (vi 8) (li 0)), (19, vi 8), (20, bo .lss (vi 8) (li 0))]
def Rwp22_13 : Rg := ⟨3, 9, 1, Fwp22_8, Bwp22_2, [pv (vi 8) 0, pv (bo .lss (vi 8) (li 0)) 0, pv (bo .lss (vi 8) (li 0)) 0], []⟩
def Fwp22_14 := fs Fwp22_12 [(2, li (-1)), (3, lb true)]
def Rwp22_15 : Rg := ⟨2, 9, 1, Fwp22_12, Bwp22_2, [pv (li (-1)) 0, pv (lb true) 0], []⟩
def Fwp22_16 := fs Fwp22_12 [(3, pk (bo .eql (vi 7) (li 0)) (bo .eql (vi 8) (li 0)) (lb false)), (21, vi 7), (22, bo .eql (vi 7) (li 0)), (23, bo .eql (vi 7) (li 0)), (24, gd true (bo .eql (vi 7) (li 0)) (vi 8)), (25, gd true (bo .eql (vi 7) (li 0)) (bo .eql (vi 8) (li 0))), (26, pk (bo .eql (vi 7) (li 0)) (bo .eql (vi 8) (li 0)) (lb false))]
def Rwp22_17 : Rg := ⟨8, 9, 1, Fwp22_12, Bwp22_2, [pv (vi 7) 0, pv (bo .eql (vi 7) (li 0)) 0, pv (bo .eql (vi 7) (li 0)) 0, ⟨vi 8, 0, [], .val, gd true (bo .eql (vi 7) (li 0)) (vi 8)⟩, ⟨bo .eql (vi 8) (li 0), 0, [], .val, gd true (bo .eql (vi 7) (li 0)) (bo .eql (vi 8) (li 0))⟩, ⟨pk (bo .eql (vi 7) (li 0)) (bo .eql (vi 8) (li 0)) (lb false), 0, [], .pk, pk (bo .eql (vi 7) (li 0)) (bo .eql (vi 8) (li 0)) (lb false)⟩, pv (li 0) 0, pv (pk (bo .eql (vi 7) (li 0)) (bo .eql (vi 8) (li 0)) (lb false)) 0], []⟩
theorem isign_q {v : Value} {a b : Rat} {N : Nat} {w : World} (h : CI w v a b N) (ha : FitQ a) (hb : FitQ b) (hab : a ≤ b) (hs : sgnQ a = sgnQ b) (hN : N ≤ 33554432) (hT : TB w) :
 Calls Tryz.prog 22 #[v] w fun en w' => en = .returned (.tuple #[.int .i64 (sgnQ a), .bool true]) ∧ BL w w' := by
 obtain ⟨b0, A0, n0, c0, x0, d0, B0, m0, e0, y0, rfl⟩ := h.ex
 refine fn_enter (u := 64) (fn := Tryz.f22) Tryz.func22 rfl Fwp22_0 [.bool b0, .slice A0 n0 c0, .int .i64 x0, .bool d0, .slice B0 m0 e0, .int .i64 y0] (by kernel_rfl) rfl (fun a0 S0 r0 => ?_)
 refine wp_seq (rk Rwp22_3 [] Fwp22_1 Bwp22_2 S0 r0 ?_)
 intro _ _ _ r1 S1
 refine wp_seq ?_
 refine wp_seq (rk Rwp22_5 [] Fwp22_4 Bwp22_2 S1 r1 ?_)
 intro _ _ r2 _
 refine (right_q (h.below r2.first) hN (tb hT r2)).mono ?_
 rintro _ V1 ⟨r, rfl, hr, k1⟩
 obtain rfl : r = true := hr.2 ⟨ha, hb, hab⟩
 refine ⟨[.bool true], rfl, rfl, rfl, k1, ?_⟩
 intro _ _ _ r3 S3
 refine wp_cond_split (t := !true) (S3.cnd (by kernel_rfl)) (fun q1 => ?_) (fun q1 => ?_)
 · cases q1
 · refine wp_skip ?_
   refine wp_seq (rk Rwp22_7 [] Fwp22_6 Bwp22_2 S3 r3 ?_)
   intro _ _ r4 _
   refine (sign_q (h.below r4.first).lo (by omega)).mono ?_
   rintro _ V2 ⟨rfl, k2⟩
   refine ⟨[.int .i64 (sgnQ a)], rfl, rfl, rfl, k2, ?_⟩
   intro _ _ r5 _
   refine (sign_q (h.below r5.first).hi (by omega)).mono ?_
   rintro _ V3 ⟨rfl, k3⟩
   rw [← hs]
   refine ⟨[.int .i64 (sgnQ a)], rfl, rfl, rfl, k3, ?_⟩
   intro _ _ _ r6 S6
   refine wp_seq ?_
   refine wp_block ?_
   refine wp_seq (rk Rwp22_9 [] Fwp22_8 Bwp22_2 S6 r6 ?_)
   intro _ _ _ r7 S7
   refine wp_cond_split (t := decide ((sgnQ a) > 0)) (S7.cnd (by kernel_rfl)) (fun q2 => ?_) (fun q2 => ?_)
   · refine wp_seq (rk Rwp22_11 [] Fwp22_10 Bwp22_2 S7 r7 ?_)
     intro a8 g8 W8 r8 S8
     exact wp_ret (blk_ret (then_ret (ret_ok S8 [.int .i64 1, .bool true] (by kernel_rfl) (⟨by rw [sgn_one q2]; rfl, r8.first⟩))))
   · refine wp_seq (rk Rwp22_13 [] Fwp22_12 Bwp22_2 S7 r7 ?_)
     intro a8 g8 W8 r8 S8
     refine wp_cond_split (t := decide ((sgnQ a) < 0)) (S8.cnd (by kernel_rfl)) (fun q3 => ?_) (fun q3 => ?_)
     · refine wp_seq (rk Rwp22_15 [] Fwp22_14 Bwp22_2 S8 r8 ?_)
       intro a9 g9 W9 r9 S9
       exact wp_ret (blk_ret (then_ret (ret_ok S9 [.int .i64 (-1), .bool true] (by kernel_rfl) (⟨by rw [sgn_m1 q3]; rfl, r9.first⟩))))
     · refine wp_skip ?_
       refine wp_seq (rk Rwp22_17 [] Fwp22_16 Bwp22_2 S8 r8 ?_)
       intro a9 g9 W9 r9 S9
       exact rt S9 [.int .i64 0, .bool (if (sgnQ a) == 0 then (sgnQ a) == 0 else false)] (⟨by rw [sgn_nil q2 q3]; rfl, r9.first⟩)
def Fwp57_0 := [ig 0, vi 6, U, U, U, U, U, U, U, U, U, U, U, U, U, U, U, U, U, U, U, U, U, U, U, U, U, U, U, U, U, U, U, U, U, U, U, U, U, U, U, U, U, U, U, U, U, U, U, U, U, U, U]
def Fwp57_1 := fs Fwp57_0 [(2, ps 0 0), (4, lb false)]
def Bwp57_2 := [bb 28 (i6 0)]
def Rwp57_3 : Rg := ⟨2, 7, 0, Fwp57_0, Bwp57_2, [pa 0 0, pv (lb false) 0], []⟩
def Fwp57_4 := fs Fwp57_1 [(5, vi 7), (8, ps 0 0), (9, dg 0), (10, vi 7)]
def Rwp57_5 : Rg := ⟨4, 7, 1, Fwp57_1, Bwp57_2, [pv (ps 0 0) 0, pl (dg 0) 0 0 0, pc (vi 7) 0 49 [dg 0] 1, pv (vi 7) 1], [2]⟩
def Fwp57_6 := fs Fwp57_4 [(11, vi 7), (12, ps 0 3), (13, dg 3), (14, vi 8), (15, bo .neq (vi 7) (vi 8))]
def Rwp57_7 : Rg := ⟨5, 8, 1, Fwp57_4, Bwp57_2, [pv (vi 7) 0, pv (ps 0 3) 0, pl (dg 3) 0 0 3, pc (vi 8) 0 49 [dg 3] 1, pv (bo .neq (vi 7) (vi 8)) 1], [3]⟩
def Fwp57_8 := fs Fwp57_6 [(16, vi 7), (17, bo .eql (vi 7) (li 0))]
def Rwp57_9 : Rg := ⟨2, 9, 1, Fwp57_6, Bwp57_2, [pv (vi 7) 0, pv (bo .eql (vi 7) (li 0)) 0], []⟩
def Fwp57_10 := fs Fwp57_8 [(4, lb true)]
def Rwp57_11 : Rg := ⟨1, 9, 1, Fwp57_8, Bwp57_2, [pv (lb true) 0], []⟩
def Fwp57_12 := fs Fwp57_8 [(6, ps 1 0), (18, ps 0 0), (19, dg 0), (20, dg 9)]
def Bwp57_13 := [bb 28 (i6 0), bb 25 o3]
def Rwp57_14 : Rg := ⟨4, 9, 1, Fwp57_8, Bwp57_13, [pv (ps 0 0) 0, pl (dg 0) 0 0 0, pc (dg 9) 0 68 [dg 0] 3, pa 1 0], [2]⟩
def Bwp57_15 := [bb 28 (i6 0), bb 25 (d3 9)]
def Fwp57_16 := fs Fwp57_12 [(21, vi 7), (22, bo .lss (vi 7) (li 0))]
def Rwp57_17 : Rg := ⟨2, 12, 2, Fwp57_12, Bwp57_15, [pv (vi 7) 0, pv (bo .lss (vi 7) (li 0)) 0], []⟩
def Fwp57_18 := fs Fwp57_16 [(23, ps 0 3), (24, dg 3), (25, dg 12)]
def Rwp57_19 : Rg := ⟨3, 12, 2, Fwp57_16, Bwp57_15, [pv (ps 0 3) 0, pl (dg 3) 0 0 3, pc (dg 12) 0 68 [dg 3] 3], [2]⟩
def Bwp57_20 := [bb 28 (i6 0), bb 25 (d3 12)]
def Fwp57_21 := fs Fwp57_18 [(7, ps 2 0), (26, ps 0 3), (27, dg 3), (28, ps 0 0), (29, dg 0), (30, dg 15)]
def Bwp57_22 := [bb 28 (i6 0), bb 25 (d3 12), bb 25 o3]
def Rwp57_23 : Rg := ⟨6, 15, 2, Fwp57_18, Bwp57_22, [pv (ps 0 3) 0, pl (dg 3) 0 0 3, pv (ps 0 0) 0, pl (dg 0) 0 0 0, pc (dg 15) 0 95 [dg 3, dg 0] 3, pa 2 0], [4]⟩
def Bwp57_24 := [bb 28 (i6 0), bb 25 (d3 12), bb 25 (d3 15)]
def Fwp57_25 := fs Fwp57_21 [(31, dg 15), (32, vb 18)]
def Rwp57_26 : Rg := ⟨2, 18, 3, Fwp57_21, Bwp57_24, [pl (dg 15) 0 2 0, pc (vb 18) 0 79 [dg 15] 1], [1]⟩
def Fwp57_27 := fs Fwp57_25 [(4, lb true)]
def Rwp57_28 : Rg := ⟨1, 19, 3, Fwp57_25, Bwp57_24, [pv (lb true) 0], []⟩
def Fwp57_29 := fs Fwp57_25 [(4, pk (pk (bo .leq (vi 6) (li 1048576)) (bo .leq (bo .add (vi 19) (vi 6)) (bo .add (vi 20) (li 1))) (lb false)) (bo .leq (vi 24) (li 0)) (lb false)), (33, vi 6), (34, bo .leq (vi 6) (li 1048576)), (35, bo .leq (vi 6) (li 1048576)), (36, gd true (bo .leq (vi 6) (li 1048576)) (dg 15)), (37, gd true (bo .leq (vi 6) (li 1048576)) (vi 19)), (38, gd true (bo .leq (vi 6) (li 1048576)) (vi 6)), (39, gd true (bo .leq (vi 6) (li 1048576)) (bo .add (vi 19) (vi 6))), (40, gd true (bo .leq (vi 6) (li 1048576)) (dg 12)), (41, gd true (bo .leq (vi 6) (li 1048576)) (vi 20)), (42, gd true (bo .leq (vi 6) (li 1048576)) (bo .add (vi 20) (li 1))), (43, gd true (bo .leq (vi 6) (li 1048576)) (bo .leq (bo .add (vi 19) (vi 6)) (bo .add (vi 20) (li 1)))), (44, pk (bo .leq (vi 6) (li 1048576)) (bo .leq (bo .add (vi 19) (vi 6)) (bo .add (vi 20) (li 1))) (lb false)), (45, pk (bo .leq (vi 6) (li 1048576)) (bo .leq (bo .add (vi 19) (vi 6)) (bo .add (vi 20) (li 1))) (lb false)), (46, gd true (pk (bo .leq (vi 6) (li 1048576)) (bo .leq (bo .add (vi 19) (vi 6)) (bo .add (vi 20) (li 1))) (lb false)) (dg 15)), (47, gd true (pk (bo .leq (vi 6) (li 1048576)) (bo .leq (bo .add (vi 19) (vi 6)) (bo .add (vi 20) (li 1))) (lb false)) (vi 6)), (48, gd true (pk (bo .leq (vi 6) (li 1048576)) (bo .leq (bo .add (vi 19) (vi 6)) (bo .add (vi 20) (li 1))) (lb false)) (dg 21)), (49, gd true (pk (bo .leq (vi 6) (li 1048576)) (bo .leq (bo .add (vi 19) (vi 6)) (bo .add (vi 20) (li 1))) (lb false)) (dg 12)), (50, gd true (pk (bo .leq (vi 6) (li 1048576)) (bo .leq (bo .add (vi 19) (vi 6)) (bo .add (vi 20) (li 1))) (lb false)) (vi 24)), (51, gd true (pk (bo .leq (vi 6) (li 1048576)) (bo .leq (bo .add (vi 19) (vi 6)) (bo .add (vi 20) (li 1))) (lb false)) (bo .leq (vi 24) (li 0))), (52, pk (pk (bo .leq (vi 6) (li 1048576)) (bo .leq (bo .add (vi 19) (vi 6)) (bo .add (vi 20) (li 1))) (lb false)) (bo .leq (vi 24) (li 0)) (lb false))]
def Rwp57_30 : Rg := ⟨21, 19, 3, Fwp57_25, Bwp57_24, [pv (vi 6) 0, pv (bo .leq (vi 6) (li 1048576)) 0, pv (bo .leq (vi 6) (li 1048576)) 0, ⟨dg 15, 0, [], .ld 2 0, gd true (bo .leq (vi 6) (li 1048576)) (dg 15)⟩, ⟨vi 19, 0, [], .cl 0 80 [dg 15] 1 [], gd true (bo .leq (vi 6) (li 1048576)) (vi 19)⟩, ⟨vi 6, 0, [], .val, gd true (bo .leq (vi 6) (li 1048576)) (vi 6)⟩, ⟨bo .add (vi 19) (vi 6), 1, [], .val, gd true (bo .leq (vi 6) (li 1048576)) (bo .add (vi 19) (vi 6))⟩, ⟨dg 12, 0, [], .ld 1 0, gd true (bo .leq (vi 6) (li 1048576)) (dg 12)⟩, ⟨vi 20, 1, [], .cl 1 80 [dg 12] 1 [], gd true (bo .leq (vi 6) (li 1048576)) (vi 20)⟩, ⟨bo .add (vi 20) (li 1), 2, [], .val, gd true (bo .leq (vi 6) (li 1048576)) (bo .add (vi 20) (li 1))⟩, ⟨bo .leq (bo .add (vi 19) (vi 6)) (bo .add (vi 20) (li 1)), 2, [], .val, gd true (bo .leq (vi 6) (li 1048576)) (bo .leq (bo .add (vi 19) (vi 6)) (bo .add (vi 20) (li 1)))⟩, ⟨pk (bo .leq (vi 6) (li 1048576)) (bo .leq (bo .add (vi 19) (vi 6)) (bo .add (vi 20) (li 1))) (lb false), 2, [], .pk, pk (bo .leq (vi 6) (li 1048576)) (bo .leq (bo .add (vi 19) (vi 6)) (bo .add (vi 20) (li 1))) (lb false)⟩, pv (pk (bo .leq (vi 6) (li 1048576)) (bo .leq (bo .add (vi 19) (vi 6)) (bo .add (vi 20) (li 1))) (lb false)) 2, ⟨dg 15, 2, [], .ld 2 0, gd true (pk (bo .leq (vi 6) (li 1048576)) (bo .leq (bo .add (vi 19) (vi 6)) (bo .add (vi 20) (li 1))) (lb false)) (dg 15)⟩, ⟨vi 6, 2, [], .val, gd true (pk (bo .leq (vi 6) (li 1048576)) (bo .leq (bo .add (vi 19) (vi 6)) (bo .add (vi 20) (li 1))) (lb false)) (vi 6)⟩, ⟨dg 21, 2, [], .cl 2 96 [dg 15, vi 6] 3 [], gd true (pk (bo .leq (vi 6) (li 1048576)) (bo .leq (bo .add (vi 19) (vi 6)) (bo .add (vi 20) (li 1))) (lb false)) (dg 21)⟩, ⟨dg 12, 2, [], .ld 1 0, gd true (pk (bo .leq (vi 6) (li 1048576)) (bo .leq (bo .add (vi 19) (vi 6)) (bo .add (vi 20) (li 1))) (lb false)) (dg 12)⟩, ⟨vi 24, 3, [], .cl 3 67 [dg 21, dg 12] 1 [], gd true (pk (bo .leq (vi 6) (li 1048576)) (bo .leq (bo .add (vi 19) (vi 6)) (bo .add (vi 20) (li 1))) (lb false)) (vi 24)⟩, ⟨bo .leq (vi 24) (li 0), 4, [], .val, gd true (pk (bo .leq (vi 6) (li 1048576)) (bo .leq (bo .add (vi 19) (vi 6)) (bo .add (vi 20) (li 1))) (lb false)) (bo .leq (vi 24) (li 0))⟩, ⟨pk (pk (bo .leq (vi 6) (li 1048576)) (bo .leq (bo .add (vi 19) (vi 6)) (bo .add (vi 20) (li 1))) (lb false)) (bo .leq (vi 24) (li 0)) (lb false), 4, [], .pk, pk (pk (bo .leq (vi 6) (li 1048576)) (bo .leq (bo .add (vi 19) (vi 6)) (bo .add (vi 20) (li 1))) (lb false)) (bo .leq (vi 24) (li 0)) (lb false)⟩, pv (pk (pk (bo .leq (vi 6) (li 1048576)) (bo .leq (bo .add (vi 19) (vi 6)) (bo .add (vi 20) (li 1))) (lb false)) (bo .leq (vi 24) (li 0)) (lb false)) 4], [4, 8, 15, 17]⟩
def Fwp57_31 := fs Fwp57_16 [(7, ps 2 0), (26, ps 0 3), (27, dg 3), (28, ps 0 0), (29, dg 0), (30, dg 12)]
def Bwp57_32 := [bb 28 (i6 0), bb 25 (d3 9), bb 25 o3]
def Rwp57_33 : Rg := ⟨6, 12, 2, Fwp57_16, Bwp57_32, [pv (ps 0 3) 0, pl (dg 3) 0 0 3, pv (ps 0 0) 0, pl (dg 0) 0 0 0, pc (dg 12) 0 95 [dg 3, dg 0] 3, pa 2 0], [4]⟩
def Bwp57_34 := [bb 28 (i6 0), bb 25 (d3 9), bb 25 (d3 12)]
def Fwp57_35 := fs Fwp57_31 [(31, dg 12), (32, vb 15)]
def Rwp57_36 : Rg := ⟨2, 15, 3, Fwp57_31, Bwp57_34, [pl (dg 12) 0 2 0, pc (vb 15) 0 79 [dg 12] 1], [1]⟩
def Fwp57_37 := fs Fwp57_35 [(4, lb true)]
def Rwp57_38 : Rg := ⟨1, 16, 3, Fwp57_35, Bwp57_34, [pv (lb true) 0], []⟩
def Fwp57_39 := fs Fwp57_35 [(4, pk (pk (bo .leq (vi 6) (li 1048576)) (bo .leq (bo .add (vi 16) (vi 6)) (bo .add (vi 17) (li 1))) (lb false)) (bo .leq (vi 21) (li 0)) (lb false)), (33, vi 6), (34, bo .leq (vi 6) (li 1048576)), (35, bo .leq (vi 6) (li 1048576)), (36, gd true (bo .leq (vi 6) (li 1048576)) (dg 12)), (37, gd true (bo .leq (vi 6) (li 1048576)) (vi 16)), (38, gd true (bo .leq (vi 6) (li 1048576)) (vi 6)), (39, gd true (bo .leq (vi 6) (li 1048576)) (bo .add (vi 16) (vi 6))), (40, gd true (bo .leq (vi 6) (li 1048576)) (dg 9)), (41, gd true (bo .leq (vi 6) (li 1048576)) (vi 17)), (42, gd true (bo .leq (vi 6) (li 1048576)) (bo .add (vi 17) (li 1))), (43, gd true (bo .leq (vi 6) (li 1048576)) (bo .leq (bo .add (vi 16) (vi 6)) (bo .add (vi 17) (li 1)))), (44, pk (bo .leq (vi 6) (li 1048576)) (bo .leq (bo .add (vi 16) (vi 6)) (bo .add (vi 17) (li 1))) (lb false)), (45, pk (bo .leq (vi 6) (li 1048576)) (bo .leq (bo .add (vi 16) (vi 6)) (bo .add (vi 17) (li 1))) (lb false)), (46, gd true (pk (bo .leq (vi 6) (li 1048576)) (bo .leq (bo .add (vi 16) (vi 6)) (bo .add (vi 17) (li 1))) (lb false)) (dg 12)), (47, gd true (pk (bo .leq (vi 6) (li 1048576)) (bo .leq (bo .add (vi 16) (vi 6)) (bo .add (vi 17) (li 1))) (lb false)) (vi 6)), (48, gd true (pk (bo .leq (vi 6) (li 1048576)) (bo .leq (bo .add (vi 16) (vi 6)) (bo .add (vi 17) (li 1))) (lb false)) (dg 18)), (49, gd true (pk (bo .leq (vi 6) (li 1048576)) (bo .leq (bo .add (vi 16) (vi 6)) (bo .add (vi 17) (li 1))) (lb false)) (dg 9)), (50, gd true (pk (bo .leq (vi 6) (li 1048576)) (bo .leq (bo .add (vi 16) (vi 6)) (bo .add (vi 17) (li 1))) (lb false)) (vi 21)), (51, gd true (pk (bo .leq (vi 6) (li 1048576)) (bo .leq (bo .add (vi 16) (vi 6)) (bo .add (vi 17) (li 1))) (lb false)) (bo .leq (vi 21) (li 0))), (52, pk (pk (bo .leq (vi 6) (li 1048576)) (bo .leq (bo .add (vi 16) (vi 6)) (bo .add (vi 17) (li 1))) (lb false)) (bo .leq (vi 21) (li 0)) (lb false))]
def Rwp57_40 : Rg := ⟨21, 16, 3, Fwp57_35, Bwp57_34, [pv (vi 6) 0, pv (bo .leq (vi 6) (li 1048576)) 0, pv (bo .leq (vi 6) (li 1048576)) 0, ⟨dg 12, 0, [], .ld 2 0, gd true (bo .leq (vi 6) (li 1048576)) (dg 12)⟩, ⟨vi 16, 0, [], .cl 0 80 [dg 12] 1 [], gd true (bo .leq (vi 6) (li 1048576)) (vi 16)⟩, ⟨vi 6, 0, [], .val, gd true (bo .leq (vi 6) (li 1048576)) (vi 6)⟩, ⟨bo .add (vi 16) (vi 6), 1, [], .val, gd true (bo .leq (vi 6) (li 1048576)) (bo .add (vi 16) (vi 6))⟩, ⟨dg 9, 0, [], .ld 1 0, gd true (bo .leq (vi 6) (li 1048576)) (dg 9)⟩, ⟨vi 17, 1, [], .cl 1 80 [dg 9] 1 [], gd true (bo .leq (vi 6) (li 1048576)) (vi 17)⟩, ⟨bo .add (vi 17) (li 1), 2, [], .val, gd true (bo .leq (vi 6) (li 1048576)) (bo .add (vi 17) (li 1))⟩, ⟨bo .leq (bo .add (vi 16) (vi 6)) (bo .add (vi 17) (li 1)), 2, [], .val, gd true (bo .leq (vi 6) (li 1048576)) (bo .leq (bo .add (vi 16) (vi 6)) (bo .add (vi 17) (li 1)))⟩, ⟨pk (bo .leq (vi 6) (li 1048576)) (bo .leq (bo .add (vi 16) (vi 6)) (bo .add (vi 17) (li 1))) (lb false), 2, [], .pk, pk (bo .leq (vi 6) (li 1048576)) (bo .leq (bo .add (vi 16) (vi 6)) (bo .add (vi 17) (li 1))) (lb false)⟩, pv (pk (bo .leq (vi 6) (li 1048576)) (bo .leq (bo .add (vi 16) (vi 6)) (bo .add (vi 17) (li 1))) (lb false)) 2, ⟨dg 12, 2, [], .ld 2 0, gd true (pk (bo .leq (vi 6) (li 1048576)) (bo .leq (bo .add (vi 16) (vi 6)) (bo .add (vi 17) (li 1))) (lb false)) (dg 12)⟩, ⟨vi 6, 2, [], .val, gd true (pk (bo .leq (vi 6) (li 1048576)) (bo .leq (bo .add (vi 16) (vi 6)) (bo .add (vi 17) (li 1))) (lb false)) (vi 6)⟩, ⟨dg 18, 2, [], .cl 2 96 [dg 12, vi 6] 3 [], gd true (pk (bo .leq (vi 6) (li 1048576)) (bo .leq (bo .add (vi 16) (vi 6)) (bo .add (vi 17) (li 1))) (lb false)) (dg 18)⟩, ⟨dg 9, 2, [], .ld 1 0, gd true (pk (bo .leq (vi 6) (li 1048576)) (bo .leq (bo .add (vi 16) (vi 6)) (bo .add (vi 17) (li 1))) (lb false)) (dg 9)⟩, ⟨vi 21, 3, [], .cl 3 67 [dg 18, dg 9] 1 [], gd true (pk (bo .leq (vi 6) (li 1048576)) (bo .leq (bo .add (vi 16) (vi 6)) (bo .add (vi 17) (li 1))) (lb false)) (vi 21)⟩, ⟨bo .leq (vi 21) (li 0), 4, [], .val, gd true (pk (bo .leq (vi 6) (li 1048576)) (bo .leq (bo .add (vi 16) (vi 6)) (bo .add (vi 17) (li 1))) (lb false)) (bo .leq (vi 21) (li 0))⟩, ⟨pk (pk (bo .leq (vi 6) (li 1048576)) (bo .leq (bo .add (vi 16) (vi 6)) (bo .add (vi 17) (li 1))) (lb false)) (bo .leq (vi 21) (li 0)) (lb false), 4, [], .pk, pk (pk (bo .leq (vi 6) (li 1048576)) (bo .leq (bo .add (vi 16) (vi 6)) (bo .add (vi 17) (li 1))) (lb false)) (bo .leq (vi 21) (li 0)) (lb false)⟩, pv (pk (pk (bo .leq (vi 6) (li 1048576)) (bo .leq (bo .add (vi 16) (vi 6)) (bo .add (vi 17) (li 1))) (lb false)) (bo .leq (vi 21) (li 0)) (lb false)) 4], [4, 8, 15, 17]⟩
def Fwp28_0 := [ig 0, vi 6, U, U, U, U, U, U, U, U, U, U, U, U, U, U]
def Fwp28_1 := fs Fwp28_0 [(2, ps 0 0), (4, lb false)]
def Bwp28_2 := [bb 28 (i6 0)]
def Rwp28_3 : Rg := ⟨2, 7, 0, Fwp28_0, Bwp28_2, [pa 0 0, pv (lb false) 0], []⟩
def Fwp28_4 := fs Fwp28_1 [(4, pk (pk (bo .geq (vi 6) (li 0)) (vb 7) (lb false)) (vb 8) (lb false)), (5, vi 6), (6, bo .geq (vi 6) (li 0)), (7, bo .geq (vi 6) (li 0)), (8, gd true (bo .geq (vi 6) (li 0)) (ig 0)), (9, gd true (bo .geq (vi 6) (li 0)) (vb 7)), (10, pk (bo .geq (vi 6) (li 0)) (vb 7) (lb false)), (11, pk (bo .geq (vi 6) (li 0)) (vb 7) (lb false)), (12, gd true (pk (bo .geq (vi 6) (li 0)) (vb 7) (lb false)) (ig 0)), (13, gd true (pk (bo .geq (vi 6) (li 0)) (vb 7) (lb false)) (vi 6)), (14, gd true (pk (bo .geq (vi 6) (li 0)) (vb 7) (lb false)) (vb 8)), (15, pk (pk (bo .geq (vi 6) (li 0)) (vb 7) (lb false)) (vb 8) (lb false))]
def Rwp28_5 : Rg := ⟨12, 7, 1, Fwp28_1, Bwp28_2, [pv (vi 6) 0, pv (bo .geq (vi 6) (li 0)) 0, pv (bo .geq (vi 6) (li 0)) 0, ⟨ig 0, 0, [], .ld 0 0, gd true (bo .geq (vi 6) (li 0)) (ig 0)⟩, ⟨vb 7, 0, [], .cl 0 48 [ig 0] 1 [], gd true (bo .geq (vi 6) (li 0)) (vb 7)⟩, ⟨pk (bo .geq (vi 6) (li 0)) (vb 7) (lb false), 1, [], .pk, pk (bo .geq (vi 6) (li 0)) (vb 7) (lb false)⟩, pv (pk (bo .geq (vi 6) (li 0)) (vb 7) (lb false)) 1, ⟨ig 0, 1, [], .ld 0 0, gd true (pk (bo .geq (vi 6) (li 0)) (vb 7) (lb false)) (ig 0)⟩, ⟨vi 6, 1, [], .val, gd true (pk (bo .geq (vi 6) (li 0)) (vb 7) (lb false)) (vi 6)⟩, ⟨vb 8, 1, [], .cl 1 57 [ig 0, vi 6] 1 [], gd true (pk (bo .geq (vi 6) (li 0)) (vb 7) (lb false)) (vb 8)⟩, ⟨pk (pk (bo .geq (vi 6) (li 0)) (vb 7) (lb false)) (vb 8) (lb false), 2, [], .pk, pk (pk (bo .geq (vi 6) (li 0)) (vb 7) (lb false)) (vb 8) (lb false)⟩, pv (pk (pk (bo .geq (vi 6) (li 0)) (vb 7) (lb false)) (vb 8) (lb false)) 2], [4, 9]⟩
def Fwf1_19_0 : List Sy := [osl (ps 0 0) 1, U, U, U, U, U, U, U, U, U, U, U, U, U, U, U]
def Fwf1_19_1 := fs Fwf1_19_0 [(2, lb false)]
def Bwf1_19_2 := [rb 28 (i6 0)]
def Rwf1_19_3 : Rg := ⟨1, 6, 1, Fwf1_19_0, Bwf1_19_2, [pv (lb false) 0], []⟩
def Fwf1_19_4 := fs Fwf1_19_1 [(3, li 0)]
def Rwf1_19_5 : Rg := ⟨1, 6, 1, Fwf1_19_1, Bwf1_19_2, [pv (li 0) 0], []⟩
def Lwf1_19_6 (jj1 : List Value) : List Sy := [osl (ps 0 0) 1, U, jw jj1 0, li 0, jw jj1 1, jw jj1 2, jw jj1 3, jw jj1 4, jw jj1 5, jw jj1 6, jw jj1 7, jw jj1 8, jw jj1 9, jw jj1 10, jw jj1 11, jw jj1 12]
def Lwf1_19_7 (jj1 : List Value) := fs (Lwf1_19_6 jj1) [(3, li 1)]
def Jwf1_19_8 : List Nat := [2, 4, 5, 6, 7, 8, 9, 10, 11, 12, 13, 14, 15]
def Fwf1_19_9 (jj1 : List Value) := fs (Lwf1_19_6 jj1) [(4, li 0), (5, osl (ps 0 0) 1), (6, li 1), (7, lb true)]
def Rwf1_19_10 (jj1 : List Value) : Rg := ⟨4, 6, 1, (Lwf1_19_6 jj1), Bwf1_19_2, [pv (li 0) 0, pv (osl (ps 0 0) 1) 0, pv (li 1) 0, pv (lb true) 0], []⟩
def Fwf1_19_11 (jj1 : List Value) := fs (Fwf1_19_9 jj1) [(10, osl (ps 0 0) 1), (11, li 0), (12, ps 0 0), (13, ig 0), (14, vb 6), (15, f1 noF (vb 6))]
def Rwf1_19_12 (jj1 : List Value) : Rg := ⟨6, 6, 1, (Fwf1_19_9 jj1), Bwf1_19_2, [pv (osl (ps 0 0) 1) 0, pv (li 0) 0, pv (ps 0 0) 0, pl (ig 0) 0 0 0, pc (vb 6) 0 45 [ig 0] 1, pv (f1 noF (vb 6)) 1], [4]⟩
def Fwf1_19_13 (jj1 : List Value) := fs (Fwf1_19_11 jj1) [(3, li 1), (8, li 0), (9, li 1)]
def Rwf1_19_14 (jj1 : List Value) : Rg := ⟨2, 7, 1, (Fwf1_19_11 jj1), Bwf1_19_2, [pv (li 0) 0, pv (li 1) 0], []⟩
def Fwf1_19_15 (jj1 : List Value) := fs (Lwf1_19_7 jj1) [(4, li 1), (5, osl (ps 0 0) 1), (6, li 1), (7, lb false)]
def Rwf1_19_16 (jj1 : List Value) : Rg := ⟨4, 6, 1, (Lwf1_19_7 jj1), Bwf1_19_2, [pv (li 1) 0, pv (osl (ps 0 0) 1) 0, pv (li 1) 0, pv (lb false) 0], []⟩
def Fwf1_19_17 (jj1 : List Value) := fs (Fwf1_19_15 jj1) [(2, lb true)]
def Rwf1_19_18 (jj1 : List Value) : Rg := ⟨1, 6, 1, (Fwf1_19_15 jj1), Bwf1_19_2, [pv (lb true) 0], []⟩
def Fwf2_19_0 : List Sy := [osl (ps 0 0) 2, U, U, U, U, U, U, U, U, U, U, U, U, U, U, U]
def Fwf2_19_1 := fs Fwf2_19_0 [(2, lb false)]
def Bwf2_19_2 := [rb 28 [vb 0, vs 1, vi 2, vb 3, vs 4, vi 5, vb 6, vs 7, vi 8, vb 9, vs 10, vi 11]]
def Rwf2_19_3 : Rg := ⟨1, 12, 1, Fwf2_19_0, Bwf2_19_2, [pv (lb false) 0], []⟩
def Fwf2_19_4 := fs Fwf2_19_1 [(3, li 0)]
def Rwf2_19_5 : Rg := ⟨1, 12, 1, Fwf2_19_1, Bwf2_19_2, [pv (li 0) 0], []⟩
def Lwf2_19_6 (jj1 : List Value) : List Sy := [osl (ps 0 0) 2, U, jw jj1 0, li 0, jw jj1 1, jw jj1 2, jw jj1 3, jw jj1 4, jw jj1 5, jw jj1 6, jw jj1 7, jw jj1 8, jw jj1 9, jw jj1 10, jw jj1 11, jw jj1 12]
def Lwf2_19_7 (jj1 : List Value) := fs (Lwf2_19_6 jj1) [(3, li 1)]
def Lwf2_19_8 (jj1 : List Value) := fs (Lwf2_19_6 jj1) [(3, li 2)]
def Jwf2_19_9 : List Nat := [2, 4, 5, 6, 7, 8, 9, 10, 11, 12, 13, 14, 15]
def Fwf2_19_10 (jj1 : List Value) := fs (Lwf2_19_6 jj1) [(4, li 0), (5, osl (ps 0 0) 2), (6, li 2), (7, lb true)]
def Rwf2_19_11 (jj1 : List Value) : Rg := ⟨4, 12, 1, (Lwf2_19_6 jj1), Bwf2_19_2, [pv (li 0) 0, pv (osl (ps 0 0) 2) 0, pv (li 2) 0, pv (lb true) 0], []⟩
def Fwf2_19_12 (jj1 : List Value) := fs (Fwf2_19_10 jj1) [(10, osl (ps 0 0) 2), (11, li 0), (12, ps 0 0), (13, ig 0), (14, vb 12), (15, f1 noF (vb 12))]
def Rwf2_19_13 (jj1 : List Value) : Rg := ⟨6, 12, 1, (Fwf2_19_10 jj1), Bwf2_19_2, [pv (osl (ps 0 0) 2) 0, pv (li 0) 0, pv (ps 0 0) 0, pl (ig 0) 0 0 0, pc (vb 12) 0 45 [ig 0] 1, pv (f1 noF (vb 12)) 1], [4]⟩
def Fwf2_19_14 (jj1 : List Value) := fs (Fwf2_19_12 jj1) [(3, li 1), (8, li 0), (9, li 1)]
def Rwf2_19_15 (jj1 : List Value) : Rg := ⟨2, 13, 1, (Fwf2_19_12 jj1), Bwf2_19_2, [pv (li 0) 0, pv (li 1) 0], []⟩
def Fwf2_19_16 (jj1 : List Value) := fs (Lwf2_19_7 jj1) [(4, li 1), (5, osl (ps 0 0) 2), (6, li 2), (7, lb true)]
def Rwf2_19_17 (jj1 : List Value) : Rg := ⟨4, 12, 1, (Lwf2_19_7 jj1), Bwf2_19_2, [pv (li 1) 0, pv (osl (ps 0 0) 2) 0, pv (li 2) 0, pv (lb true) 0], []⟩
def Fwf2_19_18 (jj1 : List Value) := fs (Fwf2_19_16 jj1) [(10, osl (ps 0 0) 2), (11, li 1), (12, ps 0 6), (13, ig 6), (14, vb 12), (15, f1 noF (vb 12))]
def Rwf2_19_19 (jj1 : List Value) : Rg := ⟨6, 12, 1, (Fwf2_19_16 jj1), Bwf2_19_2, [pv (osl (ps 0 0) 2) 0, pv (li 1) 0, pv (ps 0 6) 0, pl (ig 6) 0 0 6, pc (vb 12) 0 45 [ig 6] 1, pv (f1 noF (vb 12)) 1], [4]⟩
def Fwf2_19_20 (jj1 : List Value) := fs (Fwf2_19_18 jj1) [(3, li 2), (8, li 1), (9, li 2)]
def Rwf2_19_21 (jj1 : List Value) : Rg := ⟨2, 13, 1, (Fwf2_19_18 jj1), Bwf2_19_2, [pv (li 1) 0, pv (li 2) 0], []⟩
def Fwf2_19_22 (jj1 : List Value) := fs (Lwf2_19_8 jj1) [(4, li 2), (5, osl (ps 0 0) 2), (6, li 2), (7, lb false)]
def Rwf2_19_23 (jj1 : List Value) : Rg := ⟨4, 12, 1, (Lwf2_19_8 jj1), Bwf2_19_2, [pv (li 2) 0, pv (osl (ps 0 0) 2) 0, pv (li 2) 0, pv (lb false) 0], []⟩
def Fwf2_19_24 (jj1 : List Value) := fs (Fwf2_19_22 jj1) [(2, lb true)]
def Rwf2_19_25 (jj1 : List Value) : Rg := ⟨1, 12, 1, (Fwf2_19_22 jj1), Bwf2_19_2, [pv (lb true) 0], []⟩
theorem fine_2 {bp0 dp0 bp1 dp1 : Bool} {Ap0 Bp0 Ap1 Bp1 : Option Addr} {np0 cp0 mp0 ep0 np1 cp1 mp1 ep1 : Nat} {xp0 yp0 xp1 yp1 : Int} {ql0 qu0 ql1 qu1 : Rat} {N g0 : Nat} {w : World} (hrow : w.heap[g0]? = some (.cells #[.bool bp0, .slice Ap0 np0 cp0, .int .i64 xp0, .bool dp0, .slice Bp0 mp0 ep0, .int .i64 yp0, .bool bp1, .slice Ap1 np1 cp1, .int .i64 xp1, .bool dp1, .slice Bp1 mp1 ep1, .int .i64 yp1] 28 (0, 0))) (h0 : CI w (.agg #[.bool bp0, .slice Ap0 np0 cp0, .int .i64 xp0, .bool dp0, .slice Bp0 mp0 ep0, .int .i64 yp0]) ql0 qu0 N) (f0 : FitQ ql0 ∧ FitQ qu0 ∧ ql0 ≤ qu0) (h1 : CI w (.agg #[.bool bp1, .slice Ap1 np1 cp1, .int .i64 xp1, .bool dp1, .slice Bp1 mp1 ep1, .int .i64 yp1]) ql1 qu1 N) (f1 : FitQ ql1 ∧ FitQ qu1 ∧ ql1 ≤ qu1) (hN : N ≤ 16777215) (hT : TB w) :
 Calls Tryz.prog 19 #[.slice (some ⟨g0, 0, none⟩) 2 2] w fun en' w' => en' = .returned (.bool true) ∧ BL w w' := by
 refine fn_enter2 (u := 64) (fn := Tryz.f19) Tryz.func19 rfl Fwf2_19_0 [rb 28 [vb 0, vs 1, vi 2, vb 3, vs 4, vi 5, vb 6, vs 7, vi 8, vb 9, vs 10, vi 11]] [.bool bp0, .slice Ap0 np0 cp0, .int .i64 xp0, .bool dp0, .slice Bp0 mp0 ep0, .int .i64 yp0, .bool bp1, .slice Ap1 np1 cp1, .int .i64 xp1, .bool dp1, .slice Bp1 mp1 ep1, .int .i64 yp1] (fun _ => g0) (by kernel_rfl) rfl rfl (by
  intro b x hx
  match b, hx with
  | 0, hx => injection hx with hx; subst hx; exact hrow
  | b + 1, hx => simp at hx) (fun a0 S0 r0 => ?_)
 refine wp_seq (rk Rwf2_19_3 [] Fwf2_19_1 Bwf2_19_2 S0 r0 ?_)
 intro _ _ _ r1 S1
 refine wp_seq ?_
 refine wp_seq (rk Rwf2_19_5 [] Fwf2_19_4 Bwf2_19_2 S1 r1 ?_)
 intro _ _ _ r2 S2
 refine wp_block ?_
 refine wp_loop_n (fun n a W => match n with | 2 => ∃ (jj1 : List Value) (g : Nat → Nat), BL w W ∧ St w (Lwf2_19_6 jj1) Bwf2_19_2 [.bool bp0, .slice Ap0 np0 cp0, .int .i64 xp0, .bool dp0, .slice Bp0 mp0 ep0, .int .i64 yp0, .bool bp1, .slice Ap1 np1 cp1, .int .i64 xp1, .bool dp1, .slice Bp1 mp1 ep1, .int .i64 yp1] g a W | 1 => ∃ (jj1 : List Value) (g : Nat → Nat), BL w W ∧ St w (Lwf2_19_7 jj1) Bwf2_19_2 [.bool bp0, .slice Ap0 np0 cp0, .int .i64 xp0, .bool dp0, .slice Bp0 mp0 ep0, .int .i64 yp0, .bool bp1, .slice Ap1 np1 cp1, .int .i64 xp1, .bool dp1, .slice Bp1 mp1 ep1, .int .i64 yp1] g a W | 0 => ∃ (jj1 : List Value) (g : Nat → Nat), BL w W ∧ St w (Lwf2_19_8 jj1) Bwf2_19_2 [.bool bp0, .slice Ap0 np0 cp0, .int .i64 xp0, .bool dp0, .slice Bp0 mp0 ep0, .int .i64 yp0, .bool bp1, .slice Ap1 np1 cp1, .int .i64 xp1, .bool dp1, .slice Bp1 mp1 ep1, .int .i64 yp1] g a W | _ => False) (n := 2) ⟨jv S2 Jwf2_19_9, _, r2.first, St.to S2 [0] (by kernel_rfl) (by kernel_rfl) (by decide) rfl⟩ ?_
 intro n a W hI
 match n, hI with
 | 2, hI =>
   obtain ⟨jj1, g3, b3, S3⟩ := hI
   have r3 : Reach 64 w [W] W := .of_below b3
   refine wp_seq ?_
   refine wp_seq (rk (Rwf2_19_11 jj1) [] (Fwf2_19_10 jj1) Bwf2_19_2 S3 r3 ?_)
   intro a4 g4 W4 r4 S4
   refine wp_cond_true (S4.cnd (by kernel_rfl)) ?_
   refine wp_skip ?_
   refine wp_seq ?_
   refine wp_block ?_
   refine wp_seq (rk (Rwf2_19_13 jj1) [] (Fwf2_19_12 jj1) Bwf2_19_2 S4 r4 ?_)
   intro W5 g5 r5 _
   refine (dright_i (h0.below r5.first) hN (tb hT r5)).mono ?_
   rintro _ V1 ⟨r, rfl, hr, k1⟩
   obtain rfl : r = true := hr.2 f0
   refine ⟨[.bool true], rfl, rfl, rfl, k1, ?_⟩
   intro a6 g6 W6 r6 S6
   refine wp_cond_split (t := !true) (S6.cnd (by kernel_rfl)) (fun q1 => ?_) (fun q1 => ?_)
   · cases q1
   · refine wp_skip ?_
     refine rk (Rwf2_19_15 jj1) [.mv (li 1)] (Fwf2_19_14 jj1) Bwf2_19_2 S6 r6 ?_
     intro a7 g7 W7 r7 S7
     exact ⟨1, by omega, jv S7 Jwf2_19_9, _, r7.first, St.to S7 [0] (by kernel_rfl) (by kernel_rfl) (by decide) rfl⟩
 | 1, hI =>
   obtain ⟨jj1, g3, b3, S3⟩ := hI
   have r3 : Reach 64 w [W] W := .of_below b3
   refine wp_seq ?_
   refine wp_seq (rk (Rwf2_19_17 jj1) [] (Fwf2_19_16 jj1) Bwf2_19_2 S3 r3 ?_)
   intro a4 g4 W4 r4 S4
   refine wp_cond_true (S4.cnd (by kernel_rfl)) ?_
   refine wp_skip ?_
   refine wp_seq ?_
   refine wp_block ?_
   refine wp_seq (rk (Rwf2_19_19 jj1) [] (Fwf2_19_18 jj1) Bwf2_19_2 S4 r4 ?_)
   intro W5 g5 r5 _
   refine (dright_i (h1.below r5.first) hN (tb hT r5)).mono ?_
   rintro _ V2 ⟨r, rfl, hr, k2⟩
   obtain rfl : r = true := hr.2 f1
   refine ⟨[.bool true], rfl, rfl, rfl, k2, ?_⟩
   intro a6 g6 W6 r6 S6
   refine wp_cond_split (t := !true) (S6.cnd (by kernel_rfl)) (fun q1 => ?_) (fun q1 => ?_)
   · cases q1
   · refine wp_skip ?_
     refine rk (Rwf2_19_21 jj1) [.mv (li 2)] (Fwf2_19_20 jj1) Bwf2_19_2 S6 r6 ?_
     intro a7 g7 W7 r7 S7
     exact ⟨0, by omega, jv S7 Jwf2_19_9, _, r7.first, St.to S7 [0] (by kernel_rfl) (by kernel_rfl) (by decide) rfl⟩
 | 0, hI =>
   obtain ⟨jj1, g3, b3, S3⟩ := hI
   have r3 : Reach 64 w [W] W := .of_below b3
   refine wp_seq ?_
   refine wp_seq (rk (Rwf2_19_23 jj1) [] (Fwf2_19_22 jj1) Bwf2_19_2 S3 r3 ?_)
   intro a4 g4 W4 r4 S4
   refine wp_cond_false (S4.cnd (by kernel_rfl)) ?_
   refine wp_exit (then_exit (then_exit (exit_in ?_)))
   refine wp_seq (rk (Rwf2_19_25 jj1) [] (Fwf2_19_24 jj1) Bwf2_19_2 S4 r4 ?_)
   intro _ g5 W5 r5 S5
   exact rt S5 [.bool true] (⟨rfl, r5.first⟩)
open Go Go.RowKit Go.Proofs.YtkdicconchobfaaGreatDoorW.PrintWords Limb
theorem cgo {P : Program} {f : FuncId} {a l : Array Value} {W : World} {K : Ending → World → Prop} (h : a = l) (k : Calls P f l W K) : Calls P f a W K := h ▸ k
theorem yvk {v : Value} {b w : Bool} (h : v = .bool b) (c : yieldsV v = some w) : b = w := by rw [h] at c; exact yv c
theorem ynk {v : Value} {b w : Bool} (h : v = .bool b) (c : yieldsV v ≠ some w) : b = !w := by rw [h] at c; exact yn c
theorem neq_or {a b : Int} (h : (if (a != 0) = true then true else b != 0) = false) : a = 0 ∧ b = 0 := by
 by_cases h1 : a = 0
 · subst h1; exact ⟨rfl, by simpa using h⟩
 · rw [if_pos (by simpa using h1)] at h; cases h
theorem fit_go {p : Int} {r : Bool} (h : (if (!decide (8 ≤ p ∧ p ≤ 4096)) = true then true else !r) = false) : r = true ∧ 8 ≤ p ∧ p ≤ 4096 := by
 by_cases h1 : 8 ≤ p ∧ p ≤ 4096
 · rw [decide_eq_true h1] at h; exact ⟨by simpa using h, h1⟩
 · rw [decide_eq_false h1] at h; cases h
theorem l1_meets {l u l' u' a c a' c' q l3 u3 e : Rat} (ea : Exs a c q) (ea' : Exs a' c' q) (h1 : l ≤ a) (h2 : c ≤ u) (e1 : l' ≤ a' - 1) (e2 : c' - 1 ≤ u') (c1 : CutOf false (l + -((1 : Int) : Rat)) l3 e) (c2 : CutOf true (u + -((1 : Int) : Rat)) u3 e) : l3 ≤ u' ∧ l' ≤ u3 := by
 have m := ea.meet ea'
 have o1 := c1.le
 have o2 := c2.ge
 rw [show ((1 : Int) : Rat) = 1 from rfl] at o1 o2
 constructor <;> grind
theorem l1_ge {u a c q : Rat} (ea : Exs a c q) (h2 : c ≤ u) : ((1 : Int) : Rat) + q ≤ u := by
 have := ea.ge_add
 rw [show ((1 : Int) : Rat) = 1 from rfl]; grind
theorem l1_gt {u a c q : Rat} (ea : Exs a c q) (h2 : c - 1 ≤ u) : q ≤ u := by
 have := ea.ge_add
 grind
theorem sgn_gt {l : Rat} (h : 0 < l) : decide (sgnQ l > 0) = true := by have e := sgnQ_cases l; exact decide_eq_true (by grind)
theorem far_r {a b : Int} {r : Bool} {q : Rat} (h : a = b ∨ (q ≠ 0 ∧ ¬ (2 : Rat) ^ (-16384 : Int) ≤ ab q)) (hne : (a == b) = false) (hr : r = false → q ≠ 0 → (2 : Rat) ^ (-16384 : Int) ≤ ab q) : r = true := by
 rcases h with h | ⟨h1, h2⟩
 · rw [h] at hne; simp at hne
 · cases r
   · exact absurd (hr rfl h1) h2
   · rfl
def Fwq5_0 := [dg 0, vi 3, U, U, U, U, U, U, U, U, U, U, U, U, U, U, U, U, U, U, U, U, U, U, U, U, U, U, U, U, U, U, U, U, U, U, U, U, U, U, U, U, U, U, U, U, U, U, U, U, U, U, U, U, U, U, U, U, U, U, U, U, U, U, U, U, U, U, U, U, U, U, U, U, U, U, U, U, U, U, U, U, U, U, U, U, U, U, U, U, U, U, U, U, U, U, U]
def Fwq5_1 := fs Fwq5_0 [(2, ps 0 0), (4, lb false)]
def Bwq5_2 := [bb 25 (d3 0)]
def Rwq5_3 : Rg := ⟨2, 4, 0, Fwq5_0, Bwq5_2, [pa 0 0, pv (lb false) 0], []⟩
def Fwq5_4 := fs Fwq5_1 [(12, vb 4), (13, f1 noF (vb 4))]
def Rwq5_5 : Rg := ⟨2, 4, 1, Fwq5_1, Bwq5_2, [pc (vb 4) 0 13 [] 1, pv (f1 noF (vb 4)) 1], [0]⟩
def Fwq5_6 := fs Fwq5_4 [(14, vi 3), (15, vb 5), (16, f1 noF (vb 5)), (17, f1 noF (vb 5)), (18, gd false (f1 noF (vb 5)) (dg 0)), (19, gd false (f1 noF (vb 5)) (vb 6)), (20, gd false (f1 noF (vb 5)) (f1 noF (vb 6))), (21, pk (f1 noF (vb 5)) (lb true) (f1 noF (vb 6)))]
def Rwq5_7 : Rg := ⟨8, 5, 1, Fwq5_4, Bwq5_2, [pv (vi 3) 0, pc (vb 5) 0 16 [vi 3] 1, pv (f1 noF (vb 5)) 1, pv (f1 noF (vb 5)) 1, ⟨dg 0, 1, [], .ld 0 0, gd false (f1 noF (vb 5)) (dg 0)⟩, ⟨vb 6, 1, [], .cl 1 17 [dg 0] 1 [], gd false (f1 noF (vb 5)) (vb 6)⟩, ⟨f1 noF (vb 6), 2, [], .val, gd false (f1 noF (vb 5)) (f1 noF (vb 6))⟩, ⟨pk (f1 noF (vb 5)) (lb true) (f1 noF (vb 6)), 2, [], .pk, pk (f1 noF (vb 5)) (lb true) (f1 noF (vb 6))⟩], [1, 5]⟩
def Fwq5_8 := fs Fwq5_6 [(4, lb true)]
def Rwq5_9 : Rg := ⟨1, 7, 1, Fwq5_6, Bwq5_2, [pv (lb true) 0], []⟩
def Fwq5_10 := fs Fwq5_6 [(5, ps 1 0), (6, vi 13), (22, tu [ig 7, vi 13]), (23, dg 0), (24, vi 3), (25, tu [ig 7, vi 13]), (26, ig 7), (27, vi 13)]
def Bwq5_11 := [bb 25 (d3 0), bb 28 o6]
def Rwq5_12 : Rg := ⟨7, 7, 1, Fwq5_6, Bwq5_11, [pl (dg 0) 0 0 0, pv (vi 3) 0, pc (tu [ig 7, vi 13]) 0 9 [dg 0, vi 3] 7, pv (tu [ig 7, vi 13]) 1, pv (ig 7) 1, pv (vi 13) 1, pa 1 0], [2]⟩
def Bwq5_13 := [bb 25 (d3 0), bb 28 (i6 7)]
def Fwq5_14 := fs Fwq5_10 [(7, ps 2 0), (8, vi 20), (28, tu [ig 14, vi 20]), (29, dg 0), (30, vi 3), (31, tu [ig 14, vi 20]), (32, ig 14), (33, vi 20)]
def Bwq5_15 := [bb 25 (d3 0), bb 28 (i6 7), bb 28 o6]
def Rwq5_16 : Rg := ⟨7, 14, 2, Fwq5_10, Bwq5_15, [pl (dg 0) 0 0 0, pv (vi 3) 0, pc (tu [ig 14, vi 20]) 0 14 [dg 0, vi 3] 7, pv (tu [ig 14, vi 20]) 1, pv (ig 14) 1, pv (vi 20) 1, pa 2 0], [2]⟩
def Bwq5_17 := [bb 25 (d3 0), bb 28 (i6 7), bb 28 (i6 14)]
def Fwq5_18 := fs Fwq5_14 [(34, vi 13), (35, bo .neq (vi 13) (li 0)), (36, bo .neq (vi 13) (li 0)), (37, gd false (bo .neq (vi 13) (li 0)) (vi 20)), (38, gd false (bo .neq (vi 13) (li 0)) (bo .neq (vi 20) (li 0))), (39, pk (bo .neq (vi 13) (li 0)) (lb true) (bo .neq (vi 20) (li 0)))]
def Rwq5_19 : Rg := ⟨6, 21, 3, Fwq5_14, Bwq5_17, [pv (vi 13) 0, pv (bo .neq (vi 13) (li 0)) 0, pv (bo .neq (vi 13) (li 0)) 0, ⟨vi 20, 0, [], .val, gd false (bo .neq (vi 13) (li 0)) (vi 20)⟩, ⟨bo .neq (vi 20) (li 0), 0, [], .val, gd false (bo .neq (vi 13) (li 0)) (bo .neq (vi 20) (li 0))⟩, ⟨pk (bo .neq (vi 13) (li 0)) (lb true) (bo .neq (vi 20) (li 0)), 0, [], .pk, pk (bo .neq (vi 13) (li 0)) (lb true) (bo .neq (vi 20) (li 0))⟩], []⟩
def Fwq5_20 := fs Fwq5_18 [(4, pk (bo .eql (vi 13) (vi 20)) (lb true) (vb 21)), (40, vi 13), (41, vi 20), (42, bo .eql (vi 13) (vi 20)), (43, bo .eql (vi 13) (vi 20)), (44, gd false (bo .eql (vi 13) (vi 20)) (dg 0)), (45, gd false (bo .eql (vi 13) (vi 20)) (vb 21)), (46, pk (bo .eql (vi 13) (vi 20)) (lb true) (vb 21))]
def Rwq5_21 : Rg := ⟨8, 21, 3, Fwq5_18, Bwq5_17, [pv (vi 13) 0, pv (vi 20) 0, pv (bo .eql (vi 13) (vi 20)) 0, pv (bo .eql (vi 13) (vi 20)) 0, ⟨dg 0, 0, [], .ld 0 0, gd false (bo .eql (vi 13) (vi 20)) (dg 0)⟩, ⟨vb 21, 0, [], .cl 0 18 [dg 0] 1 [], gd false (bo .eql (vi 13) (vi 20)) (vb 21)⟩, ⟨pk (bo .eql (vi 13) (vi 20)) (lb true) (vb 21), 1, [], .pk, pk (bo .eql (vi 13) (vi 20)) (lb true) (vb 21)⟩, pv (pk (bo .eql (vi 13) (vi 20)) (lb true) (vb 21)) 1], [5]⟩
def Fwq5_22 := fs Fwq5_18 [(47, ig 7), (48, ig 14), (49, osl (ps 3 0) 2), (50, vb 21), (51, f1 noF (vb 21))]
def Bwq5_23 := [bb 25 (d3 0), bb 28 (i6 7), bb 28 (i6 14), bb 28 [vb 7, vs 8, vi 9, vb 10, vs 11, vi 12, vb 14, vs 15, vi 16, vb 17, vs 18, vi 19]]
def Rwq5_24 : Rg := ⟨5, 21, 3, Fwq5_18, Bwq5_23, [pl (ig 7) 0 1 0, pl (ig 14) 0 2 0, ⟨osl (ps 3 0) 2, 0, [3], .al 3, osl (ps 3 0) 2⟩, ⟨vb 21, 0, [], .cl 0 19 [osl (ps 3 0) 2] 1 [3], vb 21⟩, pv (f1 noF (vb 21)) 1], [3]⟩
def Fwq5_25 := fs Fwq5_22 [(9, ps 4 0), (52, dg 22), (53, ig 25)]
def Bwq5_26 := [bb 25 (d3 0), bb 28 (i6 7), bb 28 (i6 14), bb 28 [vb 7, vs 8, vi 9, vb 10, vs 11, vi 12, vb 14, vs 15, vi 16, vb 17, vs 18, vi 19], bb 28 o6]
def Rwq5_27 : Rg := ⟨3, 22, 4, Fwq5_22, Bwq5_26, [pc (dg 22) 0 21 [li 1] 3, pc (ig 25) 1 20 [dg 22] 6, pa 4 0], [0, 1]⟩
def Bwq5_28 := [bb 25 (d3 0), bb 28 (i6 7), bb 28 (i6 14), bb 28 [vb 7, vs 8, vi 9, vb 10, vs 11, vi 12, vb 14, vs 15, vi 16, vb 17, vs 18, vi 19], bb 28 (i6 25)]
def Fwq5_29 := fs Fwq5_25 [(10, vi 31), (11, vb 32), (54, tu [vi 31, vb 32]), (55, ig 14), (56, tu [vi 31, vb 32]), (57, vi 31), (58, vb 32)]
def Rwq5_30 : Rg := ⟨7, 31, 5, Fwq5_25, Bwq5_28, [pl (ig 14) 0 2 0, pc (tu [vi 31, vb 32]) 0 22 [ig 14] 2, pv (tu [vi 31, vb 32]) 1, pv (vi 31) 1, pv (vb 32) 1, pv (vi 31) 1, pv (vb 32) 1], [1]⟩
def Fwq5_31 := fs Fwq5_29 [(4, pk (pk (pk (pk (pk (vb 39) (vb 32) (lb false)) (bo .eql (vi 31) (vi 40)) (lb false)) (bo .leq (vi 47) (li 0)) (lb false)) (bo .leq (vi 48) (li 0)) (lb false)) (bo .gtr (vi 49) (li 0)) (lb false)), (59, ig 7), (60, ig 25), (61, vi 3), (62, bo .add (vi 3) (li 70)), (63, ig 33), (64, ig 14), (65, vb 39), (66, vb 39), (67, gd true (vb 39) (vb 32)), (68, pk (vb 39) (vb 32) (lb false)), (69, pk (vb 39) (vb 32) (lb false)), (70, gd true (pk (vb 39) (vb 32) (lb false)) (vi 31)), (71, gd true (pk (vb 39) (vb 32) (lb false)) (dg 0)), (72, gd true (pk (vb 39) (vb 32) (lb false)) (vi 40)), (73, gd true (pk (vb 39) (vb 32) (lb false)) (bo .eql (vi 31) (vi 40))), (74, pk (pk (vb 39) (vb 32) (lb false)) (bo .eql (vi 31) (vi 40)) (lb false)), (75, pk (pk (vb 39) (vb 32) (lb false)) (bo .eql (vi 31) (vi 40)) (lb false)), (76, gd true (pk (pk (vb 39) (vb 32) (lb false)) (bo .eql (vi 31) (vi 40)) (lb false)) (dg 41)), (77, gd true (pk (pk (vb 39) (vb 32) (lb false)) (bo .eql (vi 31) (vi 40)) (lb false)) (dg 0)), (78, gd true (pk (pk (vb 39) (vb 32) (lb false)) (bo .eql (vi 31) (vi 40)) (lb false)) (dg 44)), (79, gd true (pk (pk (vb 39) (vb 32) (lb false)) (bo .eql (vi 31) (vi 40)) (lb false)) (ps 1 3)), (80, gd true (pk (pk (vb 39) (vb 32) (lb false)) (bo .eql (vi 31) (vi 40)) (lb false)) (dg 10)), (81, gd true (pk (pk (vb 39) (vb 32) (lb false)) (bo .eql (vi 31) (vi 40)) (lb false)) (vi 47)), (82, gd true (pk (pk (vb 39) (vb 32) (lb false)) (bo .eql (vi 31) (vi 40)) (lb false)) (bo .leq (vi 47) (li 0))), (83, pk (pk (pk (vb 39) (vb 32) (lb false)) (bo .eql (vi 31) (vi 40)) (lb false)) (bo .leq (vi 47) (li 0)) (lb false)), (84, pk (pk (pk (vb 39) (vb 32) (lb false)) (bo .eql (vi 31) (vi 40)) (lb false)) (bo .leq (vi 47) (li 0)) (lb false)), (85, gd true (pk (pk (pk (vb 39) (vb 32) (lb false)) (bo .eql (vi 31) (vi 40)) (lb false)) (bo .leq (vi 47) (li 0)) (lb false)) (dg 0)), (86, gd true (pk (pk (pk (vb 39) (vb 32) (lb false)) (bo .eql (vi 31) (vi 40)) (lb false)) (bo .leq (vi 47) (li 0)) (lb false)) (ps 2 3)), (87, gd true (pk (pk (pk (vb 39) (vb 32) (lb false)) (bo .eql (vi 31) (vi 40)) (lb false)) (bo .leq (vi 47) (li 0)) (lb false)) (dg 17)), (88, gd true (pk (pk (pk (vb 39) (vb 32) (lb false)) (bo .eql (vi 31) (vi 40)) (lb false)) (bo .leq (vi 47) (li 0)) (lb false)) (vi 48)), (89, gd true (pk (pk (pk (vb 39) (vb 32) (lb false)) (bo .eql (vi 31) (vi 40)) (lb false)) (bo .leq (vi 47) (li 0)) (lb false)) (bo .leq (vi 48) (li 0))), (90, pk (pk (pk (pk (vb 39) (vb 32) (lb false)) (bo .eql (vi 31) (vi 40)) (lb false)) (bo .leq (vi 47) (li 0)) (lb false)) (bo .leq (vi 48) (li 0)) (lb false)), (91, pk (pk (pk (pk (vb 39) (vb 32) (lb false)) (bo .eql (vi 31) (vi 40)) (lb false)) (bo .leq (vi 47) (li 0)) (lb false)) (bo .leq (vi 48) (li 0)) (lb false)), (92, gd true (pk (pk (pk (pk (vb 39) (vb 32) (lb false)) (bo .eql (vi 31) (vi 40)) (lb false)) (bo .leq (vi 47) (li 0)) (lb false)) (bo .leq (vi 48) (li 0)) (lb false)) (ps 1 0)), (93, gd true (pk (pk (pk (pk (vb 39) (vb 32) (lb false)) (bo .eql (vi 31) (vi 40)) (lb false)) (bo .leq (vi 47) (li 0)) (lb false)) (bo .leq (vi 48) (li 0)) (lb false)) (dg 7)), (94, gd true (pk (pk (pk (pk (vb 39) (vb 32) (lb false)) (bo .eql (vi 31) (vi 40)) (lb false)) (bo .leq (vi 47) (li 0)) (lb false)) (bo .leq (vi 48) (li 0)) (lb false)) (vi 49)), (95, gd true (pk (pk (pk (pk (vb 39) (vb 32) (lb false)) (bo .eql (vi 31) (vi 40)) (lb false)) (bo .leq (vi 47) (li 0)) (lb false)) (bo .leq (vi 48) (li 0)) (lb false)) (bo .gtr (vi 49) (li 0))), (96, pk (pk (pk (pk (pk (vb 39) (vb 32) (lb false)) (bo .eql (vi 31) (vi 40)) (lb false)) (bo .leq (vi 47) (li 0)) (lb false)) (bo .leq (vi 48) (li 0)) (lb false)) (bo .gtr (vi 49) (li 0)) (lb false))]
def Rwq5_32 : Rg := ⟨39, 33, 5, Fwq5_29, Bwq5_28, [pl (ig 7) 0 1 0, pl (ig 25) 0 4 0, pv (vi 3) 0, pv (bo .add (vi 3) (li 70)) 0, pc (ig 33) 0 24 [ig 7, ig 25, bo .add (vi 3) (li 70)] 6, pl (ig 14) 0 2 0, pc (vb 39) 1 23 [ig 33, ig 14] 1, pv (vb 39) 2, ⟨vb 32, 2, [], .val, gd true (vb 39) (vb 32)⟩, ⟨pk (vb 39) (vb 32) (lb false), 2, [], .pk, pk (vb 39) (vb 32) (lb false)⟩, pv (pk (vb 39) (vb 32) (lb false)) 2, ⟨vi 31, 2, [], .val, gd true (pk (vb 39) (vb 32) (lb false)) (vi 31)⟩, ⟨dg 0, 2, [], .ld 0 0, gd true (pk (vb 39) (vb 32) (lb false)) (dg 0)⟩, ⟨vi 40, 2, [], .cl 2 25 [dg 0] 1 [], gd true (pk (vb 39) (vb 32) (lb false)) (vi 40)⟩, ⟨bo .eql (vi 31) (vi 40), 3, [], .val, gd true (pk (vb 39) (vb 32) (lb false)) (bo .eql (vi 31) (vi 40))⟩, ⟨pk (pk (vb 39) (vb 32) (lb false)) (bo .eql (vi 31) (vi 40)) (lb false), 3, [], .pk, pk (pk (vb 39) (vb 32) (lb false)) (bo .eql (vi 31) (vi 40)) (lb false)⟩, pv (pk (pk (vb 39) (vb 32) (lb false)) (bo .eql (vi 31) (vi 40)) (lb false)) 3, ⟨dg 41, 3, [], .cl 3 21 [li 1] 3 [], gd true (pk (pk (vb 39) (vb 32) (lb false)) (bo .eql (vi 31) (vi 40)) (lb false)) (dg 41)⟩, ⟨dg 0, 3, [], .ld 0 0, gd true (pk (pk (vb 39) (vb 32) (lb false)) (bo .eql (vi 31) (vi 40)) (lb false)) (dg 0)⟩, ⟨dg 44, 4, [], .cl 4 27 [dg 41, dg 0] 3 [], gd true (pk (pk (vb 39) (vb 32) (lb false)) (bo .eql (vi 31) (vi 40)) (lb false)) (dg 44)⟩, ⟨ps 1 3, 3, [], .val, gd true (pk (pk (vb 39) (vb 32) (lb false)) (bo .eql (vi 31) (vi 40)) (lb false)) (ps 1 3)⟩, ⟨dg 10, 3, [], .ld 1 3, gd true (pk (pk (vb 39) (vb 32) (lb false)) (bo .eql (vi 31) (vi 40)) (lb false)) (dg 10)⟩, ⟨vi 47, 5, [], .cl 5 26 [dg 44, dg 10] 1 [], gd true (pk (pk (vb 39) (vb 32) (lb false)) (bo .eql (vi 31) (vi 40)) (lb false)) (vi 47)⟩, ⟨bo .leq (vi 47) (li 0), 6, [], .val, gd true (pk (pk (vb 39) (vb 32) (lb false)) (bo .eql (vi 31) (vi 40)) (lb false)) (bo .leq (vi 47) (li 0))⟩, ⟨pk (pk (pk (vb 39) (vb 32) (lb false)) (bo .eql (vi 31) (vi 40)) (lb false)) (bo .leq (vi 47) (li 0)) (lb false), 6, [], .pk, pk (pk (pk (vb 39) (vb 32) (lb false)) (bo .eql (vi 31) (vi 40)) (lb false)) (bo .leq (vi 47) (li 0)) (lb false)⟩, pv (pk (pk (pk (vb 39) (vb 32) (lb false)) (bo .eql (vi 31) (vi 40)) (lb false)) (bo .leq (vi 47) (li 0)) (lb false)) 6, ⟨dg 0, 6, [], .ld 0 0, gd true (pk (pk (pk (vb 39) (vb 32) (lb false)) (bo .eql (vi 31) (vi 40)) (lb false)) (bo .leq (vi 47) (li 0)) (lb false)) (dg 0)⟩, ⟨ps 2 3, 6, [], .val, gd true (pk (pk (pk (vb 39) (vb 32) (lb false)) (bo .eql (vi 31) (vi 40)) (lb false)) (bo .leq (vi 47) (li 0)) (lb false)) (ps 2 3)⟩, ⟨dg 17, 6, [], .ld 2 3, gd true (pk (pk (pk (vb 39) (vb 32) (lb false)) (bo .eql (vi 31) (vi 40)) (lb false)) (bo .leq (vi 47) (li 0)) (lb false)) (dg 17)⟩, ⟨vi 48, 6, [], .cl 6 26 [dg 0, dg 17] 1 [], gd true (pk (pk (pk (vb 39) (vb 32) (lb false)) (bo .eql (vi 31) (vi 40)) (lb false)) (bo .leq (vi 47) (li 0)) (lb false)) (vi 48)⟩, ⟨bo .leq (vi 48) (li 0), 7, [], .val, gd true (pk (pk (pk (vb 39) (vb 32) (lb false)) (bo .eql (vi 31) (vi 40)) (lb false)) (bo .leq (vi 47) (li 0)) (lb false)) (bo .leq (vi 48) (li 0))⟩, ⟨pk (pk (pk (pk (vb 39) (vb 32) (lb false)) (bo .eql (vi 31) (vi 40)) (lb false)) (bo .leq (vi 47) (li 0)) (lb false)) (bo .leq (vi 48) (li 0)) (lb false), 7, [], .pk, pk (pk (pk (pk (vb 39) (vb 32) (lb false)) (bo .eql (vi 31) (vi 40)) (lb false)) (bo .leq (vi 47) (li 0)) (lb false)) (bo .leq (vi 48) (li 0)) (lb false)⟩, pv (pk (pk (pk (pk (vb 39) (vb 32) (lb false)) (bo .eql (vi 31) (vi 40)) (lb false)) (bo .leq (vi 47) (li 0)) (lb false)) (bo .leq (vi 48) (li 0)) (lb false)) 7, ⟨ps 1 0, 7, [], .val, gd true (pk (pk (pk (pk (vb 39) (vb 32) (lb false)) (bo .eql (vi 31) (vi 40)) (lb false)) (bo .leq (vi 47) (li 0)) (lb false)) (bo .leq (vi 48) (li 0)) (lb false)) (ps 1 0)⟩, ⟨dg 7, 7, [], .ld 1 0, gd true (pk (pk (pk (pk (vb 39) (vb 32) (lb false)) (bo .eql (vi 31) (vi 40)) (lb false)) (bo .leq (vi 47) (li 0)) (lb false)) (bo .leq (vi 48) (li 0)) (lb false)) (dg 7)⟩, ⟨vi 49, 7, [], .cl 7 25 [dg 7] 1 [], gd true (pk (pk (pk (pk (vb 39) (vb 32) (lb false)) (bo .eql (vi 31) (vi 40)) (lb false)) (bo .leq (vi 47) (li 0)) (lb false)) (bo .leq (vi 48) (li 0)) (lb false)) (vi 49)⟩, ⟨bo .gtr (vi 49) (li 0), 8, [], .val, gd true (pk (pk (pk (pk (vb 39) (vb 32) (lb false)) (bo .eql (vi 31) (vi 40)) (lb false)) (bo .leq (vi 47) (li 0)) (lb false)) (bo .leq (vi 48) (li 0)) (lb false)) (bo .gtr (vi 49) (li 0))⟩, ⟨pk (pk (pk (pk (pk (vb 39) (vb 32) (lb false)) (bo .eql (vi 31) (vi 40)) (lb false)) (bo .leq (vi 47) (li 0)) (lb false)) (bo .leq (vi 48) (li 0)) (lb false)) (bo .gtr (vi 49) (li 0)) (lb false), 8, [], .pk, pk (pk (pk (pk (pk (vb 39) (vb 32) (lb false)) (bo .eql (vi 31) (vi 40)) (lb false)) (bo .leq (vi 47) (li 0)) (lb false)) (bo .leq (vi 48) (li 0)) (lb false)) (bo .gtr (vi 49) (li 0)) (lb false)⟩, pv (pk (pk (pk (pk (pk (vb 39) (vb 32) (lb false)) (bo .eql (vi 31) (vi 40)) (lb false)) (bo .leq (vi 47) (li 0)) (lb false)) (bo .leq (vi 48) (li 0)) (lb false)) (bo .gtr (vi 49) (li 0)) (lb false)) 8], [4, 6, 13, 17, 19, 22, 29, 35]⟩
theorem less1_law {t : Value} {s : Bool} {m : Nat} {x p : Int} {w : World} (h : ADy w t s m x) (hT : TB w) :
 Calls Tryz.prog 5 #[t, .int .i64 p] w fun en w' => en = .returned (.bool true) ∧ BL w w' := by
 obtain ⟨A0, n0, c0, rfl, h⟩ := h
 have h : ADy w (.agg #[.bool s, .slice A0 n0 c0, .int .i64 x]) s m x := ⟨_, _, _, rfl, h⟩
 refine fn_enter (u := 64) (fn := Tryz.f5) Tryz.func5 rfl Fwq5_0 [.bool s, .slice A0 n0 c0, .int .i64 x, .int .i64 p] (by kernel_rfl) rfl (fun a0 S0 r0 => ?_)
 refine wp_seq (rk Rwq5_3 [] Fwq5_1 Bwq5_2 S0 r0 ?_)
 intro _ _ _ r1 S1
 refine wp_seq ?_
 refine wp_seq (rk Rwq5_5 [] Fwq5_4 Bwq5_2 S1 r1 ?_)
 intro _ _ r2 _
 refine cgo (l := #[]) (by kernel_rfl) ?_
 refine (begins_q _ (tb hT r2)).mono ?_
 rintro _ V1 ⟨rfl, k1⟩
 refine ⟨[.bool true], rfl, rfl, by kernel_rfl, k1, ?_⟩
 intro _ _ _ r3 S3
 refine wp_cond_split (t := !true) (S3.cnd (by kernel_rfl)) (fun q1 => ?_) (fun q1 => ?_)
 · cases q1
 · refine wp_skip ?_
   refine wp_seq ?_
   refine wp_seq (rk Rwq5_7 [] Fwq5_6 Bwq5_2 S3 r3 ?_)
   intro _ _ r4 _
   refine cgo (l := #[.int .i64 p]) (by kernel_rfl) ?_
   refine (fit_q p _).mono ?_
   rintro _ V2 ⟨rfl, k2⟩
   refine ⟨[.bool (decide (8 ≤ p ∧ p ≤ 4096))], rfl, rfl, by kernel_rfl, k2, ?_⟩
   refine ⟨fun c5 => ?_, fun c5 => ?_⟩
   · replace c5 := yvk (b := !(decide (8 ≤ p ∧ p ≤ 4096))) (by kernel_rfl) c5
     intro W6 g6 r6 _
     refine cgo (l := #[.agg #[.bool s, .slice A0 n0 c0, .int .i64 x]]) (by kernel_rfl) ?_
     refine (dright_all (h.below r6.first)).mono ?_
     rintro _ V3 ⟨rfl, k3⟩
     refine ⟨[.bool (Fit m x)], rfl, rfl, by kernel_rfl, k3, ?_⟩
     intro a7 g7 W7 r7 S7
     refine wp_cond_split (t := if !(decide (8 ≤ p ∧ p ≤ 4096)) then true else !(Fit m x)) (S7.cnd (by kernel_rfl)) (fun q2 => ?_) (fun q2 => ?_)
     · refine wp_seq (rk Rwq5_9 [] Fwq5_8 Bwq5_2 S7 r7 ?_)
       intro _ g8 W8 r8 S8
       exact wp_ret (then_ret (ret_ok S8 [.bool true] (by kernel_rfl) (⟨rfl, r8.first⟩)))
     · have hok := fit_go q2
       refine wp_skip ?_
       refine wp_seq (rk Rwq5_12 [.st 1 0 (i6 7), .mv (vi 13)] Fwq5_10 Bwq5_13 S7 r7 ?_)
       intro W8 g8 r8 _
       refine cgo (l := #[.agg #[.bool s, .slice A0 n0 c0, .int .i64 x], .int .i64 p]) (by kernel_rfl) ?_
       refine (exp_q (p := p) (h.below r8.first) (tb hT r8)).mono ?_
       rintro _ V4 ⟨v, why1, rfl, ha, k4⟩
       obtain ⟨b4, A4, n4, c4, x4, d4, B4, m4, e4, y4, rfl⟩ := ha.ex6
       replace ha := ha.lower r8.fs
       refine ⟨[.bool b4, .slice A4 n4 c4, .int .i64 x4, .bool d4, .slice B4 m4 e4, .int .i64 y4, .int .i64 why1], rfl, rfl, by kernel_rfl, k4, ?_⟩
       intro _ _ _ r9 S9
       refine wp_seq (rk Rwq5_16 [.st 2 0 (i6 14), .mv (vi 20)] Fwq5_14 Bwq5_17 S9 r9 ?_)
       intro _ _ r10 _
       refine cgo (l := #[.agg #[.bool s, .slice A0 n0 c0, .int .i64 x], .int .i64 p]) (by kernel_rfl) ?_
       refine (expm1_q (p := p) (h.below r10.first) (tb hT r10)).mono ?_
       rintro _ V5 ⟨v, why2, rfl, hd, k5⟩
       obtain ⟨b5, A5, n5, c5, x5, d5, B5, m5, e5, y5, rfl⟩ := hd.ex6
       replace hd := hd.lower r10.fs
       refine ⟨[.bool b5, .slice A5 n5 c5, .int .i64 x5, .bool d5, .slice B5 m5 e5, .int .i64 y5, .int .i64 why2], rfl, rfl, by kernel_rfl, k5, ?_⟩
       intro _ _ _ r11 S11
       refine wp_seq ?_
       refine wp_seq (rk Rwq5_19 [] Fwq5_18 Bwq5_17 S11 r11 ?_)
       intro _ _ _ r12 S12
       refine wp_cond_split (t := if why1 != 0 then true else why2 != 0) (S12.cnd (by kernel_rfl)) (fun q3 => ?_) (fun q3 => ?_)
       · refine wp_seq (rk Rwq5_21 [] Fwq5_20 Bwq5_17 S12 r12 ?_)
         refine ⟨fun c13 => ?_, fun c13 => ?_⟩
         · replace c13 := yvk (b := why1 == why2) (by kernel_rfl) c13
           have hne := c13
           intro W14 g14 r14 _
           refine cgo (l := #[.agg #[.bool s, .slice A0 n0 c0, .int .i64 x]]) (by kernel_rfl) ?_
           refine (dfar_q (h.below r14.first) hok.1 (tb hT r14)).mono ?_
           rintro _ V6 ⟨r, rfl, hr, k6⟩
           refine ⟨[.bool r], rfl, rfl, by kernel_rfl, k6, ?_⟩
           intro _ g15 W15 r15 S15
           exact wp_ret (then_ret (ret_ok S15 [.bool (if why1 == why2 then true else r)] (by kernel_rfl) (⟨by rw [far_r (why_same ha hd hok) hne hr]; cases (why1 == why2) <;> rfl, r15.first⟩)))
         · replace c13 := ynk (b := why1 == why2) (by kernel_rfl) c13
           have heq := c13
           intro a14 g14 W14 r14 S14
           exact wp_ret (then_ret (ret_ok S14 [.bool (if why1 == why2 then true else false)] (by kernel_rfl) (⟨by rw [heq]; rfl, r14.first⟩)))
       · obtain ⟨w1, w2⟩ := neq_or q3
         have ha0 := ha
         have hd0 := hd
         rw [w1] at ha0
         rw [w2] at hd0
         obtain ⟨l, u, hx, f1, f2, f3, f4, f5, f6, a, c, ea, ea1, ea2⟩ := got_e ha0
         obtain ⟨l', u', hy, f1', f2', f3', f4', hsy, a', c', ea', ea1', ea2'⟩ := got_l hd0
         refine wp_skip ?_
         refine wp_seq ?_
         refine wp_seq (rk Rwq5_24 [] Fwq5_22 Bwq5_23 S12 r12 ?_)
         intro W13 g13 r13 q13
         refine cgo (l := #[.slice (some ⟨g13 3, 0, none⟩) 2 2]) (by kernel_rfl) ?_
         refine (fine_2 (g0 := g13 3) (q13 3 (by decide) _ rfl) (hx.lat (r13.at_ 3 _ rfl)).c ⟨f1, f2, f3⟩ (hy.lat (r13.at_ 4 _ rfl)).c ⟨f1', f2', f3'⟩ (by decide) (tb hT r13)).mono ?_
         rintro _ V7 ⟨rfl, k7⟩
         refine ⟨[.bool true], rfl, rfl, by kernel_rfl, k7, ?_⟩
         intro a14 g14 W14 r14 S14
         refine wp_cond_split (t := !true) (S14.cnd (by kernel_rfl)) (fun q4 => ?_) (fun q4 => ?_)
         · cases q4
         · refine wp_skip ?_
           refine wp_seq (rk Rwq5_27 [.st 4 0 (i6 25)] Fwq5_25 Bwq5_28 S14 r14 ?_)
           intro W15 g15 r15 _
           refine cgo (l := #[.int .i64 1]) (by kernel_rfl) ?_
           refine (dint_q 1 _ (by decide) (by decide)).mono ?_
           rintro _ V8 ⟨v, rfl, h1, k8⟩
           obtain ⟨b8, A8, n8, c8, x8, rfl⟩ := h1.ex
           replace h1 := h1.lower r15.fs
           refine ⟨[.bool b8, .slice A8 n8 c8, .int .i64 x8], rfl, rfl, by kernel_rfl, k8, ?_⟩
           intro _ _ r16 _
           refine cgo (l := #[.agg #[.bool b8, .slice A8 n8 c8, .int .i64 x8]]) (by kernel_rfl) ?_
           refine (dpoint_q (h1.lat (r16.at_ 6 _ rfl)).c (by decide) (tb hT r16)).mono ?_
           rintro _ V9 ⟨v, rfl, h2, k9⟩
           obtain ⟨b9, A9, n9, c9, x9, d9, B9, m9, e9, y9, rfl⟩ := h2.ex
           replace h2 := h2.lower r16.fs
           refine ⟨[.bool b9, .slice A9 n9 c9, .int .i64 x9, .bool d9, .slice B9 m9 e9, .int .i64 y9], rfl, rfl, by kernel_rfl, k9, ?_⟩
           intro _ _ _ r17 S17
           refine wp_seq (rk Rwq5_30 [] Fwq5_29 Bwq5_28 S17 r17 ?_)
           intro _ _ r18 _
           refine cgo (l := #[.agg #[.bool b5, .slice A5 n5 c5, .int .i64 x5, .bool d5, .slice B5 m5 e5, .int .i64 y5]]) (by kernel_rfl) ?_
           refine (isign_q (hy.lat (r18.at_ 4 _ rfl)).c f1' f2' f3' (nar_sgn f4' f3') (by decide) (tb hT r18)).mono ?_
           rintro _ V10 ⟨rfl, k10⟩
           rw [hsy]
           refine ⟨[.int .i64 (sgnQ (Dv (sgn s m) x)), .bool true], rfl, rfl, by kernel_rfl, k10, ?_⟩
           intro _ _ _ r19 S19
           refine wp_seq (rk Rwq5_32 [] Fwq5_31 Bwq5_28 S19 r19 ?_)
           intro _ _ r20 _
           have cw := dless_i (p := p.toNat + 70) (hx.lat (r20.at_ 3 _ rfl)).c (h2.lat (r20.at_ 7 _ rfl)).c (by decide) (by omega) (by omega) (tb hT r20)
           rw [show ((p.toNat + 70 : Nat) : Int) = IntKind.i64.wrap (p + 70) by rw [i64_id (by omega) (by omega)]; omega] at cw
           refine cgo (l := #[.agg #[.bool b4, .slice A4 n4 c4, .int .i64 x4, .bool d4, .slice B4 m4 e4, .int .i64 y4], .agg #[.bool b9, .slice A9 n9 c9, .int .i64 x9, .bool d9, .slice B9 m9 e9, .int .i64 y9], .int .i64 (IntKind.i64.wrap (p + 70))]) (by kernel_rfl) ?_
           refine (cw).mono ?_
           rintro _ V11 ⟨v, l3, u3, rfl, h3, c1, c2, _, _, k11⟩
           obtain ⟨b11, A11, n11, c11, x11, d11, B11, m11, e11, y11, rfl⟩ := h3.ex
           replace h3 := h3.lower r20.fs
           refine ⟨[.bool b11, .slice A11 n11 c11, .int .i64 x11, .bool d11, .slice B11 m11 e11, .int .i64 y11], rfl, rfl, by kernel_rfl, k11, ?_⟩
           intro _ _ r21 _
           refine cgo (l := #[.agg #[.bool b11, .slice A11 n11 c11, .int .i64 x11, .bool d11, .slice B11 m11 e11, .int .i64 y11], .agg #[.bool b5, .slice A5 n5 c5, .int .i64 x5, .bool d5, .slice B5 m5 e5, .int .i64 y5]]) (by kernel_rfl) ?_
           refine (meets_q (h3.lat (r21.at_ 9 _ rfl)).c (hy.lat (r21.at_ 4 _ rfl)).c (l1_meets ea ea' ea1 ea2 ea1' ea2' c1 c2).1 (l1_meets ea ea' ea1 ea2 ea1' ea2' c1 c2).2 (by decide) (tb hT r21)).mono ?_
           rintro _ V12 ⟨rfl, k12⟩
           refine ⟨[.bool true], rfl, rfl, by kernel_rfl, k12, ?_⟩
           refine ⟨fun c22 => ?_, fun c22 => ?_⟩
           · replace c22 := yvk (b := if true then true else false) (by kernel_rfl) c22
             intro _ _ r23 _
             refine cgo (l := #[.agg #[.bool s, .slice A0 n0 c0, .int .i64 x]]) (by kernel_rfl) ?_
             refine (dsign_all (h.below r23.first) (by have := fit_bl hok.1; omega)).mono ?_
             rintro _ V13 ⟨rfl, k13⟩
             refine ⟨[.int .i64 (sgnQ (Dv (sgn s m) x))], rfl, rfl, by kernel_rfl, k13, ?_⟩
             refine ⟨fun c24 => ?_, fun c24 => ?_⟩
             · replace c24 := yvk (b := if if true then true else false then (sgnQ (Dv (sgn s m) x)) == (sgnQ (Dv (sgn s m) x)) else false) (by kernel_rfl) c24
               intro _ _ r25 _
               refine cgo (l := #[.int .i64 1]) (by kernel_rfl) ?_
               refine (dint_q 1 _ (by decide) (by decide)).mono ?_
               rintro _ V14 ⟨v, rfl, h6, k14⟩
               obtain ⟨b14, A14, n14, c14, x14, rfl⟩ := h6.ex
               replace h6 := h6.lower r25.fs
               refine ⟨[.bool b14, .slice A14 n14 c14, .int .i64 x14], rfl, rfl, by kernel_rfl, k14, ?_⟩
               refine ⟨fun c26 => ?_, fun c26 => ?_⟩
               · replace c26 := yvk (b := if if true then true else false then (sgnQ (Dv (sgn s m) x)) == (sgnQ (Dv (sgn s m) x)) else false) (by kernel_rfl) c26
                 intro _ _ r27 _
                 refine cgo (l := #[.agg #[.bool b14, .slice A14 n14 c14, .int .i64 x14], .agg #[.bool s, .slice A0 n0 c0, .int .i64 x]]) (by kernel_rfl) ?_
                 refine (dplus_g ((h6.lat (r27.at_ 12 _ rfl)).c.g (by decide) (tb hT r27)) ((h.below r27.first).g hok.1) (by decide)).mono ?_
                 rintro _ V15 ⟨v, rfl, h7, k15⟩
                 obtain ⟨b15, A15, n15, c15, x15, rfl⟩ := h7.ex
                 replace h7 := h7.lower r27.fs
                 refine ⟨[.bool b15, .slice A15 n15 c15, .int .i64 x15], rfl, rfl, by kernel_rfl, k15, ?_⟩
                 refine ⟨fun c28 => ?_, fun c28 => ?_⟩
                 · replace c28 := yvk (b := if if true then true else false then (sgnQ (Dv (sgn s m) x)) == (sgnQ (Dv (sgn s m) x)) else false) (by kernel_rfl) c28
                   intro _ _ r29 _
                   refine cgo (l := #[.agg #[.bool b15, .slice A15 n15 c15, .int .i64 x15], .agg #[.bool d4, .slice B4 m4 e4, .int .i64 y4]]) (by kernel_rfl) ?_
                   refine (dorder_q (h7.lat (r29.at_ 13 _ rfl)).c (hx.lat (r29.at_ 3 _ rfl)).hi.c (by decide) (tb hT r29)).mono ?_
                   rintro _ V16 ⟨rfl, k16⟩
                   refine ⟨[.int .i64 (cmpQ (((1 : Int) : Rat) + Dv (sgn s m) x) u)], rfl, rfl, by kernel_rfl, k16, ?_⟩
                   have e8 := cmp_le (l1_ge ea ea2)
                   refine ⟨fun c30 => ?_, fun c30 => ?_⟩
                   · replace c30 := yvk (b := if if if true then true else false then (sgnQ (Dv (sgn s m) x)) == (sgnQ (Dv (sgn s m) x)) else false then decide ((cmpQ (((1 : Int) : Rat) + Dv (sgn s m) x) u) ≤ 0) else false) (by kernel_rfl) c30
                     intro _ _ r31 _
                     refine cgo (l := #[.agg #[.bool s, .slice A0 n0 c0, .int .i64 x], .agg #[.bool d5, .slice B5 m5 e5, .int .i64 y5]]) (by kernel_rfl) ?_
                     refine (dorder_g ((h.below r31.first).g hok.1) ((hy.lat (r31.at_ 4 _ rfl)).hi.c.g (by decide) (tb hT r31)) (by decide) (tb hT r31)).mono ?_
                     rintro _ V17 ⟨rfl, k17⟩
                     refine ⟨[.int .i64 (cmpQ (Dv (sgn s m) x) u')], rfl, rfl, by kernel_rfl, k17, ?_⟩
                     have e9 := cmp_le (l1_gt ea' ea2')
                     refine ⟨fun c32 => ?_, fun c32 => ?_⟩
                     · replace c32 := yvk (b := if if if if true then true else false then (sgnQ (Dv (sgn s m) x)) == (sgnQ (Dv (sgn s m) x)) else false then decide ((cmpQ (((1 : Int) : Rat) + Dv (sgn s m) x) u) ≤ 0) else false then decide ((cmpQ (Dv (sgn s m) x) u') ≤ 0) else false) (by kernel_rfl) c32
                       intro _ _ r33 _
                       refine cgo (l := #[.agg #[.bool b4, .slice A4 n4 c4, .int .i64 x4]]) (by kernel_rfl) ?_
                       refine (dsign_q (hx.lat (r33.at_ 3 _ rfl)).lo.c (by decide)).mono ?_
                       rintro _ V18 ⟨rfl, k18⟩
                       refine ⟨[.int .i64 (sgnQ l)], rfl, rfl, by kernel_rfl, k18, ?_⟩
                       have e10 := sgn_gt f5
                       intro _ _ _ r34 S34
                       exact rt S34 [.bool (if if if if if true then true else false then (sgnQ (Dv (sgn s m) x)) == (sgnQ (Dv (sgn s m) x)) else false then decide ((cmpQ (((1 : Int) : Rat) + Dv (sgn s m) x) u) ≤ 0) else false then decide ((cmpQ (Dv (sgn s m) x) u') ≤ 0) else false then decide ((sgnQ l) > 0) else false)] (⟨by rw [e8, e9, e10, beq_self_eq_true]; rfl, r34.first⟩)
                     · replace c32 := ynk (b := if if if if true then true else false then (sgnQ (Dv (sgn s m) x)) == (sgnQ (Dv (sgn s m) x)) else false then decide ((cmpQ (((1 : Int) : Rat) + Dv (sgn s m) x) u) ≤ 0) else false then decide ((cmpQ (Dv (sgn s m) x) u') ≤ 0) else false) (by kernel_rfl) c32
                       rw [e8, e9] at c32; simp at c32
                   · replace c30 := ynk (b := if if if true then true else false then (sgnQ (Dv (sgn s m) x)) == (sgnQ (Dv (sgn s m) x)) else false then decide ((cmpQ (((1 : Int) : Rat) + Dv (sgn s m) x) u) ≤ 0) else false) (by kernel_rfl) c30
                     rw [e8] at c30; simp at c30
                 · replace c28 := ynk (b := if if true then true else false then (sgnQ (Dv (sgn s m) x)) == (sgnQ (Dv (sgn s m) x)) else false) (by kernel_rfl) c28
                   simp at c28
               · replace c26 := ynk (b := if if true then true else false then (sgnQ (Dv (sgn s m) x)) == (sgnQ (Dv (sgn s m) x)) else false) (by kernel_rfl) c26
                 simp at c26
             · replace c24 := ynk (b := if if true then true else false then (sgnQ (Dv (sgn s m) x)) == (sgnQ (Dv (sgn s m) x)) else false) (by kernel_rfl) c24
               simp at c24
           · replace c22 := ynk (b := if true then true else false) (by kernel_rfl) c22
             simp at c22
   · replace c5 := ynk (b := !(decide (8 ≤ p ∧ p ≤ 4096))) (by kernel_rfl) c5
     intro _ g6 W6 r6 S6
     refine wp_cond_split (t := if !(decide (8 ≤ p ∧ p ≤ 4096)) then true else !false) (S6.cnd (by kernel_rfl)) (fun q5 => ?_) (fun q5 => ?_)
     · refine wp_seq (rk Rwq5_9 [] Fwq5_8 Bwq5_2 S6 r6 ?_)
       intro a7 g7 W7 r7 S7
       exact wp_ret (then_ret (ret_ok S7 [.bool true] (by kernel_rfl) (⟨rfl, r7.first⟩)))
     · revert q5; cases decide (8 ≤ p ∧ p ≤ 4096) <;> intro h <;> cases h
end Go.Proofs.YtkdicconchobfaaGreatDoor
