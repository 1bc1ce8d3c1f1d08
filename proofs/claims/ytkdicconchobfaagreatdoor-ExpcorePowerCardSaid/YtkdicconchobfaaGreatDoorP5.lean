/- Part 5 of the library of this claim: what the program and the document compute, as contracts of their functions. -/
import Derived.Test.YtkdicconchobfaaGreatDoorP4
import Derived.Test.YtkdicconchobfaaGreatDoorRows
import Derived.WalkKit
import Derived.ProofKit
import Derived.Deep.Slices
set_option maxRecDepth 100000
set_option maxHeartbeats 8000000
namespace Go.Proofs.YtkdicconchobfaaGreatDoor
open Go Go.RowKit Go.Proofs.YtkdicconchobfaaGreatDoorW.PrintWords Limb Exq
set_option linter.unusedVariables false
set_option linter.unusedSimpArgs false
def Fuc64_0 : List Sy := [osl (ps 0 0) 4, U, U, U, U, U, U, U, U, U, U, U, U, U, U, U, U, U, U, U, U, U, U, U, U, U, U, U, U, U, U, U, U, U, U, U, U, U, U, U, U, U, U, U, U]
def Fuc64_1 := fs Fuc64_0 [(2, ps 1 0)]
def Buc64_2 := [rb 25 [vb 0, vs 1, vi 2, vb 3, vs 4, vi 5, vb 6, vs 7, vi 8, vb 9, vs 10, vi 11], bb 28 o6]
def Ruc64_3 : Rg := ⟨1, 12, 1, Fuc64_0, Buc64_2, [pa 1 0], []⟩
def Fuc64_4 := fs Fuc64_1 [(3, ps 2 0), (5, osl (ps 0 0) 4), (6, ps 0 0), (7, dg 0), (8, osl (ps 0 0) 4), (9, ps 0 0), (10, dg 0), (11, ag [vb 0, vs 1, vi 2, vb 0, vs 1, vi 2])]
def Buc64_5 := [rb 25 [vb 0, vs 1, vi 2, vb 3, vs 4, vi 5, vb 6, vs 7, vi 8, vb 9, vs 10, vi 11], bb 28 o6, bb 28 o6]
def Ruc64_6 : Rg := ⟨8, 12, 2, Fuc64_1, Buc64_5, [pv (osl (ps 0 0) 4) 0, pv (ps 0 0) 0, pl (dg 0) 0 0 0, pv (osl (ps 0 0) 4) 0, pv (ps 0 0) 0, pl (dg 0) 0 0 0, pv (ag [vb 0, vs 1, vi 2, vb 0, vs 1, vi 2]) 0, pa 2 0], []⟩
def Buc64_7 := [rb 25 [vb 0, vs 1, vi 2, vb 3, vs 4, vi 5, vb 6, vs 7, vi 8, vb 9, vs 10, vi 11], bb 28 o6, bb 28 [vb 0, vs 1, vi 2, vb 0, vs 1, vi 2]]
def Fuc64_8 := fs Fuc64_4 [(4, li 1)]
def Ruc64_9 : Rg := ⟨1, 12, 3, Fuc64_4, Buc64_7, [pv (li 1) 0], []⟩
def Luc64_10 (jj1 : List Value) : List Sy := [osl (ps 0 0) 4, U, ps 1 0, ps 2 0, li 1, osl (ps 0 0) 4, ps 0 0, dg 0, osl (ps 0 0) 4, ps 0 0, dg 0, ag [vb 0, vs 1, vi 2, vb 0, vs 1, vi 2], jw jj1 0, jw jj1 1, jw jj1 2, jw jj1 3, jw jj1 4, jw jj1 5, jw jj1 6, jw jj1 7, jw jj1 8, jw jj1 9, jw jj1 10, jw jj1 11, jw jj1 12, jw jj1 13, jw jj1 14, jw jj1 15, jw jj1 16, jw jj1 17, jw jj1 18, jw jj1 19, jw jj1 20, jw jj1 21, jw jj1 22, jw jj1 23, jw jj1 24, jw jj1 25, jw jj1 26, jw jj1 27, jw jj1 28, jw jj1 29, jw jj1 30, jw jj1 31, U]
def Luc64_11 (jj1 : List Value) := fs (Luc64_10 jj1) [(4, li 2)]
def Luc64_12 (jj1 : List Value) := fs (Luc64_10 jj1) [(4, li 3)]
def Luc64_13 (jj1 : List Value) := fs (Luc64_10 jj1) [(4, li 4)]
def Juc64_14 : List Nat := [12, 13, 14, 15, 16, 17, 18, 19, 20, 21, 22, 23, 24, 25, 26, 27, 28, 29, 30, 31, 32, 33, 34, 35, 36, 37, 38, 39, 40, 41, 42, 43]
def Buc64_15 := [rb 25 [vb 0, vs 1, vi 2, vb 3, vs 4, vi 5, vb 6, vs 7, vi 8, vb 9, vs 10, vi 11], bb 28 o6, bb 28 (i6 12)]
def Fuc64_16 (jj1 : List Value) := fs (Luc64_10 jj1) [(12, li 1), (13, osl (ps 0 0) 4), (14, li 4), (15, lb true)]
def Ruc64_17 (jj1 : List Value) : Rg := ⟨4, 18, 3, (Luc64_10 jj1), Buc64_15, [pv (li 1) 0, pv (osl (ps 0 0) 4) 0, pv (li 4) 0, pv (lb true) 0], []⟩
def Fuc64_18 (jj1 : List Value) := fs (Fuc64_16 jj1) [(18, osl (ps 0 0) 4), (19, li 1), (20, ps 0 3), (21, dg 3), (22, ps 2 0), (23, dg 12), (24, vi 18), (25, bo .lss (vi 18) (li 0))]
def Ruc64_19 (jj1 : List Value) : Rg := ⟨8, 18, 3, (Fuc64_16 jj1), Buc64_15, [pv (osl (ps 0 0) 4) 0, pv (li 1) 0, pv (ps 0 3) 0, pl (dg 3) 0 0 3, pv (ps 2 0) 0, pl (dg 12) 0 2 0, pc (vi 18) 0 26 [dg 3, dg 12] 1, pv (bo .lss (vi 18) (li 0)) 1], [6]⟩
def Fuc64_20 (jj1 : List Value) := fs (Fuc64_18 jj1) [(26, osl (ps 0 0) 4), (27, li 1), (28, ps 0 3), (29, dg 3), (30, ps 2 0)]
def Ruc64_21 (jj1 : List Value) : Rg := ⟨5, 19, 3, (Fuc64_18 jj1), Buc64_15, [pv (osl (ps 0 0) 4) 0, pv (li 1) 0, pv (ps 0 3) 0, pl (dg 3) 0 0 3, pv (ps 2 0) 0], []⟩
def Buc64_22 := [rb 25 [vb 0, vs 1, vi 2, vb 3, vs 4, vi 5, vb 6, vs 7, vi 8, vb 9, vs 10, vi 11], bb 28 o6, bb 28 [vb 3, vs 4, vi 5, vb 15, vs 16, vi 17]]
def Fuc64_23 (jj1 : List Value) := fs (Fuc64_20 jj1) [(31, osl (ps 0 0) 4), (32, li 1), (33, ps 0 3), (34, dg 3), (35, ps 2 3), (36, dg 15), (37, vi 19), (38, bo .gtr (vi 19) (li 0))]
def Ruc64_24 (jj1 : List Value) : Rg := ⟨8, 19, 3, (Fuc64_20 jj1), Buc64_22, [pv (osl (ps 0 0) 4) 0, pv (li 1) 0, pv (ps 0 3) 0, pl (dg 3) 0 0 3, pv (ps 2 3) 0, pl (dg 15) 0 2 3, pc (vi 19) 0 26 [dg 3, dg 15] 1, pv (bo .gtr (vi 19) (li 0)) 1], [6]⟩
def Fuc64_25 (jj1 : List Value) := fs (Fuc64_23 jj1) [(39, osl (ps 0 0) 4), (40, li 1), (41, ps 0 3), (42, dg 3), (43, ps 2 3)]
def Ruc64_26 (jj1 : List Value) : Rg := ⟨5, 20, 3, (Fuc64_23 jj1), Buc64_22, [pv (osl (ps 0 0) 4) 0, pv (li 1) 0, pv (ps 0 3) 0, pl (dg 3) 0 0 3, pv (ps 2 3) 0], []⟩
def Buc64_27 := [rb 25 [vb 0, vs 1, vi 2, vb 3, vs 4, vi 5, vb 6, vs 7, vi 8, vb 9, vs 10, vi 11], bb 28 o6, bb 28 [vb 3, vs 4, vi 5, vb 3, vs 4, vi 5]]
def Fuc64_28 (jj1 : List Value) := fs (Fuc64_25 jj1) [(4, li 2), (16, li 1), (17, li 2)]
def Ruc64_29 (jj1 : List Value) : Rg := ⟨2, 20, 3, (Fuc64_25 jj1), Buc64_27, [pv (li 1) 0, pv (li 2) 0], []⟩
def Fuc64_30 (jj1 : List Value) := fs (Fuc64_23 jj1) [(4, li 2), (16, li 1), (17, li 2)]
def Ruc64_31 (jj1 : List Value) : Rg := ⟨2, 20, 3, (Fuc64_23 jj1), Buc64_22, [pv (li 1) 0, pv (li 2) 0], []⟩
def Fuc64_32 (jj1 : List Value) := fs (Fuc64_18 jj1) [(31, osl (ps 0 0) 4), (32, li 1), (33, ps 0 3), (34, dg 3), (35, ps 2 3), (36, dg 15), (37, vi 19), (38, bo .gtr (vi 19) (li 0))]
def Ruc64_33 (jj1 : List Value) : Rg := ⟨8, 19, 3, (Fuc64_18 jj1), Buc64_15, [pv (osl (ps 0 0) 4) 0, pv (li 1) 0, pv (ps 0 3) 0, pl (dg 3) 0 0 3, pv (ps 2 3) 0, pl (dg 15) 0 2 3, pc (vi 19) 0 26 [dg 3, dg 15] 1, pv (bo .gtr (vi 19) (li 0)) 1], [6]⟩
def Fuc64_34 (jj1 : List Value) := fs (Fuc64_32 jj1) [(39, osl (ps 0 0) 4), (40, li 1), (41, ps 0 3), (42, dg 3), (43, ps 2 3)]
def Ruc64_35 (jj1 : List Value) : Rg := ⟨5, 20, 3, (Fuc64_32 jj1), Buc64_15, [pv (osl (ps 0 0) 4) 0, pv (li 1) 0, pv (ps 0 3) 0, pl (dg 3) 0 0 3, pv (ps 2 3) 0], []⟩
def Buc64_36 := [rb 25 [vb 0, vs 1, vi 2, vb 3, vs 4, vi 5, vb 6, vs 7, vi 8, vb 9, vs 10, vi 11], bb 28 o6, bb 28 [vb 12, vs 13, vi 14, vb 3, vs 4, vi 5]]
def Fuc64_37 (jj1 : List Value) := fs (Fuc64_34 jj1) [(4, li 2), (16, li 1), (17, li 2)]
def Ruc64_38 (jj1 : List Value) : Rg := ⟨2, 20, 3, (Fuc64_34 jj1), Buc64_36, [pv (li 1) 0, pv (li 2) 0], []⟩
def Fuc64_39 (jj1 : List Value) := fs (Fuc64_32 jj1) [(4, li 2), (16, li 1), (17, li 2)]
def Ruc64_40 (jj1 : List Value) : Rg := ⟨2, 20, 3, (Fuc64_32 jj1), Buc64_15, [pv (li 1) 0, pv (li 2) 0], []⟩
def Fuc64_41 (jj1 : List Value) := fs (Luc64_11 jj1) [(12, li 2), (13, osl (ps 0 0) 4), (14, li 4), (15, lb true)]
def Ruc64_42 (jj1 : List Value) : Rg := ⟨4, 18, 3, (Luc64_11 jj1), Buc64_15, [pv (li 2) 0, pv (osl (ps 0 0) 4) 0, pv (li 4) 0, pv (lb true) 0], []⟩
def Fuc64_43 (jj1 : List Value) := fs (Fuc64_41 jj1) [(18, osl (ps 0 0) 4), (19, li 2), (20, ps 0 6), (21, dg 6), (22, ps 2 0), (23, dg 12), (24, vi 18), (25, bo .lss (vi 18) (li 0))]
def Ruc64_44 (jj1 : List Value) : Rg := ⟨8, 18, 3, (Fuc64_41 jj1), Buc64_15, [pv (osl (ps 0 0) 4) 0, pv (li 2) 0, pv (ps 0 6) 0, pl (dg 6) 0 0 6, pv (ps 2 0) 0, pl (dg 12) 0 2 0, pc (vi 18) 0 26 [dg 6, dg 12] 1, pv (bo .lss (vi 18) (li 0)) 1], [6]⟩
def Fuc64_45 (jj1 : List Value) := fs (Fuc64_43 jj1) [(26, osl (ps 0 0) 4), (27, li 2), (28, ps 0 6), (29, dg 6), (30, ps 2 0)]
def Ruc64_46 (jj1 : List Value) : Rg := ⟨5, 19, 3, (Fuc64_43 jj1), Buc64_15, [pv (osl (ps 0 0) 4) 0, pv (li 2) 0, pv (ps 0 6) 0, pl (dg 6) 0 0 6, pv (ps 2 0) 0], []⟩
def Buc64_47 := [rb 25 [vb 0, vs 1, vi 2, vb 3, vs 4, vi 5, vb 6, vs 7, vi 8, vb 9, vs 10, vi 11], bb 28 o6, bb 28 [vb 6, vs 7, vi 8, vb 15, vs 16, vi 17]]
def Fuc64_48 (jj1 : List Value) := fs (Fuc64_45 jj1) [(31, osl (ps 0 0) 4), (32, li 2), (33, ps 0 6), (34, dg 6), (35, ps 2 3), (36, dg 15), (37, vi 19), (38, bo .gtr (vi 19) (li 0))]
def Ruc64_49 (jj1 : List Value) : Rg := ⟨8, 19, 3, (Fuc64_45 jj1), Buc64_47, [pv (osl (ps 0 0) 4) 0, pv (li 2) 0, pv (ps 0 6) 0, pl (dg 6) 0 0 6, pv (ps 2 3) 0, pl (dg 15) 0 2 3, pc (vi 19) 0 26 [dg 6, dg 15] 1, pv (bo .gtr (vi 19) (li 0)) 1], [6]⟩
def Fuc64_50 (jj1 : List Value) := fs (Fuc64_48 jj1) [(39, osl (ps 0 0) 4), (40, li 2), (41, ps 0 6), (42, dg 6), (43, ps 2 3)]
def Ruc64_51 (jj1 : List Value) : Rg := ⟨5, 20, 3, (Fuc64_48 jj1), Buc64_47, [pv (osl (ps 0 0) 4) 0, pv (li 2) 0, pv (ps 0 6) 0, pl (dg 6) 0 0 6, pv (ps 2 3) 0], []⟩
def Buc64_52 := [rb 25 [vb 0, vs 1, vi 2, vb 3, vs 4, vi 5, vb 6, vs 7, vi 8, vb 9, vs 10, vi 11], bb 28 o6, bb 28 [vb 6, vs 7, vi 8, vb 6, vs 7, vi 8]]
def Fuc64_53 (jj1 : List Value) := fs (Fuc64_50 jj1) [(4, li 3), (16, li 2), (17, li 3)]
def Ruc64_54 (jj1 : List Value) : Rg := ⟨2, 20, 3, (Fuc64_50 jj1), Buc64_52, [pv (li 2) 0, pv (li 3) 0], []⟩
def Fuc64_55 (jj1 : List Value) := fs (Fuc64_48 jj1) [(4, li 3), (16, li 2), (17, li 3)]
def Ruc64_56 (jj1 : List Value) : Rg := ⟨2, 20, 3, (Fuc64_48 jj1), Buc64_47, [pv (li 2) 0, pv (li 3) 0], []⟩
def Fuc64_57 (jj1 : List Value) := fs (Fuc64_43 jj1) [(31, osl (ps 0 0) 4), (32, li 2), (33, ps 0 6), (34, dg 6), (35, ps 2 3), (36, dg 15), (37, vi 19), (38, bo .gtr (vi 19) (li 0))]
def Ruc64_58 (jj1 : List Value) : Rg := ⟨8, 19, 3, (Fuc64_43 jj1), Buc64_15, [pv (osl (ps 0 0) 4) 0, pv (li 2) 0, pv (ps 0 6) 0, pl (dg 6) 0 0 6, pv (ps 2 3) 0, pl (dg 15) 0 2 3, pc (vi 19) 0 26 [dg 6, dg 15] 1, pv (bo .gtr (vi 19) (li 0)) 1], [6]⟩
def Fuc64_59 (jj1 : List Value) := fs (Fuc64_57 jj1) [(39, osl (ps 0 0) 4), (40, li 2), (41, ps 0 6), (42, dg 6), (43, ps 2 3)]
def Ruc64_60 (jj1 : List Value) : Rg := ⟨5, 20, 3, (Fuc64_57 jj1), Buc64_15, [pv (osl (ps 0 0) 4) 0, pv (li 2) 0, pv (ps 0 6) 0, pl (dg 6) 0 0 6, pv (ps 2 3) 0], []⟩
def Buc64_61 := [rb 25 [vb 0, vs 1, vi 2, vb 3, vs 4, vi 5, vb 6, vs 7, vi 8, vb 9, vs 10, vi 11], bb 28 o6, bb 28 [vb 12, vs 13, vi 14, vb 6, vs 7, vi 8]]
def Fuc64_62 (jj1 : List Value) := fs (Fuc64_59 jj1) [(4, li 3), (16, li 2), (17, li 3)]
def Ruc64_63 (jj1 : List Value) : Rg := ⟨2, 20, 3, (Fuc64_59 jj1), Buc64_61, [pv (li 2) 0, pv (li 3) 0], []⟩
def Fuc64_64 (jj1 : List Value) := fs (Fuc64_57 jj1) [(4, li 3), (16, li 2), (17, li 3)]
def Ruc64_65 (jj1 : List Value) : Rg := ⟨2, 20, 3, (Fuc64_57 jj1), Buc64_15, [pv (li 2) 0, pv (li 3) 0], []⟩
def Fuc64_66 (jj1 : List Value) := fs (Luc64_12 jj1) [(12, li 3), (13, osl (ps 0 0) 4), (14, li 4), (15, lb true)]
def Ruc64_67 (jj1 : List Value) : Rg := ⟨4, 18, 3, (Luc64_12 jj1), Buc64_15, [pv (li 3) 0, pv (osl (ps 0 0) 4) 0, pv (li 4) 0, pv (lb true) 0], []⟩
def Fuc64_68 (jj1 : List Value) := fs (Fuc64_66 jj1) [(18, osl (ps 0 0) 4), (19, li 3), (20, ps 0 9), (21, dg 9), (22, ps 2 0), (23, dg 12), (24, vi 18), (25, bo .lss (vi 18) (li 0))]
def Ruc64_69 (jj1 : List Value) : Rg := ⟨8, 18, 3, (Fuc64_66 jj1), Buc64_15, [pv (osl (ps 0 0) 4) 0, pv (li 3) 0, pv (ps 0 9) 0, pl (dg 9) 0 0 9, pv (ps 2 0) 0, pl (dg 12) 0 2 0, pc (vi 18) 0 26 [dg 9, dg 12] 1, pv (bo .lss (vi 18) (li 0)) 1], [6]⟩
def Fuc64_70 (jj1 : List Value) := fs (Fuc64_68 jj1) [(26, osl (ps 0 0) 4), (27, li 3), (28, ps 0 9), (29, dg 9), (30, ps 2 0)]
def Ruc64_71 (jj1 : List Value) : Rg := ⟨5, 19, 3, (Fuc64_68 jj1), Buc64_15, [pv (osl (ps 0 0) 4) 0, pv (li 3) 0, pv (ps 0 9) 0, pl (dg 9) 0 0 9, pv (ps 2 0) 0], []⟩
def Buc64_72 := [rb 25 [vb 0, vs 1, vi 2, vb 3, vs 4, vi 5, vb 6, vs 7, vi 8, vb 9, vs 10, vi 11], bb 28 o6, bb 28 [vb 9, vs 10, vi 11, vb 15, vs 16, vi 17]]
def Fuc64_73 (jj1 : List Value) := fs (Fuc64_70 jj1) [(31, osl (ps 0 0) 4), (32, li 3), (33, ps 0 9), (34, dg 9), (35, ps 2 3), (36, dg 15), (37, vi 19), (38, bo .gtr (vi 19) (li 0))]
def Ruc64_74 (jj1 : List Value) : Rg := ⟨8, 19, 3, (Fuc64_70 jj1), Buc64_72, [pv (osl (ps 0 0) 4) 0, pv (li 3) 0, pv (ps 0 9) 0, pl (dg 9) 0 0 9, pv (ps 2 3) 0, pl (dg 15) 0 2 3, pc (vi 19) 0 26 [dg 9, dg 15] 1, pv (bo .gtr (vi 19) (li 0)) 1], [6]⟩
def Fuc64_75 (jj1 : List Value) := fs (Fuc64_73 jj1) [(39, osl (ps 0 0) 4), (40, li 3), (41, ps 0 9), (42, dg 9), (43, ps 2 3)]
def Ruc64_76 (jj1 : List Value) : Rg := ⟨5, 20, 3, (Fuc64_73 jj1), Buc64_72, [pv (osl (ps 0 0) 4) 0, pv (li 3) 0, pv (ps 0 9) 0, pl (dg 9) 0 0 9, pv (ps 2 3) 0], []⟩
def Buc64_77 := [rb 25 [vb 0, vs 1, vi 2, vb 3, vs 4, vi 5, vb 6, vs 7, vi 8, vb 9, vs 10, vi 11], bb 28 o6, bb 28 [vb 9, vs 10, vi 11, vb 9, vs 10, vi 11]]
def Fuc64_78 (jj1 : List Value) := fs (Fuc64_75 jj1) [(4, li 4), (16, li 3), (17, li 4)]
def Ruc64_79 (jj1 : List Value) : Rg := ⟨2, 20, 3, (Fuc64_75 jj1), Buc64_77, [pv (li 3) 0, pv (li 4) 0], []⟩
def Fuc64_80 (jj1 : List Value) := fs (Fuc64_73 jj1) [(4, li 4), (16, li 3), (17, li 4)]
def Ruc64_81 (jj1 : List Value) : Rg := ⟨2, 20, 3, (Fuc64_73 jj1), Buc64_72, [pv (li 3) 0, pv (li 4) 0], []⟩
def Fuc64_82 (jj1 : List Value) := fs (Fuc64_68 jj1) [(31, osl (ps 0 0) 4), (32, li 3), (33, ps 0 9), (34, dg 9), (35, ps 2 3), (36, dg 15), (37, vi 19), (38, bo .gtr (vi 19) (li 0))]
def Ruc64_83 (jj1 : List Value) : Rg := ⟨8, 19, 3, (Fuc64_68 jj1), Buc64_15, [pv (osl (ps 0 0) 4) 0, pv (li 3) 0, pv (ps 0 9) 0, pl (dg 9) 0 0 9, pv (ps 2 3) 0, pl (dg 15) 0 2 3, pc (vi 19) 0 26 [dg 9, dg 15] 1, pv (bo .gtr (vi 19) (li 0)) 1], [6]⟩
def Fuc64_84 (jj1 : List Value) := fs (Fuc64_82 jj1) [(39, osl (ps 0 0) 4), (40, li 3), (41, ps 0 9), (42, dg 9), (43, ps 2 3)]
def Ruc64_85 (jj1 : List Value) : Rg := ⟨5, 20, 3, (Fuc64_82 jj1), Buc64_15, [pv (osl (ps 0 0) 4) 0, pv (li 3) 0, pv (ps 0 9) 0, pl (dg 9) 0 0 9, pv (ps 2 3) 0], []⟩
def Buc64_86 := [rb 25 [vb 0, vs 1, vi 2, vb 3, vs 4, vi 5, vb 6, vs 7, vi 8, vb 9, vs 10, vi 11], bb 28 o6, bb 28 [vb 12, vs 13, vi 14, vb 9, vs 10, vi 11]]
def Fuc64_87 (jj1 : List Value) := fs (Fuc64_84 jj1) [(4, li 4), (16, li 3), (17, li 4)]
def Ruc64_88 (jj1 : List Value) : Rg := ⟨2, 20, 3, (Fuc64_84 jj1), Buc64_86, [pv (li 3) 0, pv (li 4) 0], []⟩
def Fuc64_89 (jj1 : List Value) := fs (Fuc64_82 jj1) [(4, li 4), (16, li 3), (17, li 4)]
def Ruc64_90 (jj1 : List Value) : Rg := ⟨2, 20, 3, (Fuc64_82 jj1), Buc64_15, [pv (li 3) 0, pv (li 4) 0], []⟩
def Fuc64_91 (jj1 : List Value) := fs (Luc64_13 jj1) [(12, li 4), (13, osl (ps 0 0) 4), (14, li 4), (15, lb false)]
def Ruc64_92 (jj1 : List Value) : Rg := ⟨4, 18, 3, (Luc64_13 jj1), Buc64_15, [pv (li 4) 0, pv (osl (ps 0 0) 4) 0, pv (li 4) 0, pv (lb false) 0], []⟩
def Fuc64_93 (jj1 : List Value) := fs (Fuc64_91 jj1) [(44, ig 12)]
def Ruc64_94 (jj1 : List Value) : Rg := ⟨1, 18, 3, (Fuc64_91 jj1), Buc64_15, [pl (ig 12) 0 2 0], []⟩
def Buc64_95 := [rb 25 [vb 0, vs 1, vi 2, vb 3, vs 4, vi 5, vb 6, vs 7, vi 8, vb 9, vs 10, vi 11], bb 28 (i6 12), bb 28 (i6 12)]
theorem dspan_q {eb : Nat → Bool} {eA : Nat → Option Addr} {en ec : Nat → Nat} {ex : Nat → Int} {q : Nat → Rat} {N : Nat} {w : World} {g0 : Nat} (hrow : w.heap[g0]? = some (.cells #[.bool (eb 0), .slice (eA 0) (en 0) (ec 0), .int .i64 (ex 0), .bool (eb 1), .slice (eA 1) (en 1) (ec 1), .int .i64 (ex 1), .bool (eb 2), .slice (eA 2) (en 2) (ec 2), .int .i64 (ex 2), .bool (eb 3), .slice (eA 3) (en 3) (ec 3), .int .i64 (ex 3)] 25 (0, 0)))
 (h : ∀ k, k < 4 → CQ w (.agg #[.bool (eb k), .slice (eA k) (en k) (ec k), .int .i64 (ex k)]) (q k) N) (hN : N ≤ 16777215) (hT : TB w) :
 Calls Tryz.prog 64 #[.slice (some ⟨g0, 0, none⟩) 4 4] w fun en' w' => ∃ i j, i < 4 ∧ j < 4 ∧ (∀ k, k < 4 → q i ≤ q k ∧ q k ≤ q j) ∧ en' = .returned (.agg #[.bool (eb i), .slice (eA i) (en i) (ec i), .int .i64 (ex i), .bool (eb j), .slice (eA j) (en j) (ec j), .int .i64 (ex j)]) ∧ BL w w' := by
 refine fn_enter2 (u := 64) (fn := Tryz.f64) Tryz.func64 rfl Fuc64_0 [rb 25 [vb 0, vs 1, vi 2, vb 3, vs 4, vi 5, vb 6, vs 7, vi 8, vb 9, vs 10, vi 11]] [.bool (eb 0), .slice (eA 0) (en 0) (ec 0), .int .i64 (ex 0), .bool (eb 1), .slice (eA 1) (en 1) (ec 1), .int .i64 (ex 1), .bool (eb 2), .slice (eA 2) (en 2) (ec 2), .int .i64 (ex 2), .bool (eb 3), .slice (eA 3) (en 3) (ec 3), .int .i64 (ex 3)] (fun _ => g0) (by kernel_rfl) rfl rfl (by
  intro b x hx
  match b, hx with
  | 0, hx => injection hx with hx; subst hx; exact hrow
  | b + 1, hx => simp at hx) (fun a0 S0 r0 => ?_)
 refine wp_seq (rk Ruc64_3 [] Fuc64_1 Buc64_2 S0 r0 ?_)
 intro _ _ _ r1 S1
 refine wp_seq (rk Ruc64_6 [.st 2 0 [vb 0, vs 1, vi 2, vb 0, vs 1, vi 2]] Fuc64_4 Buc64_7 S1 r1 ?_)
 intro _ _ _ r2 S2
 refine wp_seq ?_
 refine wp_seq (rk Ruc64_9 [] Fuc64_8 Buc64_7 S2 r2 ?_)
 intro _ _ _ r3 S3
 refine wp_block ?_
 refine wp_loop_n (fun n a W => match n with | 3 => ∃ (jj1 : List Value) (i j : Nat) (g : Nat → Nat), BL w W ∧ St w (Luc64_10 jj1) Buc64_15 [.bool (eb 0), .slice (eA 0) (en 0) (ec 0), .int .i64 (ex 0), .bool (eb 1), .slice (eA 1) (en 1) (ec 1), .int .i64 (ex 1), .bool (eb 2), .slice (eA 2) (en 2) (ec 2), .int .i64 (ex 2), .bool (eb 3), .slice (eA 3) (en 3) (ec 3), .int .i64 (ex 3), .bool (eb i), .slice (eA i) (en i) (ec i), .int .i64 (ex i), .bool (eb j), .slice (eA j) (en j) (ec j), .int .i64 (ex j)] g a W ∧ (i < 4 ∧ j < 4 ∧ ∀ k, k < 1 → q i ≤ q k ∧ q k ≤ q j) | 2 => ∃ (jj1 : List Value) (i j : Nat) (g : Nat → Nat), BL w W ∧ St w (Luc64_11 jj1) Buc64_15 [.bool (eb 0), .slice (eA 0) (en 0) (ec 0), .int .i64 (ex 0), .bool (eb 1), .slice (eA 1) (en 1) (ec 1), .int .i64 (ex 1), .bool (eb 2), .slice (eA 2) (en 2) (ec 2), .int .i64 (ex 2), .bool (eb 3), .slice (eA 3) (en 3) (ec 3), .int .i64 (ex 3), .bool (eb i), .slice (eA i) (en i) (ec i), .int .i64 (ex i), .bool (eb j), .slice (eA j) (en j) (ec j), .int .i64 (ex j)] g a W ∧ (i < 4 ∧ j < 4 ∧ ∀ k, k < 2 → q i ≤ q k ∧ q k ≤ q j) | 1 => ∃ (jj1 : List Value) (i j : Nat) (g : Nat → Nat), BL w W ∧ St w (Luc64_12 jj1) Buc64_15 [.bool (eb 0), .slice (eA 0) (en 0) (ec 0), .int .i64 (ex 0), .bool (eb 1), .slice (eA 1) (en 1) (ec 1), .int .i64 (ex 1), .bool (eb 2), .slice (eA 2) (en 2) (ec 2), .int .i64 (ex 2), .bool (eb 3), .slice (eA 3) (en 3) (ec 3), .int .i64 (ex 3), .bool (eb i), .slice (eA i) (en i) (ec i), .int .i64 (ex i), .bool (eb j), .slice (eA j) (en j) (ec j), .int .i64 (ex j)] g a W ∧ (i < 4 ∧ j < 4 ∧ ∀ k, k < 3 → q i ≤ q k ∧ q k ≤ q j) | 0 => ∃ (jj1 : List Value) (i j : Nat) (g : Nat → Nat), BL w W ∧ St w (Luc64_13 jj1) Buc64_15 [.bool (eb 0), .slice (eA 0) (en 0) (ec 0), .int .i64 (ex 0), .bool (eb 1), .slice (eA 1) (en 1) (ec 1), .int .i64 (ex 1), .bool (eb 2), .slice (eA 2) (en 2) (ec 2), .int .i64 (ex 2), .bool (eb 3), .slice (eA 3) (en 3) (ec 3), .int .i64 (ex 3), .bool (eb i), .slice (eA i) (en i) (ec i), .int .i64 (ex i), .bool (eb j), .slice (eA j) (en j) (ec j), .int .i64 (ex j)] g a W ∧ (i < 4 ∧ j < 4 ∧ ∀ k, k < 4 → q i ≤ q k ∧ q k ≤ q j) | _ => False) (n := 3) ⟨jv S3 Juc64_14, 0, 0, _, r3.first, St.to S3 [0, 1, 2] (by kernel_rfl) (by kernel_rfl) (by decide) rfl, by omega, by omega, fun k hk => by obtain rfl : k = 0 := (by omega); exact ⟨Rat.le_refl, Rat.le_refl⟩⟩ ?_
 intro n a W hI
 match n, hI with
 | 3, hI =>
   obtain ⟨jj1, i, j, g4, b4, S4, hi, hj, hq⟩ := hI
   have r4 : Reach 64 w [W] W := .of_below b4
   refine wp_seq ?_
   refine wp_seq (rk (Ruc64_17 jj1) [] (Fuc64_16 jj1) Buc64_15 S4 r4 ?_)
   intro a5 g5 W5 r5 S5
   refine wp_cond_true (S5.cnd (by kernel_rfl)) ?_
   refine wp_skip ?_
   refine wp_seq ?_
   refine wp_block ?_
   refine wp_seq ?_
   refine wp_seq (rk (Ruc64_19 jj1) [] (Fuc64_18 jj1) Buc64_15 S5 r5 ?_)
   intro W6 g6 r6 _
   refine (dorder_q ((h 1 (by omega)).below r6.first) ((h i hi).below r6.first) (by omega) (tb hT r6)).mono ?_
   rintro _ V1 ⟨rfl, k1⟩
   refine ⟨[.int .i64 (cmpQ (q 1) (q i))], rfl, rfl, rfl, k1, ?_⟩
   intro a7 g7 W7 r7 S7
   refine wp_cond_split (t := decide ((cmpQ (q 1) (q i)) < 0)) (S7.cnd (by kernel_rfl)) (fun q1 => ?_) (fun q1 => ?_)
   · refine rk (Ruc64_21 jj1) [.st 2 0 (d3 3)] (Fuc64_20 jj1) Buc64_22 S7 r7 ?_
     intro a8 g8 W8 r8 S8
     refine wp_seq (rk (Ruc64_24 jj1) [] (Fuc64_23 jj1) Buc64_22 S8 r8 ?_)
     intro W9 g9 r9 _
     refine (dorder_q ((h 1 (by omega)).below r9.first) ((h j hj).below r9.first) (by omega) (tb hT r9)).mono ?_
     rintro _ V2 ⟨rfl, k2⟩
     refine ⟨[.int .i64 (cmpQ (q 1) (q j))], rfl, rfl, rfl, k2, ?_⟩
     intro a10 g10 W10 r10 S10
     refine wp_cond_split (t := decide ((cmpQ (q 1) (q j)) > 0)) (S10.cnd (by kernel_rfl)) (fun q2 => ?_) (fun q2 => ?_)
     · refine rk (Ruc64_26 jj1) [.st 2 3 (d3 3)] (Fuc64_25 jj1) Buc64_27 S10 r10 ?_
       intro a11 g11 W11 r11 S11
       refine rk (Ruc64_29 jj1) [.mv (li 2)] (Fuc64_28 jj1) Buc64_27 S11 r11 ?_
       intro a12 g12 W12 r12 S12
       exact ⟨2, by omega, jv S12 Juc64_14, 1, 1, _, r12.first, St.to S12 [0, 1, 2] (by kernel_rfl) (by kernel_rfl) (by decide) rfl, by omega, by omega, span_step hq q1 q2⟩
     · refine wp_skip ?_
       refine rk (Ruc64_31 jj1) [.mv (li 2)] (Fuc64_30 jj1) Buc64_22 S10 r10 ?_
       intro a11 g11 W11 r11 S11
       exact ⟨2, by omega, jv S11 Juc64_14, 1, j, _, r11.first, St.to S11 [0, 1, 2] (by kernel_rfl) (by kernel_rfl) (by decide) rfl, by omega, by omega, span_step hq q1 q2⟩
   · refine wp_skip ?_
     refine wp_seq (rk (Ruc64_33 jj1) [] (Fuc64_32 jj1) Buc64_15 S7 r7 ?_)
     intro W8 g8 r8 _
     refine (dorder_q ((h 1 (by omega)).below r8.first) ((h j hj).below r8.first) (by omega) (tb hT r8)).mono ?_
     rintro _ V3 ⟨rfl, k3⟩
     refine ⟨[.int .i64 (cmpQ (q 1) (q j))], rfl, rfl, rfl, k3, ?_⟩
     intro a9 g9 W9 r9 S9
     refine wp_cond_split (t := decide ((cmpQ (q 1) (q j)) > 0)) (S9.cnd (by kernel_rfl)) (fun q3 => ?_) (fun q3 => ?_)
     · refine rk (Ruc64_35 jj1) [.st 2 3 (d3 3)] (Fuc64_34 jj1) Buc64_36 S9 r9 ?_
       intro a10 g10 W10 r10 S10
       refine rk (Ruc64_38 jj1) [.mv (li 2)] (Fuc64_37 jj1) Buc64_36 S10 r10 ?_
       intro a11 g11 W11 r11 S11
       exact ⟨2, by omega, jv S11 Juc64_14, i, 1, _, r11.first, St.to S11 [0, 1, 2] (by kernel_rfl) (by kernel_rfl) (by decide) rfl, by omega, by omega, span_step hq q1 q3⟩
     · refine wp_skip ?_
       refine rk (Ruc64_40 jj1) [.mv (li 2)] (Fuc64_39 jj1) Buc64_15 S9 r9 ?_
       intro a10 g10 W10 r10 S10
       exact ⟨2, by omega, jv S10 Juc64_14, i, j, _, r10.first, St.to S10 [0, 1, 2] (by kernel_rfl) (by kernel_rfl) (by decide) rfl, by omega, by omega, span_step hq q1 q3⟩
 | 2, hI =>
   obtain ⟨jj1, i, j, g4, b4, S4, hi, hj, hq⟩ := hI
   have r4 : Reach 64 w [W] W := .of_below b4
   refine wp_seq ?_
   refine wp_seq (rk (Ruc64_42 jj1) [] (Fuc64_41 jj1) Buc64_15 S4 r4 ?_)
   intro a5 g5 W5 r5 S5
   refine wp_cond_true (S5.cnd (by kernel_rfl)) ?_
   refine wp_skip ?_
   refine wp_seq ?_
   refine wp_block ?_
   refine wp_seq ?_
   refine wp_seq (rk (Ruc64_44 jj1) [] (Fuc64_43 jj1) Buc64_15 S5 r5 ?_)
   intro W6 g6 r6 _
   refine (dorder_q ((h 2 (by omega)).below r6.first) ((h i hi).below r6.first) (by omega) (tb hT r6)).mono ?_
   rintro _ V4 ⟨rfl, k4⟩
   refine ⟨[.int .i64 (cmpQ (q 2) (q i))], rfl, rfl, rfl, k4, ?_⟩
   intro a7 g7 W7 r7 S7
   refine wp_cond_split (t := decide ((cmpQ (q 2) (q i)) < 0)) (S7.cnd (by kernel_rfl)) (fun q1 => ?_) (fun q1 => ?_)
   · refine rk (Ruc64_46 jj1) [.st 2 0 (d3 6)] (Fuc64_45 jj1) Buc64_47 S7 r7 ?_
     intro a8 g8 W8 r8 S8
     refine wp_seq (rk (Ruc64_49 jj1) [] (Fuc64_48 jj1) Buc64_47 S8 r8 ?_)
     intro W9 g9 r9 _
     refine (dorder_q ((h 2 (by omega)).below r9.first) ((h j hj).below r9.first) (by omega) (tb hT r9)).mono ?_
     rintro _ V5 ⟨rfl, k5⟩
     refine ⟨[.int .i64 (cmpQ (q 2) (q j))], rfl, rfl, rfl, k5, ?_⟩
     intro a10 g10 W10 r10 S10
     refine wp_cond_split (t := decide ((cmpQ (q 2) (q j)) > 0)) (S10.cnd (by kernel_rfl)) (fun q2 => ?_) (fun q2 => ?_)
     · refine rk (Ruc64_51 jj1) [.st 2 3 (d3 6)] (Fuc64_50 jj1) Buc64_52 S10 r10 ?_
       intro a11 g11 W11 r11 S11
       refine rk (Ruc64_54 jj1) [.mv (li 3)] (Fuc64_53 jj1) Buc64_52 S11 r11 ?_
       intro a12 g12 W12 r12 S12
       exact ⟨1, by omega, jv S12 Juc64_14, 2, 2, _, r12.first, St.to S12 [0, 1, 2] (by kernel_rfl) (by kernel_rfl) (by decide) rfl, by omega, by omega, span_step hq q1 q2⟩
     · refine wp_skip ?_
       refine rk (Ruc64_56 jj1) [.mv (li 3)] (Fuc64_55 jj1) Buc64_47 S10 r10 ?_
       intro a11 g11 W11 r11 S11
       exact ⟨1, by omega, jv S11 Juc64_14, 2, j, _, r11.first, St.to S11 [0, 1, 2] (by kernel_rfl) (by kernel_rfl) (by decide) rfl, by omega, by omega, span_step hq q1 q2⟩
   · refine wp_skip ?_
     refine wp_seq (rk (Ruc64_58 jj1) [] (Fuc64_57 jj1) Buc64_15 S7 r7 ?_)
     intro W8 g8 r8 _
     refine (dorder_q ((h 2 (by omega)).below r8.first) ((h j hj).below r8.first) (by omega) (tb hT r8)).mono ?_
     rintro _ V6 ⟨rfl, k6⟩
     refine ⟨[.int .i64 (cmpQ (q 2) (q j))], rfl, rfl, rfl, k6, ?_⟩
     intro a9 g9 W9 r9 S9
     refine wp_cond_split (t := decide ((cmpQ (q 2) (q j)) > 0)) (S9.cnd (by kernel_rfl)) (fun q3 => ?_) (fun q3 => ?_)
     · refine rk (Ruc64_60 jj1) [.st 2 3 (d3 6)] (Fuc64_59 jj1) Buc64_61 S9 r9 ?_
       intro a10 g10 W10 r10 S10
       refine rk (Ruc64_63 jj1) [.mv (li 3)] (Fuc64_62 jj1) Buc64_61 S10 r10 ?_
       intro a11 g11 W11 r11 S11
       exact ⟨1, by omega, jv S11 Juc64_14, i, 2, _, r11.first, St.to S11 [0, 1, 2] (by kernel_rfl) (by kernel_rfl) (by decide) rfl, by omega, by omega, span_step hq q1 q3⟩
     · refine wp_skip ?_
       refine rk (Ruc64_65 jj1) [.mv (li 3)] (Fuc64_64 jj1) Buc64_15 S9 r9 ?_
       intro a10 g10 W10 r10 S10
       exact ⟨1, by omega, jv S10 Juc64_14, i, j, _, r10.first, St.to S10 [0, 1, 2] (by kernel_rfl) (by kernel_rfl) (by decide) rfl, by omega, by omega, span_step hq q1 q3⟩
 | 1, hI =>
   obtain ⟨jj1, i, j, g4, b4, S4, hi, hj, hq⟩ := hI
   have r4 : Reach 64 w [W] W := .of_below b4
   refine wp_seq ?_
   refine wp_seq (rk (Ruc64_67 jj1) [] (Fuc64_66 jj1) Buc64_15 S4 r4 ?_)
   intro a5 g5 W5 r5 S5
   refine wp_cond_true (S5.cnd (by kernel_rfl)) ?_
   refine wp_skip ?_
   refine wp_seq ?_
   refine wp_block ?_
   refine wp_seq ?_
   refine wp_seq (rk (Ruc64_69 jj1) [] (Fuc64_68 jj1) Buc64_15 S5 r5 ?_)
   intro W6 g6 r6 _
   refine (dorder_q ((h 3 (by omega)).below r6.first) ((h i hi).below r6.first) (by omega) (tb hT r6)).mono ?_
   rintro _ V7 ⟨rfl, k7⟩
   refine ⟨[.int .i64 (cmpQ (q 3) (q i))], rfl, rfl, rfl, k7, ?_⟩
   intro a7 g7 W7 r7 S7
   refine wp_cond_split (t := decide ((cmpQ (q 3) (q i)) < 0)) (S7.cnd (by kernel_rfl)) (fun q1 => ?_) (fun q1 => ?_)
   · refine rk (Ruc64_71 jj1) [.st 2 0 (d3 9)] (Fuc64_70 jj1) Buc64_72 S7 r7 ?_
     intro a8 g8 W8 r8 S8
     refine wp_seq (rk (Ruc64_74 jj1) [] (Fuc64_73 jj1) Buc64_72 S8 r8 ?_)
     intro W9 g9 r9 _
     refine (dorder_q ((h 3 (by omega)).below r9.first) ((h j hj).below r9.first) (by omega) (tb hT r9)).mono ?_
     rintro _ V8 ⟨rfl, k8⟩
     refine ⟨[.int .i64 (cmpQ (q 3) (q j))], rfl, rfl, rfl, k8, ?_⟩
     intro a10 g10 W10 r10 S10
     refine wp_cond_split (t := decide ((cmpQ (q 3) (q j)) > 0)) (S10.cnd (by kernel_rfl)) (fun q2 => ?_) (fun q2 => ?_)
     · refine rk (Ruc64_76 jj1) [.st 2 3 (d3 9)] (Fuc64_75 jj1) Buc64_77 S10 r10 ?_
       intro a11 g11 W11 r11 S11
       refine rk (Ruc64_79 jj1) [.mv (li 4)] (Fuc64_78 jj1) Buc64_77 S11 r11 ?_
       intro a12 g12 W12 r12 S12
       exact ⟨0, by omega, jv S12 Juc64_14, 3, 3, _, r12.first, St.to S12 [0, 1, 2] (by kernel_rfl) (by kernel_rfl) (by decide) rfl, by omega, by omega, span_step hq q1 q2⟩
     · refine wp_skip ?_
       refine rk (Ruc64_81 jj1) [.mv (li 4)] (Fuc64_80 jj1) Buc64_72 S10 r10 ?_
       intro a11 g11 W11 r11 S11
       exact ⟨0, by omega, jv S11 Juc64_14, 3, j, _, r11.first, St.to S11 [0, 1, 2] (by kernel_rfl) (by kernel_rfl) (by decide) rfl, by omega, by omega, span_step hq q1 q2⟩
   · refine wp_skip ?_
     refine wp_seq (rk (Ruc64_83 jj1) [] (Fuc64_82 jj1) Buc64_15 S7 r7 ?_)
     intro W8 g8 r8 _
     refine (dorder_q ((h 3 (by omega)).below r8.first) ((h j hj).below r8.first) (by omega) (tb hT r8)).mono ?_
     rintro _ V9 ⟨rfl, k9⟩
     refine ⟨[.int .i64 (cmpQ (q 3) (q j))], rfl, rfl, rfl, k9, ?_⟩
     intro a9 g9 W9 r9 S9
     refine wp_cond_split (t := decide ((cmpQ (q 3) (q j)) > 0)) (S9.cnd (by kernel_rfl)) (fun q3 => ?_) (fun q3 => ?_)
     · refine rk (Ruc64_85 jj1) [.st 2 3 (d3 9)] (Fuc64_84 jj1) Buc64_86 S9 r9 ?_
       intro a10 g10 W10 r10 S10
       refine rk (Ruc64_88 jj1) [.mv (li 4)] (Fuc64_87 jj1) Buc64_86 S10 r10 ?_
       intro a11 g11 W11 r11 S11
       exact ⟨0, by omega, jv S11 Juc64_14, i, 3, _, r11.first, St.to S11 [0, 1, 2] (by kernel_rfl) (by kernel_rfl) (by decide) rfl, by omega, by omega, span_step hq q1 q3⟩
     · refine wp_skip ?_
       refine rk (Ruc64_90 jj1) [.mv (li 4)] (Fuc64_89 jj1) Buc64_15 S9 r9 ?_
       intro a10 g10 W10 r10 S10
       exact ⟨0, by omega, jv S10 Juc64_14, i, j, _, r10.first, St.to S10 [0, 1, 2] (by kernel_rfl) (by kernel_rfl) (by decide) rfl, by omega, by omega, span_step hq q1 q3⟩
 | 0, hI =>
   obtain ⟨jj1, i, j, g4, b4, S4, hi, hj, hq⟩ := hI
   have r4 : Reach 64 w [W] W := .of_below b4
   refine wp_seq ?_
   refine wp_seq (rk (Ruc64_92 jj1) [] (Fuc64_91 jj1) Buc64_15 S4 r4 ?_)
   intro a5 g5 W5 r5 S5
   refine wp_cond_false (S5.cnd (by kernel_rfl)) ?_
   refine wp_exit (then_exit (then_exit (exit_in ?_)))
   refine wp_seq (rk (Ruc64_94 jj1) [.st 1 0 (i6 12)] (Fuc64_93 jj1) Buc64_95 S5 r5 ?_)
   intro _ g6 W6 r6 S6
   exact rt S6 [.agg #[.bool (eb i), .slice (eA i) (en i) (ec i), .int .i64 (ex i), .bool (eb j), .slice (eA j) (en j) (ec j), .int .i64 (ex j)]] (⟨i, j, hi, hj, hq, rfl, r6.first⟩)
open Go.RowKit Go.Proofs.YtkdicconchobfaaGreatDoorW.PrintWords Limb
theorem great_all (l : List Nat) (A : Option Addr) (c : Nat) (w : World) (hr : kU.C w A l.length l) (hc : l.length ≤ c) (hw : Wf l) :
 Calls Tryz.prog 41 #[.slice A l.length c] w fun e w' => e = .returned (.bool (decide (1024 < (limbs (nv l)).length))) ∧ BL w w' := by
 have hl : l.length ≤ 9223372036854775807 := Kd.C_max hr
 have HR := yk hr
 have HW := yk hw
 clear hr hw
 go_enter Tryz.func41, Tryz.ntmps41
 go_wp2
 go_loopw [3, 8] (fun v3 v8 wr => ∃ t k : Nat, v3 = .int .i64 t ∧ v8 = .int .i64 k ∧ t ≤ k ∧ k ≤ l.length ∧ Aside0 (∃ n, wr = w.drewN n) ∧ Aside0 ((∀ j x, t ≤ j → j < k → l[j]? = some x → x = 0) ∧ (0 < t → ∃ x, l[t - 1]? = some x ∧ x ≠ 0))) (fun _ v8 _ => l.length - (intOf v8).toNat)
 case atStart => exact ⟨0, 0, rfl, rfl, Nat.le_refl _, Nat.zero_le _, ⟨⟨0, rfl⟩⟩, ⟨fun j x _ h _ => by omega, fun h => by omega⟩⟩
 case round =>
  obtain ⟨t, k, rfl, rfl, htk, hk, HWR, HG⟩ := hrel
  obtain ⟨nw, rfl⟩ := HWR.out
  clear HWR
  by_cases hlt : k < l.length
  · obtain ⟨ad, x, rfl, hx0, hcell⟩ := at_word HR.out rfl k hlt
    have hx := yk hx0
    clear hx0
    by_cases hz : x = 0
    · subst hz
      go_wp2
      repeat (go_quiet (fail); try go_wp2)
      go_roundw
      case rel =>
       refine ⟨t, k + 1, rfl, by go_num, by omega, by omega, ⟨⟨_, rfl⟩⟩, ⟨fun j y h1 h2 hy => ?_, HG.out.2⟩⟩
       by_cases hjk : j = k
       · subst hjk
         have := hx.out
         rw [hy] at this
         exact Option.some.inj this
       · exact HG.out.1 j y h1 (by omega) hy
      case measure => simp [intOf]; omega
    · have hxz : ((x : Int) != 0) = true := by simp; exact hz
      have HZ := yk hz
      clear hz
      go_wp2
      repeat (go_quiet (fail); try go_wp2)
      go_roundw
      case rel => exact ⟨k + 1, k + 1, by go_num, by go_num, Nat.le_refl _, by omega, ⟨⟨_, rfl⟩⟩, ⟨fun j y h1 h2 hy => by omega, fun _ => ⟨x, hx.out, HZ.out⟩⟩⟩
      case measure => simp [intOf]; omega
  · obtain rfl : k = l.length := by omega
    have HK := yk (show (limbs (nv l)).length = t by
     rw [limbs_take HW.out htk (fun j x h1 h2 => by
      by_cases hj : j < l.length
      · exact HG.out.1 j x h1 hj h2
      · rw [List.getElem?_eq_none (by omega)] at h2; cases h2) HG.out.2, List.length_take]; omega)
    have HD := yk (show decide ((1024 : Int) < (t : Int)) = decide (1024 < t) by
     by_cases h : 1024 < t
     · rw [decide_eq_true h, decide_eq_true (by omega)]
     · rw [decide_eq_false h, decide_eq_false (by omega)])
    go_wp2
    go_ret
    exact ⟨by rw [HK.out, ← HD.out]; rfl, pw_below_drewN yr _⟩
def Fud20_0 := [dg 0, U, U, U, U, U, U, U, U]
def Fud20_1 := fs Fud20_0 [(1, ps 0 0), (2, ps 1 0)]
def Bud20_2 := [bb 25 (d3 0), bb 28 o6]
def Rud20_3 : Rg := ⟨2, 3, 0, Fud20_0, Bud20_2, [pa 0 0, pa 1 0], []⟩
def Fud20_4 := fs Fud20_1 [(3, ps 2 0), (4, dg 0), (5, dg 3)]
def Bud20_5 := [bb 25 (d3 0), bb 28 o6, bb 25 o3]
def Rud20_6 : Rg := ⟨3, 3, 2, Fud20_1, Bud20_5, [pl (dg 0) 0 0 0, pc (dg 3) 0 44 [dg 0] 3, pa 2 0], [1]⟩
def Bud20_7 := [bb 25 (d3 0), bb 28 o6, bb 25 (d3 3)]
def Fud20_8 := fs Fud20_4 [(6, dg 3), (7, dg 3), (8, ag [vb 3, vs 4, vi 5, vb 3, vs 4, vi 5])]
def Rud20_9 : Rg := ⟨3, 6, 3, Fud20_4, Bud20_7, [pl (dg 3) 0 2 0, pl (dg 3) 0 2 0, pv (ag [vb 3, vs 4, vi 5, vb 3, vs 4, vi 5]) 0], []⟩
def Bud20_10 := [bb 25 (d3 0), bb 28 [vb 3, vs 4, vi 5, vb 3, vs 4, vi 5], bb 25 (d3 3)]
def Fud77_0 := [ig 0, U, U, U, U, U, U, U, U, U]
def Fud77_1 := fs Fud77_0 [(1, ps 0 0), (2, ps 1 0)]
def Bud77_2 := [bb 28 (i6 0), bb 28 o6]
def Rud77_3 : Rg := ⟨2, 6, 0, Fud77_0, Bud77_2, [pa 0 0, pa 1 0], []⟩
def Fud77_4 := fs Fud77_1 [(3, ps 0 0), (4, dg 0), (5, dg 6), (6, ps 0 3), (7, dg 3), (8, dg 9), (9, ig 6)]
def Rud77_5 : Rg := ⟨7, 6, 2, Fud77_1, Bud77_2, [pv (ps 0 0) 0, pl (dg 0) 0 0 0, pc (dg 6) 0 44 [dg 0] 3, pv (ps 0 3) 0, pl (dg 3) 0 0 3, pc (dg 9) 1 44 [dg 3] 3, pv (ig 6) 2], [2, 5]⟩
def Bud77_6 := [bb 28 (i6 0), bb 28 (i6 6)]
def Fud51_0 := [ig 0, U, U, U, U, U, U, U, U, U]
def Fud51_1 := fs Fud51_0 [(1, ps 0 0), (2, ps 1 0)]
def Bud51_2 := [bb 28 (i6 0), bb 28 o6]
def Rud51_3 : Rg := ⟨2, 6, 0, Fud51_0, Bud51_2, [pa 0 0, pa 1 0], []⟩
def Fud51_4 := fs Fud51_1 [(3, ps 0 3), (4, dg 3), (5, dg 6), (6, ps 0 0), (7, dg 0), (8, dg 9), (9, ig 6)]
def Rud51_5 : Rg := ⟨7, 6, 2, Fud51_1, Bud51_2, [pv (ps 0 3) 0, pl (dg 3) 0 0 3, pc (dg 6) 0 93 [dg 3] 3, pv (ps 0 0) 0, pl (dg 0) 0 0 0, pc (dg 9) 1 93 [dg 0] 3, pv (ig 6) 2], [2, 5]⟩
def Bud51_6 := [bb 28 (i6 0), bb 28 (i6 6)]
def Fud63_0 := [ig 0, vi 6, U, U, U, U, U, U, U, U, U, U, U, U]
def Fud63_1 := fs Fud63_0 [(2, ps 0 0), (4, ps 1 0)]
def Bud63_2 := [bb 28 (i6 0), bb 28 o6]
def Rud63_3 : Rg := ⟨2, 7, 0, Fud63_0, Bud63_2, [pa 0 0, pa 1 0], []⟩
def Fud63_4 := fs Fud63_1 [(5, ps 0 0), (6, dg 0), (7, vi 6), (8, dg 7), (9, ps 0 3), (10, dg 3), (11, vi 6), (12, dg 10), (13, ig 7)]
def Rud63_5 : Rg := ⟨9, 7, 2, Fud63_1, Bud63_2, [pv (ps 0 0) 0, pl (dg 0) 0 0 0, pv (vi 6) 0, pc (dg 7) 0 108 [dg 0, vi 6, lb false] 3, pv (ps 0 3) 0, pl (dg 3) 0 0 3, pv (vi 6) 0, pc (dg 10) 1 108 [dg 3, vi 6, lb true] 3, pv (ig 7) 2], [3, 7]⟩
def Bud63_6 := [bb 28 (i6 0), bb 28 (i6 7)]
theorem dtrim_i {v : Value} {a b : Rat} {N p : Nat} {w : World} (h : CI w v a b N) (hN : N ≤ 67108864) (hp : 1 ≤ p) (hp2 : p ≤ 67108864) (hT : TB w) :
 Calls Tryz.prog 63 #[v, .int .i64 (p : Int)] w fun en w' => ∃ v' l u, en = .returned v' ∧ PI w' w.heap.size v' l u (N + 1) ∧ CutOf false a l (ep p) ∧ CutOf true b u (ep p) ∧ Short p l ∧ Short p u ∧ BL w w' := by
 obtain ⟨b0, A0, n0, c0, x0, d0, B0, m0, e0, y0, rfl⟩ := h.ex
 refine fn_enter (u := 64) (fn := Tryz.f63) Tryz.func63 rfl Fud63_0 [.bool b0, .slice A0 n0 c0, .int .i64 x0, .bool d0, .slice B0 m0 e0, .int .i64 y0, .int .i64 (p : Int)] (by kernel_rfl) rfl (fun a0 S0 r0 => ?_)
 refine wp_seq (rk Rud63_3 [] Fud63_1 Bud63_2 S0 r0 ?_)
 intro _ _ _ r1 S1
 refine wp_seq (rk Rud63_5 [.st 1 0 (i6 7)] Fud63_4 Bud63_6 S1 r1 ?_)
 intro _ _ r2 _
 refine (dtrim_q (h.below r2.first).lo hN hp hp2 (tb hT r2)).mono ?_
 rintro _ V1 ⟨v, y1, rfl, h1, e1, s1, k1⟩
 obtain ⟨b1, A1, n1, c1, x1, rfl⟩ := h1.ex
 replace h1 := h1.lower r2.fs
 refine ⟨[.bool b1, .slice A1 n1 c1, .int .i64 x1], rfl, rfl, rfl, k1, ?_⟩
 intro _ _ r3 _
 refine (dtrim_q (h.below r3.first).hi hN hp hp2 (tb hT r3)).mono ?_
 rintro _ V2 ⟨v, y2, rfl, h2, e2, s2, k2⟩
 obtain ⟨b2, A2, n2, c2, x2, rfl⟩ := h2.ex
 replace h2 := h2.lower r3.fs
 refine ⟨[.bool b2, .slice A2 n2 c2, .int .i64 x2], rfl, rfl, rfl, k2, ?_⟩
 intro _ _ _ r4 S4
 exact rt S4 [.agg #[.bool b1, .slice A1 n1 c1, .int .i64 x1, .bool b2, .slice A2 n2 c2, .int .i64 x2]] (⟨_, _, _, rfl, .mk (h1.lat (r4.at_ 0 _ rfl)) (h2.lat (r4.at_ 1 _ rfl)), e1, e2, s1, s2, r4.first⟩)
def Fud50_0 := [ig 0, ig 6, vi 12, U, U, U, U, U, U, U, U, U, U, U, U, U, U, U, U, U]
def Fud50_1 := fs Fud50_0 [(3, ps 0 0), (4, ps 1 0), (6, ps 2 0)]
def Bud50_2 := [bb 28 (i6 0), bb 28 (i6 6), bb 28 o6]
def Rud50_3 : Rg := ⟨3, 13, 0, Fud50_0, Bud50_2, [pa 0 0, pa 1 0, pa 2 0], []⟩
def Fud50_4 := fs Fud50_1 [(7, ps 0 0), (8, dg 0), (9, ps 1 0), (10, dg 6), (11, dg 13), (12, ps 0 3), (13, dg 3), (14, ps 1 3), (15, dg 9), (16, dg 16), (17, ig 13), (18, vi 12), (19, ig 19)]
def Rud50_5 : Rg := ⟨13, 13, 3, Fud50_1, Bud50_2, [pv (ps 0 0) 0, pl (dg 0) 0 0 0, pv (ps 1 0) 0, pl (dg 6) 0 1 0, pc (dg 13) 0 27 [dg 0, dg 6] 3, pv (ps 0 3) 0, pl (dg 3) 0 0 3, pv (ps 1 3) 0, pl (dg 9) 0 1 3, pc (dg 16) 1 27 [dg 3, dg 9] 3, pv (ig 13) 2, pv (vi 12) 0, pc (ig 19) 2 63 [ig 13, vi 12] 6], [4, 9, 12]⟩
def Bud50_6 := [bb 28 (i6 0), bb 28 (i6 6), bb 28 (i6 19)]
def Fud24_0 := [ig 0, ig 6, vi 12, U, U, U, U, U, U, U, U, U]
def Fud24_1 := fs Fud24_0 [(3, ps 0 0), (4, ps 1 0), (6, ps 2 0)]
def Bud24_2 := [bb 28 (i6 0), bb 28 (i6 6), bb 28 o6]
def Rud24_3 : Rg := ⟨3, 13, 0, Fud24_0, Bud24_2, [pa 0 0, pa 1 0, pa 2 0], []⟩
def Fud24_4 := fs Fud24_1 [(7, ig 0), (8, ig 6), (9, ig 13), (10, vi 12), (11, ig 19)]
def Rud24_5 : Rg := ⟨5, 13, 3, Fud24_1, Bud24_2, [pl (ig 0) 0 0 0, pl (ig 6) 0 1 0, pc (ig 13) 0 51 [ig 6] 6, pv (vi 12) 0, pc (ig 19) 1 50 [ig 0, ig 13, vi 12] 6], [2, 4]⟩
def Bud24_6 := [bb 28 (i6 0), bb 28 (i6 6), bb 28 (i6 19)]
def Fud31_0 := [ig 0, ig 6, vi 12, U, U, U, U, U, U, U, U, U, U, U, U, U, U, U, U, U, U, U, U, U, U, U, U, U, U, U, U, U, U]
def Fud31_1 := fs Fud31_0 [(3, ps 0 0), (4, ps 1 0), (6, ps 2 0)]
def Bud31_2 := [bb 28 (i6 0), bb 28 (i6 6), bb 28 o6]
def Rud31_3 : Rg := ⟨3, 13, 0, Fud31_0, Bud31_2, [pa 0 0, pa 1 0, pa 2 0], []⟩
def Fud31_4 := fs Fud31_1 [(7, osl (ps 3 0) 4), (8, ps 0 0), (9, dg 0), (10, ps 1 0), (11, dg 6), (12, dg 13), (13, ps 0 0), (14, dg 0), (15, ps 1 3), (16, dg 9), (17, dg 16), (18, ps 0 3), (19, dg 3), (20, ps 1 0), (21, dg 6), (22, dg 19), (23, ps 0 3), (24, dg 3), (25, ps 1 3), (26, dg 9), (27, dg 22), (28, osl (ps 3 0) 4)]
def Bud31_5 := [bb 28 (i6 0), bb 28 (i6 6), bb 28 o6, bb 25 [vb 13, vs 14, vi 15, vb 16, vs 17, vi 18, vb 19, vs 20, vi 21, vb 22, vs 23, vi 24]]
def Rud31_6 : Rg := ⟨22, 13, 3, Fud31_1, Bud31_5, [pv (ps 0 0) 0, pl (dg 0) 0 0 0, pv (ps 1 0) 0, pl (dg 6) 0 1 0, pc (dg 13) 0 62 [dg 0, dg 6] 3, pv (ps 0 0) 0, pl (dg 0) 0 0 0, pv (ps 1 3) 0, pl (dg 9) 0 1 3, pc (dg 16) 1 62 [dg 0, dg 9] 3, pv (ps 0 3) 0, pl (dg 3) 0 0 3, pv (ps 1 0) 0, pl (dg 6) 0 1 0, pc (dg 19) 2 62 [dg 3, dg 6] 3, pv (ps 0 3) 0, pl (dg 3) 0 0 3, pv (ps 1 3) 0, pl (dg 9) 0 1 3, pc (dg 22) 3 62 [dg 3, dg 9] 3, ⟨osl (ps 3 0) 4, 4, [3], .al 3, osl (ps 3 0) 4⟩, ⟨osl (ps 3 0) 4, 4, [3], .val, osl (ps 3 0) 4⟩], [4, 9, 14, 19]⟩
def Fud31_7 := fs Fud31_4 [(29, osl (ps 3 0) 4), (30, ig 25), (31, vi 12), (32, ig 31)]
def Rud31_8 : Rg := ⟨4, 25, 4, Fud31_4, Bud31_5, [pv (osl (ps 3 0) 4) 0, ⟨ig 25, 0, [], .cl 0 64 [osl (ps 3 0) 4] 6 [3], ig 25⟩, pv (vi 12) 0, pc (ig 31) 1 63 [ig 25, vi 12] 6], [1, 3]⟩
def Bud31_9 := [bb 28 (i6 0), bb 28 (i6 6), bb 28 (i6 31), bb 25 [vb 13, vs 14, vi 15, vb 16, vs 17, vi 18, vb 19, vs 20, vi 21, vb 22, vs 23, vi 24]]
theorem dtimes_i {u v : Value} {a b c d : Rat} {N M p : Nat} {w : World} (h : CI w u a b N) (h' : CI w v c d M) (hN : N + M ≤ 16777215) (hp : 1 ≤ p) (hp2 : p ≤ 67108864) (hT : TB w) :
 Calls Tryz.prog 31 #[u, v, .int .i64 (p : Int)] w fun en w' => ∃ v' l u, en = .returned v' ∧ PI w' w.heap.size v' l u (N + M + 1) ∧ (∃ x y, Four (mul4 a b c d) x y ∧ CutOf false x l (ep p) ∧ CutOf true y u (ep p)) ∧ Short p l ∧ Short p u ∧ BL w w' := by
 obtain ⟨b0, A0, n0, c0, x0, d0, B0, m0, e0, y0, rfl⟩ := h.ex
 obtain ⟨b9, A9, n9, c9, x9, d9, B9, m9, e9, y9, rfl⟩ := h'.ex
 refine fn_enter (u := 64) (fn := Tryz.f31) Tryz.func31 rfl Fud31_0 [.bool b0, .slice A0 n0 c0, .int .i64 x0, .bool d0, .slice B0 m0 e0, .int .i64 y0, .bool b9, .slice A9 n9 c9, .int .i64 x9, .bool d9, .slice B9 m9 e9, .int .i64 y9, .int .i64 (p : Int)] (by kernel_rfl) rfl (fun a0 S0 r0 => ?_)
 refine wp_seq (rk Rud31_3 [] Fud31_1 Bud31_2 S0 r0 ?_)
 intro _ _ _ r1 S1
 refine wp_seq (rk Rud31_6 [] Fud31_4 Bud31_5 S1 r1 ?_)
 intro _ _ r2 _
 refine (dtimes_q (h.below r2.first).lo (h'.below r2.first).lo (by omega) (by omega) (tb hT r2)).mono ?_
 rintro _ V1 ⟨v, rfl, h1, k1⟩
 obtain ⟨b1, A1, n1, c1, x1, rfl⟩ := h1.ex
 replace h1 := h1.lower r2.fs
 refine ⟨[.bool b1, .slice A1 n1 c1, .int .i64 x1], rfl, rfl, rfl, k1, ?_⟩
 intro _ _ r3 _
 refine (dtimes_q (h.below r3.first).lo (h'.below r3.first).hi (by omega) (by omega) (tb hT r3)).mono ?_
 rintro _ V2 ⟨v, rfl, h2, k2⟩
 obtain ⟨b2, A2, n2, c2, x2, rfl⟩ := h2.ex
 replace h2 := h2.lower r3.fs
 refine ⟨[.bool b2, .slice A2 n2 c2, .int .i64 x2], rfl, rfl, rfl, k2, ?_⟩
 intro _ _ r4 _
 refine (dtimes_q (h.below r4.first).hi (h'.below r4.first).lo (by omega) (by omega) (tb hT r4)).mono ?_
 rintro _ V3 ⟨v, rfl, h3, k3⟩
 obtain ⟨b3, A3, n3, c3, x3, rfl⟩ := h3.ex
 replace h3 := h3.lower r4.fs
 refine ⟨[.bool b3, .slice A3 n3 c3, .int .i64 x3], rfl, rfl, rfl, k3, ?_⟩
 intro _ _ r5 _
 refine (dtimes_q (h.below r5.first).hi (h'.below r5.first).hi (by omega) (by omega) (tb hT r5)).mono ?_
 rintro _ V4 ⟨v, rfl, h4, k4⟩
 obtain ⟨b4, A4, n4, c4, x4, rfl⟩ := h4.ex
 replace h4 := h4.lower r5.fs
 refine ⟨[.bool b4, .slice A4 n4 c4, .int .i64 x4], rfl, rfl, rfl, k4, ?_⟩
 intro _ _ _ r6 S6
 refine wp_seq (rk Rud31_8 [.st 2 0 (i6 31)] Fud31_7 Bud31_9 S6 r6 ?_)
 intro W7 g7 r7 q7
 refine (dspan_q (eb := (fun | 0 => b1 | 1 => b2 | 2 => b3 | _ => b4)) (eA := (fun | 0 => A1 | 1 => A2 | 2 => A3 | _ => A4)) (en := (fun | 0 => n1 | 1 => n2 | 2 => n3 | _ => n4)) (ec := (fun | 0 => c1 | 1 => c2 | 2 => c3 | _ => c4)) (ex := (fun | 0 => x1 | 1 => x2 | 2 => x3 | _ => x4)) (q := mul4 a b c d) (g0 := g7 3) (N := N + M) (q7 3 (by decide) _ rfl) (four_of (h1.lat (r7.at_ 0 _ rfl)).c (h2.lat (r7.at_ 1 _ rfl)).c (h3.lat (r7.at_ 2 _ rfl)).c (h4.lat (r7.at_ 3 _ rfl)).c) (by omega) (tb hT r7)).mono ?_
 rintro _ V5 ⟨i, j, hi, hj, hq, rfl, k5⟩
 refine ⟨[.bool ((fun | 0 => b1 | 1 => b2 | 2 => b3 | _ => b4) i), .slice ((fun | 0 => A1 | 1 => A2 | 2 => A3 | _ => A4) i) ((fun | 0 => n1 | 1 => n2 | 2 => n3 | _ => n4) i) ((fun | 0 => c1 | 1 => c2 | 2 => c3 | _ => c4) i), .int .i64 ((fun | 0 => x1 | 1 => x2 | 2 => x3 | _ => x4) i), .bool ((fun | 0 => b1 | 1 => b2 | 2 => b3 | _ => b4) j), .slice ((fun | 0 => A1 | 1 => A2 | 2 => A3 | _ => A4) j) ((fun | 0 => n1 | 1 => n2 | 2 => n3 | _ => n4) j) ((fun | 0 => c1 | 1 => c2 | 2 => c3 | _ => c4) j), .int .i64 ((fun | 0 => x1 | 1 => x2 | 2 => x3 | _ => x4) j)], rfl, rfl, rfl, k5, ?_⟩
 intro _ _ r8 _
 refine (dtrim_i (a := mul4 a b c d i) (b := mul4 a b c d j) (N := N + M) (PI.mk (four_of (p := fun k => PQ _ w.heap.size (.agg #[.bool ((fun | 0 => b1 | 1 => b2 | 2 => b3 | _ => b4) k), .slice ((fun | 0 => A1 | 1 => A2 | 2 => A3 | _ => A4) k) ((fun | 0 => n1 | 1 => n2 | 2 => n3 | _ => n4) k) ((fun | 0 => c1 | 1 => c2 | 2 => c3 | _ => c4) k), .int .i64 ((fun | 0 => x1 | 1 => x2 | 2 => x3 | _ => x4) k)]) (mul4 a b c d k) (N + M)) (h1.lat (r8.at_ 0 _ rfl)) (h2.lat (r8.at_ 1 _ rfl)) (h3.lat (r8.at_ 2 _ rfl)) (h4.lat (r8.at_ 3 _ rfl)) i hi) (four_of (p := fun k => PQ _ w.heap.size (.agg #[.bool ((fun | 0 => b1 | 1 => b2 | 2 => b3 | _ => b4) k), .slice ((fun | 0 => A1 | 1 => A2 | 2 => A3 | _ => A4) k) ((fun | 0 => n1 | 1 => n2 | 2 => n3 | _ => n4) k) ((fun | 0 => c1 | 1 => c2 | 2 => c3 | _ => c4) k), .int .i64 ((fun | 0 => x1 | 1 => x2 | 2 => x3 | _ => x4) k)]) (mul4 a b c d k) (N + M)) (h1.lat (r8.at_ 0 _ rfl)) (h2.lat (r8.at_ 1 _ rfl)) (h3.lat (r8.at_ 2 _ rfl)) (h4.lat (r8.at_ 3 _ rfl)) j hj)).c (by omega) hp hp2 (tb hT r8)).mono ?_
 rintro _ V6 ⟨v, l6, u6, rfl, h6, el6, eu6, sl6, su6, k6⟩
 obtain ⟨b6, A6, n6, c6, x6, d6, B6, m6, e6, y6, rfl⟩ := h6.ex
 replace h6 := h6.lower r8.fs
 refine ⟨[.bool b6, .slice A6 n6 c6, .int .i64 x6, .bool d6, .slice B6 m6 e6, .int .i64 y6], rfl, rfl, rfl, k6, ?_⟩
 intro _ _ _ r9 S9
 exact rt S9 [.agg #[.bool b6, .slice A6 n6 c6, .int .i64 x6, .bool d6, .slice B6 m6 e6, .int .i64 y6]] (⟨_, _, _, rfl, (h6.lat (r9.at_ 5 _ rfl)), ⟨_, _, ⟨i, j, hi, hj, hq, rfl, rfl⟩, el6, eu6⟩, sl6, su6, r9.first⟩)
theorem great_n {v : Value} {m : Nat} {w : World} (h : AN w v m) :
 Calls Tryz.prog 41 #[v] w fun en w' => en = .returned (.bool (decide (1024 < (limbs m).length))) ∧ BL w w' := by
 obtain ⟨A, n, c, l, rfl, h1, rfl, h3, h4, rfl⟩ := h
 exact great_all l A c w h1 h3 h4
theorem fit_if' {m : Nat} {x : Int} : (if (if (!decide (1024 < (limbs m).length)) = true then decide (x ≥ -32768) else false) = true then decide (x ≤ 32768) else false) = Fit m x := by
 unfold Fit
 by_cases h1 : 1024 < (limbs m).length
 · simp [h1]; omega
 · have h2 : (limbs m).length ≤ 1024 := by omega
   by_cases h3 : x ≥ -32768
   · simp [h1, h2, h3]
   · simp [h1, h2, h3]
def Fud17_0 := [dg 0, U, U, U, U, U, U, U, U, U, U, U, U, U, U, U, U]
def Fud17_1 := fs Fud17_0 [(1, ps 0 0), (2, lb false)]
def Bud17_2 := [bb 25 (d3 0)]
def Rud17_3 : Rg := ⟨2, 3, 0, Fud17_0, Bud17_2, [pa 0 0, pv (lb false) 0], []⟩
def Fud17_4 := fs Fud17_1 [(2, pk (pk (f1 noF (vb 3)) (bo .geq (vi 2) (li (-32768))) (lb false)) (bo .leq (vi 2) (li 32768)) (lb false)), (3, ps 0 1), (4, vs 1), (5, vb 3), (6, f1 noF (vb 3)), (7, f1 noF (vb 3)), (8, gd true (f1 noF (vb 3)) (ps 0 2)), (9, gd true (f1 noF (vb 3)) (vi 2)), (10, gd true (f1 noF (vb 3)) (bo .geq (vi 2) (li (-32768)))), (11, pk (f1 noF (vb 3)) (bo .geq (vi 2) (li (-32768))) (lb false)), (12, pk (f1 noF (vb 3)) (bo .geq (vi 2) (li (-32768))) (lb false)), (13, gd true (pk (f1 noF (vb 3)) (bo .geq (vi 2) (li (-32768))) (lb false)) (ps 0 2)), (14, gd true (pk (f1 noF (vb 3)) (bo .geq (vi 2) (li (-32768))) (lb false)) (vi 2)), (15, gd true (pk (f1 noF (vb 3)) (bo .geq (vi 2) (li (-32768))) (lb false)) (bo .leq (vi 2) (li 32768))), (16, pk (pk (f1 noF (vb 3)) (bo .geq (vi 2) (li (-32768))) (lb false)) (bo .leq (vi 2) (li 32768)) (lb false))]
def Rud17_5 : Rg := ⟨15, 3, 1, Fud17_1, Bud17_2, [pv (ps 0 1) 0, pl (vs 1) 0 0 1, pc (vb 3) 0 41 [vs 1] 1, pv (f1 noF (vb 3)) 1, pv (f1 noF (vb 3)) 1, ⟨ps 0 2, 1, [], .val, gd true (f1 noF (vb 3)) (ps 0 2)⟩, ⟨vi 2, 1, [], .ld 0 2, gd true (f1 noF (vb 3)) (vi 2)⟩, ⟨bo .geq (vi 2) (li (-32768)), 1, [], .val, gd true (f1 noF (vb 3)) (bo .geq (vi 2) (li (-32768)))⟩, ⟨pk (f1 noF (vb 3)) (bo .geq (vi 2) (li (-32768))) (lb false), 1, [], .pk, pk (f1 noF (vb 3)) (bo .geq (vi 2) (li (-32768))) (lb false)⟩, pv (pk (f1 noF (vb 3)) (bo .geq (vi 2) (li (-32768))) (lb false)) 1, ⟨ps 0 2, 1, [], .val, gd true (pk (f1 noF (vb 3)) (bo .geq (vi 2) (li (-32768))) (lb false)) (ps 0 2)⟩, ⟨vi 2, 1, [], .ld 0 2, gd true (pk (f1 noF (vb 3)) (bo .geq (vi 2) (li (-32768))) (lb false)) (vi 2)⟩, ⟨bo .leq (vi 2) (li 32768), 1, [], .val, gd true (pk (f1 noF (vb 3)) (bo .geq (vi 2) (li (-32768))) (lb false)) (bo .leq (vi 2) (li 32768))⟩, ⟨pk (pk (f1 noF (vb 3)) (bo .geq (vi 2) (li (-32768))) (lb false)) (bo .leq (vi 2) (li 32768)) (lb false), 1, [], .pk, pk (pk (f1 noF (vb 3)) (bo .geq (vi 2) (li (-32768))) (lb false)) (bo .leq (vi 2) (li 32768)) (lb false)⟩, pv (pk (pk (f1 noF (vb 3)) (bo .geq (vi 2) (li (-32768))) (lb false)) (bo .leq (vi 2) (li 32768)) (lb false)) 1], [2]⟩
theorem dright_all {v : Value} {s : Bool} {m : Nat} {x : Int} {w : World} (h : ADy w v s m x) :
 Calls Tryz.prog 17 #[v] w fun en w' => en = .returned (.bool (Fit m x)) ∧ BL w w' := by
 obtain ⟨A0, n0, c0, rfl, h⟩ := h
 have h : ADy w (.agg #[.bool s, .slice A0 n0 c0, .int .i64 x]) s m x := ⟨_, _, _, rfl, h⟩
 refine fn_enter (u := 64) (fn := Tryz.f17) Tryz.func17 rfl Fud17_0 [.bool s, .slice A0 n0 c0, .int .i64 x] (by kernel_rfl) rfl (fun a0 S0 r0 => ?_)
 refine wp_seq (rk Rud17_3 [] Fud17_1 Bud17_2 S0 r0 ?_)
 intro _ _ _ r1 S1
 refine wp_seq (rk Rud17_5 [] Fud17_4 Bud17_2 S1 r1 ?_)
 intro _ _ r2 _
 refine (great_n (h.below r2.first).n).mono ?_
 rintro _ V1 ⟨rfl, k1⟩
 refine ⟨[.bool (decide (1024 < (limbs m).length))], rfl, rfl, rfl, k1, ?_⟩
 intro _ _ _ r3 S3
 exact rt S3 [.bool (if if !(decide (1024 < (limbs m).length)) then decide (x ≥ (-32768)) else false then decide (x ≤ 32768) else false)] (⟨by rw [← fit_if']; rfl, r3.first⟩)
theorem dright_q {v : Value} {q : Rat} {N : Nat} {w : World} (h : CQ w v q N) :
 Calls Tryz.prog 17 #[v] w fun en w' => ∃ r : Bool, en = .returned (.bool r) ∧ (r = true ↔ FitQ q) ∧ BL w w' := by
 obtain ⟨z, e, h, rfl, hB⟩ := h
 refine (dright_all h.any).mono ?_
 rintro en w' ⟨rfl, hb⟩
 exact ⟨_, rfl, fitq_iff.symm, hb⟩
def Fud45_0 := [ig 0, U, U, U, U, U, U, U, U, U, U, U, U, U, U, U, U, U, U]
def Fud45_1 := fs Fud45_0 [(1, ps 0 0), (2, lb false)]
def Bud45_2 := [bb 28 (i6 0)]
def Rud45_3 : Rg := ⟨2, 6, 0, Fud45_0, Bud45_2, [pa 0 0, pv (lb false) 0], []⟩
def Fud45_4 := fs Fud45_1 [(2, pk (pk (vb 6) (vb 7) (lb false)) (bo .leq (vi 8) (li 0)) (lb false)), (3, ps 0 0), (4, dg 0), (5, vb 6), (6, vb 6), (7, gd true (vb 6) (ps 0 3)), (8, gd true (vb 6) (dg 3)), (9, gd true (vb 6) (vb 7)), (10, pk (vb 6) (vb 7) (lb false)), (11, pk (vb 6) (vb 7) (lb false)), (12, gd true (pk (vb 6) (vb 7) (lb false)) (ps 0 0)), (13, gd true (pk (vb 6) (vb 7) (lb false)) (dg 0)), (14, gd true (pk (vb 6) (vb 7) (lb false)) (ps 0 3)), (15, gd true (pk (vb 6) (vb 7) (lb false)) (dg 3)), (16, gd true (pk (vb 6) (vb 7) (lb false)) (vi 8)), (17, gd true (pk (vb 6) (vb 7) (lb false)) (bo .leq (vi 8) (li 0))), (18, pk (pk (vb 6) (vb 7) (lb false)) (bo .leq (vi 8) (li 0)) (lb false))]
def Rud45_5 : Rg := ⟨17, 6, 1, Fud45_1, Bud45_2, [pv (ps 0 0) 0, pl (dg 0) 0 0 0, pc (vb 6) 0 17 [dg 0] 1, pv (vb 6) 1, ⟨ps 0 3, 1, [], .val, gd true (vb 6) (ps 0 3)⟩, ⟨dg 3, 1, [], .ld 0 3, gd true (vb 6) (dg 3)⟩, ⟨vb 7, 1, [], .cl 1 17 [dg 3] 1 [], gd true (vb 6) (vb 7)⟩, ⟨pk (vb 6) (vb 7) (lb false), 2, [], .pk, pk (vb 6) (vb 7) (lb false)⟩, pv (pk (vb 6) (vb 7) (lb false)) 2, ⟨ps 0 0, 2, [], .val, gd true (pk (vb 6) (vb 7) (lb false)) (ps 0 0)⟩, ⟨dg 0, 2, [], .ld 0 0, gd true (pk (vb 6) (vb 7) (lb false)) (dg 0)⟩, ⟨ps 0 3, 2, [], .val, gd true (pk (vb 6) (vb 7) (lb false)) (ps 0 3)⟩, ⟨dg 3, 2, [], .ld 0 3, gd true (pk (vb 6) (vb 7) (lb false)) (dg 3)⟩, ⟨vi 8, 2, [], .cl 2 26 [dg 0, dg 3] 1 [], gd true (pk (vb 6) (vb 7) (lb false)) (vi 8)⟩, ⟨bo .leq (vi 8) (li 0), 3, [], .val, gd true (pk (vb 6) (vb 7) (lb false)) (bo .leq (vi 8) (li 0))⟩, ⟨pk (pk (vb 6) (vb 7) (lb false)) (bo .leq (vi 8) (li 0)) (lb false), 3, [], .pk, pk (pk (vb 6) (vb 7) (lb false)) (bo .leq (vi 8) (li 0)) (lb false)⟩, pv (pk (pk (vb 6) (vb 7) (lb false)) (bo .leq (vi 8) (li 0)) (lb false)) 3], [2, 6, 13]⟩
theorem dright_i {v : Value} {a b : Rat} {N : Nat} {w : World} (h : CI w v a b N) (hN : N ≤ 16777215) (hT : TB w) :
 Calls Tryz.prog 45 #[v] w fun en w' => ∃ r : Bool, en = .returned (.bool r) ∧ (r = true ↔ FitQ a ∧ FitQ b ∧ a ≤ b) ∧ BL w w' := by
 obtain ⟨b0, A0, n0, c0, x0, d0, B0, m0, e0, y0, rfl⟩ := h.ex
 refine fn_enter (u := 64) (fn := Tryz.f45) Tryz.func45 rfl Fud45_0 [.bool b0, .slice A0 n0 c0, .int .i64 x0, .bool d0, .slice B0 m0 e0, .int .i64 y0] (by kernel_rfl) rfl (fun a0 S0 r0 => ?_)
 refine wp_seq (rk Rud45_3 [] Fud45_1 Bud45_2 S0 r0 ?_)
 intro _ _ _ r1 S1
 refine wp_seq (rk Rud45_5 [] Fud45_4 Bud45_2 S1 r1 ?_)
 intro _ _ r2 _
 refine (dright_q (h.below r2.first).lo).mono ?_
 rintro _ V1 ⟨ra, rfl, hra, k1⟩
 refine ⟨[.bool ra], rfl, rfl, rfl, k1, ?_⟩
 refine ⟨fun c3 => ?_, fun c3 => ?_⟩
 · replace c3 := yv (b := ra) c3
   intro _ _ r4 _
   refine (dright_q (h.below r4.first).hi).mono ?_
   rintro _ V2 ⟨rb, rfl, hrb, k2⟩
   refine ⟨[.bool rb], rfl, rfl, rfl, k2, ?_⟩
   refine ⟨fun c5 => ?_, fun c5 => ?_⟩
   · replace c5 := yv (b := if ra then rb else false) c5
     intro W6 g6 r6 _
     refine (dorder_q (h.below r6.first).lo (h.below r6.first).hi (by omega) (tb hT r6)).mono ?_
     rintro _ V3 ⟨rfl, k3⟩
     refine ⟨[.int .i64 (cmpQ a b)], rfl, rfl, rfl, k3, ?_⟩
     intro _ _ _ r7 S7
     exact rt S7 [.bool (if if ra then rb else false then decide ((cmpQ a b) ≤ 0) else false)] (⟨_, rfl, by rw [c5, if_pos rfl, cmpQ_le]; exact ⟨fun h => ⟨hra.1 c3, hrb.1 (by rw [c3, if_pos rfl] at c5; exact c5), of_decide_eq_true h⟩, fun h => decide_eq_true h.2.2⟩, r7.first⟩)
   · replace c5 := yn (b := if ra then rb else false) c5
     intro _ g6 W6 r6 S6
     exact rt S6 [.bool (if if ra then rb else false then decide (0 ≤ 0) else false)] (⟨_, rfl, by rw [c5, if_neg (by decide)]; exact ⟨fun h => absurd h (by decide), fun h => by rw [c3, if_pos rfl, hrb.2 h.2.1] at c5; cases c5⟩, r6.first⟩)
 · replace c3 := yn (b := ra) c3
   refine ⟨fun c4 => ?_, fun c4 => ?_⟩
   · replace c4 := yv (b := if ra then false else false) c4
     rw [c3, if_neg (by decide)] at c4; cases c4
   · replace c4 := yn (b := if ra then false else false) c4
     intro _ _ _ r5 S5
     exact rt S5 [.bool (if if ra then false else false then decide (0 ≤ 0) else false)] (⟨_, rfl, by rw [c3]; exact ⟨fun h => absurd h (by decide), fun h => by rw [hra.2 h.1] at c3; cases c3⟩, r5.first⟩)
def Fue128_0 := [vs 0, vi 1, U, U, U, U, U, U, U, U, U, U, U, U, U, U, U]
def Fue128_1 := fs Fue128_0 [(4, lz), (5, lb false)]
def Rue128_2 : Rg := ⟨2, 2, 0, Fue128_0, [], [pv (lz) 0, pv (lb false) 0], []⟩
def Fue128_3 := fs Fue128_1 [(6, vi 1), (7, bo .geq (vi 1) (li 0))]
def Rue128_4 : Rg := ⟨2, 2, 0, Fue128_1, [], [pv (vi 1) 0, pv (bo .geq (vi 1) (li 0)) 0], []⟩
def Fue128_5 := fs Fue128_3 [(4, vs 2), (8, vs 0), (9, vi 1), (10, vs 2)]
def Rue128_6 : Rg := ⟨5, 2, 0, Fue128_3, [], [pv (vs 0) 0, pv (vi 1) 0, pc (vs 2) 0 53 [vs 0, vi 1] 1, pv (vs 2) 1, pv (lb false) 1], [2]⟩
def Fuer128_0 := [vs 0, vi 1, U, U, U, U, U, U, U, U, U, U, U, U, U, U, U]
def Fuer128_1 := fs Fuer128_0 [(4, lz), (5, lb false)]
def Ruer128_2 : Rg := ⟨2, 2, 0, Fuer128_0, [], [pv (lz) 0, pv (lb false) 0], []⟩
def Fuer128_3 := fs Fuer128_1 [(6, vi 1), (7, bo .geq (vi 1) (li 0))]
def Ruer128_4 : Rg := ⟨2, 2, 0, Fuer128_1, [], [pv (vi 1) 0, pv (bo .geq (vi 1) (li 0)) 0], []⟩
def Fuer128_5 := fs Fuer128_3 [(4, vs 2), (5, vb 3), (11, vs 0), (12, vi 1), (13, f1 ngF (vi 1)), (14, tu [vs 2, vb 3]), (15, vs 2), (16, vb 3)]
def Ruer128_6 : Rg := ⟨8, 2, 0, Fuer128_3, [], [pv (vs 0) 0, pv (vi 1) 0, pv (f1 ngF (vi 1)) 0, pc (tu [vs 2, vb 3]) 0 92 [vs 0, f1 ngF (vi 1)] 2, pv (vs 2) 1, pv (vb 3) 1, pv (vs 2) 1, pv (vb 3) 1], [3]⟩
def Fue115_0 := [dg 0, dg 3, vi 6, vb 7, U, U, U, U, U, U, U, U, U, U, U, U, U, U, U, U, U, U, U, U, U, U, U, U, U, U, U, U, U, U, U, U, U, U, U, U, U, U, U, U, U, U, U, U, U, U, U, U, U, U, U, U, U, U, U, U, U, U, U, U, U, U, U, U, U, U, U, U, U, U, U, U, U, U, U]
def Fue115_1 := fs Fue115_0 [(4, ps 0 0), (5, ps 1 0), (8, ps 2 0)]
def Bue115_2 := [bb 25 (d3 0), bb 25 (d3 3), bb 25 o3]
def Rue115_3 : Rg := ⟨3, 8, 0, Fue115_0, Bue115_2, [pa 0 0, pa 1 0, pa 2 0], []⟩
def Fue115_4 := fs Fue115_1 [(9, ps 3 0), (10, ps 4 0), (17, dg 0), (18, dg 8), (19, dg 3), (20, dg 11)]
def Bue115_5 := [bb 25 (d3 0), bb 25 (d3 3), bb 25 o3, bb 25 o3, bb 25 o3]
def Rue115_6 : Rg := ⟨6, 8, 3, Fue115_1, Bue115_5, [pl (dg 0) 0 0 0, pc (dg 8) 0 44 [dg 0] 3, pl (dg 3) 0 1 0, pc (dg 11) 1 44 [dg 3] 3, pa 3 0, pa 4 0], [1, 3]⟩
def Bue115_7 := [bb 25 (d3 0), bb 25 (d3 3), bb 25 o3, bb 25 (d3 8), bb 25 (d3 11)]
def Fue115_8 := fs Fue115_4 [(21, ps 3 1), (22, vs 9), (23, f1 lnF (vs 9)), (24, bo .eql (f1 lnF (vs 9)) (li 0))]
def Rue115_9 : Rg := ⟨4, 14, 5, Fue115_4, Bue115_7, [pv (ps 3 1) 0, pl (vs 9) 0 3 1, pv (f1 lnF (vs 9)) 0, pv (bo .eql (f1 lnF (vs 9)) (li 0)) 0], []⟩
def Fue115_10 := fs Fue115_8 [(11, bo .sub (bo .add (bo .add (vi 6) (li 2)) (vi 14)) (vi 15)), (26, vi 6), (27, bo .add (vi 6) (li 2)), (28, ps 4 1), (29, vs 12), (30, vi 14), (31, bo .add (bo .add (vi 6) (li 2)) (vi 14)), (32, ps 3 1), (33, vs 9), (34, vi 15), (35, bo .sub (bo .add (bo .add (vi 6) (li 2)) (vi 14)) (vi 15))]
def Rue115_11 : Rg := ⟨11, 14, 5, Fue115_8, Bue115_7, [pv (vi 6) 0, pv (bo .add (vi 6) (li 2)) 0, pv (ps 4 1) 0, pl (vs 12) 0 4 1, pc (vi 14) 0 90 [vs 12] 1, pv (bo .add (bo .add (vi 6) (li 2)) (vi 14)) 1, pv (ps 3 1) 0, pl (vs 9) 0 3 1, pc (vi 15) 1 90 [vs 9] 1, pv (bo .sub (bo .add (bo .add (vi 6) (li 2)) (vi 14)) (vi 15)) 2, pv (bo .sub (bo .add (bo .add (vi 6) (li 2)) (vi 14)) (vi 15)) 2], [4, 8]⟩
def Fue115_12 := fs Fue115_10 [(12, vs 16), (13, vb 17), (36, tu [vs 16, vb 17]), (37, ps 3 1), (38, vs 9), (39, bo .sub (bo .add (bo .add (vi 6) (li 2)) (vi 14)) (vi 15)), (40, tu [vs 16, vb 17]), (41, vs 16), (42, vb 17)]
def Rue115_13 : Rg := ⟨9, 16, 5, Fue115_10, Bue115_7, [pv (ps 3 1) 0, pl (vs 9) 0 3 1, pv (bo .sub (bo .add (bo .add (vi 6) (li 2)) (vi 14)) (vi 15)) 0, pc (tu [vs 16, vb 17]) 0 128 [vs 9, bo .sub (bo .add (bo .add (vi 6) (li 2)) (vi 14)) (vi 15)] 2, pv (tu [vs 16, vb 17]) 1, pv (vs 16) 1, pv (vb 17) 1, pv (vs 16) 1, pv (vb 17) 1], [3]⟩
def Fue115_14 := fs Fue115_12 [(14, vs 18), (15, vs 19), (43, tu [vs 18, vs 19]), (44, vs 16), (45, ps 4 1), (46, vs 12), (47, tu [vs 18, vs 19]), (48, vs 18), (49, vs 19)]
def Rue115_15 : Rg := ⟨9, 18, 5, Fue115_12, Bue115_7, [pv (vs 16) 0, pv (ps 4 1) 0, pl (vs 12) 0 4 1, pc (tu [vs 18, vs 19]) 0 139 [vs 16, vs 12] 2, pv (tu [vs 18, vs 19]) 1, pv (vs 18) 1, pv (vs 19) 1, pv (vs 18) 1, pv (vs 19) 1], [3]⟩
def Fue115_16 := fs Fue115_14 [(16, vs 20), (50, vs 18), (51, vs 20)]
def Rue115_17 : Rg := ⟨3, 20, 5, Fue115_14, Bue115_7, [pv (vs 18) 0, pc (vs 20) 0 53 [vs 18, li 1] 1, pv (vs 20) 1], [1]⟩
def Fue115_18 := fs Fue115_16 [(52, vs 19), (53, f1 lnF (vs 19)), (54, bo .gtr (f1 lnF (vs 19)) (li 0)), (55, bo .gtr (f1 lnF (vs 19)) (li 0)), (56, gd false (bo .gtr (f1 lnF (vs 19)) (li 0)) (vb 17)), (57, pk (bo .gtr (f1 lnF (vs 19)) (li 0)) (lb true) (vb 17))]
def Rue115_19 : Rg := ⟨6, 21, 5, Fue115_16, Bue115_7, [pv (vs 19) 0, pv (f1 lnF (vs 19)) 0, pv (bo .gtr (f1 lnF (vs 19)) (li 0)) 0, pv (bo .gtr (f1 lnF (vs 19)) (li 0)) 0, ⟨vb 17, 0, [], .val, gd false (bo .gtr (f1 lnF (vs 19)) (li 0)) (vb 17)⟩, ⟨pk (bo .gtr (f1 lnF (vs 19)) (li 0)) (lb true) (vb 17), 0, [], .pk, pk (bo .gtr (f1 lnF (vs 19)) (li 0)) (lb true) (vb 17)⟩], []⟩
def Fue115_20 := fs Fue115_18 [(16, vs 22), (58, vs 20), (59, vs 21), (60, vs 22)]
def Rue115_21 : Rg := ⟨3, 21, 5, Fue115_18, Bue115_7, [pv (vs 20) 0, pc (vs 21) 0 47 [lu 1] 1, pc (vs 22) 1 54 [vs 20, vs 21] 1], [1, 2]⟩
def Fue115_22 := fs Fue115_20 [(61, ps 3 0), (62, vb 8), (63, ps 4 0), (64, vb 11), (65, bo .neq (vb 8) (vb 11)), (66, vs 22), (67, ps 3 2), (68, vi 10), (69, ps 4 2), (70, vi 13), (71, bo .sub (vi 10) (vi 13)), (72, bo .sub (bo .add (bo .add (vi 6) (li 2)) (vi 14)) (vi 15)), (73, bo .sub (bo .sub (vi 10) (vi 13)) (bo .sub (bo .add (bo .add (vi 6) (li 2)) (vi 14)) (vi 15))), (74, bo .sub (bo .sub (bo .sub (vi 10) (vi 13)) (bo .sub (bo .add (bo .add (vi 6) (li 2)) (vi 14)) (vi 15))) (li 1)), (75, dg 23), (76, vi 6), (77, vb 7), (78, dg 26)]
def Rue115_23 : Rg := ⟨18, 23, 5, Fue115_20, Bue115_7, [pv (ps 3 0) 0, pl (vb 8) 0 3 0, pv (ps 4 0) 0, pl (vb 11) 0 4 0, pv (bo .neq (vb 8) (vb 11)) 0, pv (vs 22) 0, pv (ps 3 2) 0, pl (vi 10) 0 3 2, pv (ps 4 2) 0, pl (vi 13) 0 4 2, pv (bo .sub (vi 10) (vi 13)) 0, pv (bo .sub (bo .add (bo .add (vi 6) (li 2)) (vi 14)) (vi 15)) 0, pv (bo .sub (bo .sub (vi 10) (vi 13)) (bo .sub (bo .add (bo .add (vi 6) (li 2)) (vi 14)) (vi 15))) 0, pv (bo .sub (bo .sub (bo .sub (vi 10) (vi 13)) (bo .sub (bo .add (bo .add (vi 6) (li 2)) (vi 14)) (vi 15))) (li 1)) 0, pc (dg 23) 0 46 [bo .neq (vb 8) (vb 11), vs 22, bo .sub (bo .sub (bo .sub (vi 10) (vi 13)) (bo .sub (bo .add (bo .add (vi 6) (li 2)) (vi 14)) (vi 15))) (li 1)] 3, pv (vi 6) 0, pv (vb 7) 0, pc (dg 26) 1 108 [dg 23, vi 6, vb 7] 3], [14, 17]⟩
def Bue115_24 := [bb 25 (d3 0), bb 25 (d3 3), bb 25 (d3 26), bb 25 (d3 8), bb 25 (d3 11)]
def Fue115_25 := fs Fue115_18 [(61, ps 3 0), (62, vb 8), (63, ps 4 0), (64, vb 11), (65, bo .neq (vb 8) (vb 11)), (66, vs 20), (67, ps 3 2), (68, vi 10), (69, ps 4 2), (70, vi 13), (71, bo .sub (vi 10) (vi 13)), (72, bo .sub (bo .add (bo .add (vi 6) (li 2)) (vi 14)) (vi 15)), (73, bo .sub (bo .sub (vi 10) (vi 13)) (bo .sub (bo .add (bo .add (vi 6) (li 2)) (vi 14)) (vi 15))), (74, bo .sub (bo .sub (bo .sub (vi 10) (vi 13)) (bo .sub (bo .add (bo .add (vi 6) (li 2)) (vi 14)) (vi 15))) (li 1)), (75, dg 21), (76, vi 6), (77, vb 7), (78, dg 24)]
def Rue115_26 : Rg := ⟨18, 21, 5, Fue115_18, Bue115_7, [pv (ps 3 0) 0, pl (vb 8) 0 3 0, pv (ps 4 0) 0, pl (vb 11) 0 4 0, pv (bo .neq (vb 8) (vb 11)) 0, pv (vs 20) 0, pv (ps 3 2) 0, pl (vi 10) 0 3 2, pv (ps 4 2) 0, pl (vi 13) 0 4 2, pv (bo .sub (vi 10) (vi 13)) 0, pv (bo .sub (bo .add (bo .add (vi 6) (li 2)) (vi 14)) (vi 15)) 0, pv (bo .sub (bo .sub (vi 10) (vi 13)) (bo .sub (bo .add (bo .add (vi 6) (li 2)) (vi 14)) (vi 15))) 0, pv (bo .sub (bo .sub (bo .sub (vi 10) (vi 13)) (bo .sub (bo .add (bo .add (vi 6) (li 2)) (vi 14)) (vi 15))) (li 1)) 0, pc (dg 21) 0 46 [bo .neq (vb 8) (vb 11), vs 20, bo .sub (bo .sub (bo .sub (vi 10) (vi 13)) (bo .sub (bo .add (bo .add (vi 6) (li 2)) (vi 14)) (vi 15))) (li 1)] 3, pv (vi 6) 0, pv (vb 7) 0, pc (dg 24) 1 108 [dg 21, vi 6, vb 7] 3], [14, 17]⟩
def Bue115_27 := [bb 25 (d3 0), bb 25 (d3 3), bb 25 (d3 24), bb 25 (d3 8), bb 25 (d3 11)]
def Fue75_0 := [ig 0, ig 6, vi 12, U, U, U, U, U, U, U, U, U, U, U, U, U, U, U, U, U, U, U, U, U, U, U, U, U, U, U, U, U, U, U, U, U, U, U, U, U, U, U, U, U, U, U, U, U, U, U, U, U, U, U, U, U, U, U, U, U, U, U, U, U, U, U]
def Fue75_1 := fs Fue75_0 [(3, ps 0 0), (4, ps 1 0), (6, ps 2 0)]
def Bue75_2 := [bb 28 (i6 0), bb 28 (i6 6), bb 28 o6]
def Rue75_3 : Rg := ⟨3, 13, 0, Fue75_0, Bue75_2, [pa 0 0, pa 1 0, pa 2 0], []⟩
def Fue75_4 := fs Fue75_1 [(7, osl (ps 3 0) 4), (9, ps 0 0), (10, dg 0), (11, ps 1 0), (12, dg 6), (13, vi 12), (14, dg 13), (15, ps 0 0), (16, dg 0), (17, ps 1 3), (18, dg 9), (19, vi 12), (20, dg 16), (21, ps 0 3), (22, dg 3), (23, ps 1 0), (24, dg 6), (25, vi 12), (26, dg 19), (27, ps 0 3), (28, dg 3), (29, ps 1 3), (30, dg 9), (31, vi 12), (32, dg 22), (33, osl (ps 3 0) 4)]
def Bue75_5 := [bb 28 (i6 0), bb 28 (i6 6), bb 28 o6, bb 25 [vb 13, vs 14, vi 15, vb 16, vs 17, vi 18, vb 19, vs 20, vi 21, vb 22, vs 23, vi 24]]
def Rue75_6 : Rg := ⟨26, 13, 3, Fue75_1, Bue75_5, [pv (ps 0 0) 0, pl (dg 0) 0 0 0, pv (ps 1 0) 0, pl (dg 6) 0 1 0, pv (vi 12) 0, pc (dg 13) 0 115 [dg 0, dg 6, vi 12, lb false] 3, pv (ps 0 0) 0, pl (dg 0) 0 0 0, pv (ps 1 3) 0, pl (dg 9) 0 1 3, pv (vi 12) 0, pc (dg 16) 1 115 [dg 0, dg 9, vi 12, lb false] 3, pv (ps 0 3) 0, pl (dg 3) 0 0 3, pv (ps 1 0) 0, pl (dg 6) 0 1 0, pv (vi 12) 0, pc (dg 19) 2 115 [dg 3, dg 6, vi 12, lb false] 3, pv (ps 0 3) 0, pl (dg 3) 0 0 3, pv (ps 1 3) 0, pl (dg 9) 0 1 3, pv (vi 12) 0, pc (dg 22) 3 115 [dg 3, dg 9, vi 12, lb false] 3, ⟨osl (ps 3 0) 4, 4, [3], .al 3, osl (ps 3 0) 4⟩, ⟨osl (ps 3 0) 4, 4, [3], .val, osl (ps 3 0) 4⟩], [5, 11, 17, 23]⟩
def Fue75_7 := fs Fue75_4 [(8, osl (ps 4 0) 4), (34, ps 0 0), (35, dg 0), (36, ps 1 0), (37, dg 6), (38, vi 12), (39, dg 25), (40, ps 0 0), (41, dg 0), (42, ps 1 3), (43, dg 9), (44, vi 12), (45, dg 28), (46, ps 0 3), (47, dg 3), (48, ps 1 0), (49, dg 6), (50, vi 12), (51, dg 31), (52, ps 0 3), (53, dg 3), (54, ps 1 3), (55, dg 9), (56, vi 12), (57, dg 34), (58, osl (ps 4 0) 4)]
def Bue75_8 := [bb 28 (i6 0), bb 28 (i6 6), bb 28 o6, bb 25 [vb 13, vs 14, vi 15, vb 16, vs 17, vi 18, vb 19, vs 20, vi 21, vb 22, vs 23, vi 24], bb 25 [vb 25, vs 26, vi 27, vb 28, vs 29, vi 30, vb 31, vs 32, vi 33, vb 34, vs 35, vi 36]]
def Rue75_9 : Rg := ⟨26, 25, 4, Fue75_4, Bue75_8, [pv (ps 0 0) 0, pl (dg 0) 0 0 0, pv (ps 1 0) 0, pl (dg 6) 0 1 0, pv (vi 12) 0, pc (dg 25) 0 115 [dg 0, dg 6, vi 12, lb true] 3, pv (ps 0 0) 0, pl (dg 0) 0 0 0, pv (ps 1 3) 0, pl (dg 9) 0 1 3, pv (vi 12) 0, pc (dg 28) 1 115 [dg 0, dg 9, vi 12, lb true] 3, pv (ps 0 3) 0, pl (dg 3) 0 0 3, pv (ps 1 0) 0, pl (dg 6) 0 1 0, pv (vi 12) 0, pc (dg 31) 2 115 [dg 3, dg 6, vi 12, lb true] 3, pv (ps 0 3) 0, pl (dg 3) 0 0 3, pv (ps 1 3) 0, pl (dg 9) 0 1 3, pv (vi 12) 0, pc (dg 34) 3 115 [dg 3, dg 9, vi 12, lb true] 3, ⟨osl (ps 4 0) 4, 4, [4], .al 4, osl (ps 4 0) 4⟩, ⟨osl (ps 4 0) 4, 4, [4], .val, osl (ps 4 0) 4⟩], [5, 11, 17, 23]⟩
def Fue75_10 := fs Fue75_7 [(59, osl (ps 3 0) 4), (60, ig 37), (61, dg 37), (62, osl (ps 4 0) 4), (63, ig 43), (64, dg 46), (65, ag [vb 37, vs 38, vi 39, vb 46, vs 47, vi 48])]
def Rue75_11 : Rg := ⟨7, 37, 5, Fue75_7, Bue75_8, [pv (osl (ps 3 0) 4) 0, ⟨ig 37, 0, [], .cl 0 64 [osl (ps 3 0) 4] 6 [3], ig 37⟩, pv (dg 37) 1, pv (osl (ps 4 0) 4) 0, ⟨ig 43, 1, [], .cl 1 64 [osl (ps 4 0) 4] 6 [4], ig 43⟩, pv (dg 46) 2, pv (ag [vb 37, vs 38, vi 39, vb 46, vs 47, vi 48]) 2], [1, 4]⟩
def Bue75_12 := [bb 28 (i6 0), bb 28 (i6 6), bb 28 [vb 37, vs 38, vi 39, vb 46, vs 47, vi 48], bb 25 [vb 13, vs 14, vi 15, vb 16, vs 17, vi 18, vb 19, vs 20, vi 21, vb 22, vs 23, vi 24], bb 25 [vb 25, vs 26, vi 27, vb 28, vs 29, vi 30, vb 31, vs 32, vi 33, vb 34, vs 35, vi 36]]
theorem form_same {y z e f : Int} : (cneg y = cneg z ∧ cexp y e = cexp z f ∧ cman y = cman z) ↔ Dv y e = Dv z f := by
 constructor
 · rintro ⟨h1, h2, h3⟩
   rw [Dv_form y e, Dv_form z f, h1, h2, h3]
 · intro h
   obtain ⟨h1, h2, h3⟩ := same_form h
   exact ⟨h3, h2, h1⟩
theorem dsame_q {u v : Value} {a b : Rat} {N M : Nat} {w : World} (h : CQ w u a N) (h' : CQ w v b M) (hN : N ≤ 67108864) (hT : TB w) :
 Calls Tryz.prog 12 #[u, v] w fun en w' => en = .returned (.bool (decide (a = b))) ∧ BL w w' := by
 obtain ⟨z, e, h1, rfl, h3⟩ := h
 obtain ⟨y, f, k1, rfl, k3⟩ := h'
 have l := bd_len h3; have lo := bd_lo h3; have hi := bd_hi h3
 have := same_any' u v z y e f w h1 k1 (by omega) (by omega) (by omega)
 rw [decide_eq_decide.2 form_same] at this
 exact this
def NarQ (p : Nat) (a b : Rat) : Prop := (a = 0 ∧ b = 0) ∨ (0 < a ∧ (b - a) * (2 : Rat) ^ (p : Int) ≤ a) ∨ (b < 0 ∧ (b - a) * (2 : Rat) ^ (p : Int) ≤ -b)
theorem cmp_le {a b : Rat} (h : a ≤ b) : decide (cmpQ a b ≤ 0) = true := by rw [cmpQ_le]; exact decide_eq_true h
def Fuf36_0 := [ig 0, ig 6, U, U, U, U, U, U, U, U, U, U, U, U, U, U, U]
def Fuf36_1 := fs Fuf36_0 [(2, ps 0 0), (3, ps 1 0), (4, lb false)]
def Buf36_2 := [bb 28 (i6 0), bb 28 (i6 6)]
def Ruf36_3 : Rg := ⟨3, 12, 0, Fuf36_0, Buf36_2, [pa 0 0, pa 1 0, pv (lb false) 0], []⟩
def Fuf36_4 := fs Fuf36_1 [(4, pk (vb 12) (vb 13) (lb false)), (5, ps 0 0), (6, dg 0), (7, ps 1 0), (8, dg 6), (9, vb 12), (10, vb 12), (11, gd true (vb 12) (ps 0 3)), (12, gd true (vb 12) (dg 3)), (13, gd true (vb 12) (ps 1 3)), (14, gd true (vb 12) (dg 9)), (15, gd true (vb 12) (vb 13)), (16, pk (vb 12) (vb 13) (lb false))]
def Ruf36_5 : Rg := ⟨13, 12, 2, Fuf36_1, Buf36_2, [pv (ps 0 0) 0, pl (dg 0) 0 0 0, pv (ps 1 0) 0, pl (dg 6) 0 1 0, pc (vb 12) 0 12 [dg 0, dg 6] 1, pv (vb 12) 1, ⟨ps 0 3, 1, [], .val, gd true (vb 12) (ps 0 3)⟩, ⟨dg 3, 1, [], .ld 0 3, gd true (vb 12) (dg 3)⟩, ⟨ps 1 3, 1, [], .val, gd true (vb 12) (ps 1 3)⟩, ⟨dg 9, 1, [], .ld 1 3, gd true (vb 12) (dg 9)⟩, ⟨vb 13, 1, [], .cl 1 12 [dg 3, dg 9] 1 [], gd true (vb 12) (vb 13)⟩, ⟨pk (vb 12) (vb 13) (lb false), 2, [], .pk, pk (vb 12) (vb 13) (lb false)⟩, pv (pk (vb 12) (vb 13) (lb false)) 2], [4, 10]⟩
theorem dsame_i {u v : Value} {a b c d : Rat} {N M : Nat} {w : World} (h : CI w u a b N) (h' : CI w v c d M) (hN : N ≤ 67108864) (hT : TB w) :
 Calls Tryz.prog 36 #[u, v] w fun en w' => ∃ r : Bool, en = .returned (.bool r) ∧ (r = true ↔ a = c ∧ b = d) ∧ BL w w' := by
 obtain ⟨b0, A0, n0, c0, x0, d0, B0, m0, e0, y0, rfl⟩ := h.ex
 obtain ⟨b9, A9, n9, c9, x9, d9, B9, m9, e9, y9, rfl⟩ := h'.ex
 refine fn_enter (u := 64) (fn := Tryz.f36) Tryz.func36 rfl Fuf36_0 [.bool b0, .slice A0 n0 c0, .int .i64 x0, .bool d0, .slice B0 m0 e0, .int .i64 y0, .bool b9, .slice A9 n9 c9, .int .i64 x9, .bool d9, .slice B9 m9 e9, .int .i64 y9] (by kernel_rfl) rfl (fun a0 S0 r0 => ?_)
 refine wp_seq (rk Ruf36_3 [] Fuf36_1 Buf36_2 S0 r0 ?_)
 intro _ _ _ r1 S1
 refine wp_seq (rk Ruf36_5 [] Fuf36_4 Buf36_2 S1 r1 ?_)
 intro _ _ r2 _
 refine (dsame_q (h.below r2.first).lo (h'.below r2.first).lo hN (tb hT r2)).mono ?_
 rintro _ V1 ⟨rfl, k1⟩
 refine ⟨[.bool (decide (a = c))], rfl, rfl, rfl, k1, ?_⟩
 refine ⟨fun c3 => ?_, fun c3 => ?_⟩
 · replace c3 := yv (b := (decide (a = c))) c3
   intro W4 g4 r4 _
   refine (dsame_q (h.below r4.first).hi (h'.below r4.first).hi hN (tb hT r4)).mono ?_
   rintro _ V2 ⟨rfl, k2⟩
   refine ⟨[.bool (decide (b = d))], rfl, rfl, rfl, k2, ?_⟩
   intro _ _ _ r5 S5
   exact rt S5 [.bool (if (decide (a = c)) then (decide (b = d)) else false)] (⟨_, rfl, by rw [c3, if_pos rfl]; exact ⟨fun h => ⟨of_decide_eq_true c3, of_decide_eq_true h⟩, fun h => decide_eq_true h.2⟩, r5.first⟩)
 · replace c3 := yn (b := (decide (a = c))) c3
   intro _ g4 W4 r4 S4
   exact rt S4 [.bool (if (decide (a = c)) then false else false)] (⟨_, rfl, by rw [c3, if_neg (by decide)]; exact ⟨fun h => absurd h (by decide), fun h => absurd h.1 (of_decide_eq_false c3)⟩, r4.first⟩)
def Fuf78_0 := [ig 0, vi 6, U, U, U, U, U, U, U, U, U, U, U, U, U, U, U, U, U, U, U, U, U, U, U, U, U, U, U, U, U, U, U, U, U, U, U, U, U, U, U, U, U, U, U, U, U, U, U, U, U, U, U, U]
def Fuf78_1 := fs Fuf78_0 [(2, ps 0 0), (4, lb false)]
def Buf78_2 := [bb 28 (i6 0)]
def Ruf78_3 : Rg := ⟨2, 7, 0, Fuf78_0, Buf78_2, [pa 0 0, pv (lb false) 0], []⟩
def Fuf78_4 := fs Fuf78_1 [(9, ig 0), (10, vb 7), (11, f1 noF (vb 7)), (12, f1 noF (vb 7)), (13, gd false (f1 noF (vb 7)) (vi 6)), (14, gd false (f1 noF (vb 7)) (bo .lss (vi 6) (li 0))), (15, pk (f1 noF (vb 7)) (lb true) (bo .lss (vi 6) (li 0)))]
def Ruf78_5 : Rg := ⟨7, 7, 1, Fuf78_1, Buf78_2, [pl (ig 0) 0 0 0, pc (vb 7) 0 45 [ig 0] 1, pv (f1 noF (vb 7)) 1, pv (f1 noF (vb 7)) 1, ⟨vi 6, 1, [], .val, gd false (f1 noF (vb 7)) (vi 6)⟩, ⟨bo .lss (vi 6) (li 0), 1, [], .val, gd false (f1 noF (vb 7)) (bo .lss (vi 6) (li 0))⟩, ⟨pk (f1 noF (vb 7)) (lb true) (bo .lss (vi 6) (li 0)), 1, [], .pk, pk (f1 noF (vb 7)) (lb true) (bo .lss (vi 6) (li 0))⟩], [1]⟩
def Fuf78_6 := fs Fuf78_4 [(5, vi 8), (6, vi 9), (16, ps 0 0), (17, dg 0), (18, vi 8), (19, ps 0 3), (20, dg 3), (21, vi 9)]
def Ruf78_7 : Rg := ⟨8, 8, 1, Fuf78_4, Buf78_2, [pv (ps 0 0) 0, pl (dg 0) 0 0 0, pc (vi 8) 0 25 [dg 0] 1, pv (ps 0 3) 0, pl (dg 3) 0 0 3, pc (vi 9) 1 25 [dg 3] 1, pv (vi 8) 2, pv (vi 9) 2], [2, 5]⟩
def Fuf78_8 := fs Fuf78_6 [(22, vi 8), (23, vi 9), (24, bo .neq (vi 8) (vi 9)), (25, bo .neq (vi 8) (vi 9)), (26, gd false (bo .neq (vi 8) (vi 9)) (vi 8)), (27, gd false (bo .neq (vi 8) (vi 9)) (bo .eql (vi 8) (li 0))), (28, pk (bo .neq (vi 8) (vi 9)) (lb true) (bo .eql (vi 8) (li 0)))]
def Ruf78_9 : Rg := ⟨7, 10, 1, Fuf78_6, Buf78_2, [pv (vi 8) 0, pv (vi 9) 0, pv (bo .neq (vi 8) (vi 9)) 0, pv (bo .neq (vi 8) (vi 9)) 0, ⟨vi 8, 0, [], .val, gd false (bo .neq (vi 8) (vi 9)) (vi 8)⟩, ⟨bo .eql (vi 8) (li 0), 0, [], .val, gd false (bo .neq (vi 8) (vi 9)) (bo .eql (vi 8) (li 0))⟩, ⟨pk (bo .neq (vi 8) (vi 9)) (lb true) (bo .eql (vi 8) (li 0)), 0, [], .pk, pk (bo .neq (vi 8) (vi 9)) (lb true) (bo .eql (vi 8) (li 0))⟩], []⟩
def Fuf78_10 := fs Fuf78_8 [(4, bo .eql (vi 8) (vi 9)), (29, vi 8), (30, vi 9), (31, bo .eql (vi 8) (vi 9))]
def Ruf78_11 : Rg := ⟨4, 10, 1, Fuf78_8, Buf78_2, [pv (vi 8) 0, pv (vi 9) 0, pv (bo .eql (vi 8) (vi 9)) 0, pv (bo .eql (vi 8) (vi 9)) 0], []⟩
def Fuf78_12 := fs Fuf78_8 [(7, ps 1 0), (32, ps 0 0), (33, dg 0)]
def Buf78_13 := [bb 28 (i6 0), bb 25 o3]
def Ruf78_14 : Rg := ⟨3, 10, 1, Fuf78_8, Buf78_13, [pv (ps 0 0) 0, pl (dg 0) 0 0 0, pa 1 0], []⟩
def Buf78_15 := [bb 28 (i6 0), bb 25 (d3 0)]
def Fuf78_16 := fs Fuf78_12 [(34, vi 8), (35, bo .lss (vi 8) (li 0))]
def Ruf78_17 : Rg := ⟨2, 10, 2, Fuf78_12, Buf78_15, [pv (vi 8) 0, pv (bo .lss (vi 8) (li 0)) 0], []⟩
def Fuf78_18 := fs Fuf78_16 [(36, ps 0 3), (37, dg 3), (38, dg 10)]
def Ruf78_19 : Rg := ⟨3, 10, 2, Fuf78_16, Buf78_15, [pv (ps 0 3) 0, pl (dg 3) 0 0 3, pc (dg 10) 0 93 [dg 3] 3], [2]⟩
def Buf78_20 := [bb 28 (i6 0), bb 25 (d3 10)]
def Fuf78_21 := fs Fuf78_18 [(8, ps 2 0), (39, ps 0 3), (40, dg 3), (41, ps 0 0), (42, dg 0), (43, dg 13)]
def Buf78_22 := [bb 28 (i6 0), bb 25 (d3 10), bb 25 o3]
def Ruf78_23 : Rg := ⟨6, 13, 2, Fuf78_18, Buf78_22, [pv (ps 0 3) 0, pl (dg 3) 0 0 3, pv (ps 0 0) 0, pl (dg 0) 0 0 0, pc (dg 13) 0 52 [dg 3, dg 0] 3, pa 2 0], [4]⟩
def Buf78_24 := [bb 28 (i6 0), bb 25 (d3 10), bb 25 (d3 13)]
def Fuf78_25 := fs Fuf78_21 [(44, dg 13), (45, vb 16)]
def Ruf78_26 : Rg := ⟨2, 16, 3, Fuf78_21, Buf78_24, [pl (dg 13) 0 2 0, pc (vb 16) 0 42 [dg 13] 1], [1]⟩
def Fuf78_27 := fs Fuf78_25 [(4, lb true)]
def Ruf78_28 : Rg := ⟨1, 17, 3, Fuf78_25, Buf78_24, [pv (lb true) 0], []⟩
def Fuf78_29 := fs Fuf78_25 [(46, vi 6), (47, bo .gtr (vi 6) (li 196608))]
def Ruf78_30 : Rg := ⟨2, 17, 3, Fuf78_25, Buf78_24, [pv (vi 6) 0, pv (bo .gtr (vi 6) (li 196608)) 0], []⟩
def Fuf78_31 := fs Fuf78_29 [(4, bo .leq (vi 20) (li 0)), (48, dg 13), (49, vi 6), (50, dg 17), (51, dg 10), (52, vi 20), (53, bo .leq (vi 20) (li 0))]
def Ruf78_32 : Rg := ⟨7, 17, 3, Fuf78_29, Buf78_24, [pl (dg 13) 0 2 0, pv (vi 6) 0, pc (dg 17) 0 114 [dg 13, vi 6] 3, pl (dg 10) 0 1 0, pc (vi 20) 1 26 [dg 17, dg 10] 1, pv (bo .leq (vi 20) (li 0)) 2, pv (bo .leq (vi 20) (li 0)) 2], [2, 4]⟩
def Fuf78_33 := fs Fuf78_16 [(8, ps 2 0), (39, ps 0 3), (40, dg 3), (41, ps 0 0), (42, dg 0), (43, dg 10)]
def Buf78_34 := [bb 28 (i6 0), bb 25 (d3 0), bb 25 o3]
def Ruf78_35 : Rg := ⟨6, 10, 2, Fuf78_16, Buf78_34, [pv (ps 0 3) 0, pl (dg 3) 0 0 3, pv (ps 0 0) 0, pl (dg 0) 0 0 0, pc (dg 10) 0 52 [dg 3, dg 0] 3, pa 2 0], [4]⟩
def Buf78_36 := [bb 28 (i6 0), bb 25 (d3 0), bb 25 (d3 10)]
def Fuf78_37 := fs Fuf78_33 [(44, dg 10), (45, vb 13)]
def Ruf78_38 : Rg := ⟨2, 13, 3, Fuf78_33, Buf78_36, [pl (dg 10) 0 2 0, pc (vb 13) 0 42 [dg 10] 1], [1]⟩
def Fuf78_39 := fs Fuf78_37 [(4, lb true)]
def Ruf78_40 : Rg := ⟨1, 14, 3, Fuf78_37, Buf78_36, [pv (lb true) 0], []⟩
def Fuf78_41 := fs Fuf78_37 [(46, vi 6), (47, bo .gtr (vi 6) (li 196608))]
def Ruf78_42 : Rg := ⟨2, 14, 3, Fuf78_37, Buf78_36, [pv (vi 6) 0, pv (bo .gtr (vi 6) (li 196608)) 0], []⟩
def Fuf78_43 := fs Fuf78_41 [(4, bo .leq (vi 17) (li 0)), (48, dg 10), (49, vi 6), (50, dg 14), (51, dg 0), (52, vi 17), (53, bo .leq (vi 17) (li 0))]
def Ruf78_44 : Rg := ⟨7, 14, 3, Fuf78_41, Buf78_36, [pl (dg 10) 0 2 0, pv (vi 6) 0, pc (dg 14) 0 114 [dg 10, vi 6] 3, pl (dg 0) 0 1 0, pc (vi 17) 1 26 [dg 14, dg 0] 1, pv (bo .leq (vi 17) (li 0)) 2, pv (bo .leq (vi 17) (li 0)) 2], [2, 4]⟩
def dE : Nat → Nat | 0 => 0 | _ + 1 => 2
def Fug86_0 := [vs 0, vi 1, vu 2, U, U, U, U, U, U, U, U, U, U, U, U, U, U, U, U, U, U, U, U, U, U, U, U, U, U, U, U, U, U, U, U, U, U, U, U, U, U, U, U, U, U]
def Fug86_1 := fs Fug86_0 [(6, lz), (7, lz)]
def Rug86_2 : Rg := ⟨2, 3, 0, Fug86_0, [], [pv (lz) 0, pv (lz) 0], []⟩
def Fug86_3 := fs Fug86_1 [(8, vs 4), (13, vs 3), (14, vi 1), (15, vs 4)]
def Rug86_4 : Rg := ⟨4, 3, 0, Fug86_1, [], [pc (vs 3) 0 47 [lu 1] 1, pv (vi 1) 0, pc (vs 4) 1 53 [vs 3, vi 1] 1, pv (vs 4) 2], [0, 2]⟩
def Fug86_5 := fs Fug86_3 [(9, vs 4), (16, vs 4)]
def Rug86_6 : Rg := ⟨2, 5, 0, Fug86_3, [], [pv (vs 4) 0, pv (vs 4) 0], []⟩
def Fug86_7 := fs Fug86_5 [(10, lu 0)]
def Rug86_8 : Rg := ⟨1, 5, 0, Fug86_5, [], [pv (lu 0) 0], []⟩
def Lug86_9 (jj1 : List Value) := [vs 0, vi 1, vu 2, U, U, U, lz, lz, vs 5, vs 6, vu 7, jw jj1 0, jw jj1 1, vs 3, vi 1, vs 4, vs 4, jw jj1 2, jw jj1 3, jw jj1 4, jw jj1 5, jw jj1 6, jw jj1 7, jw jj1 8, jw jj1 9, jw jj1 10, jw jj1 11, jw jj1 12, jw jj1 13, jw jj1 14, jw jj1 15, jw jj1 16, jw jj1 17, jw jj1 18, jw jj1 19, jw jj1 20, jw jj1 21, jw jj1 22, U, U, U, U, U, U, U]
def Jug86_10 : List Nat := [11, 12, 17, 18, 19, 20, 21, 22, 23, 24, 25, 26, 27, 28, 29, 30, 31, 32, 33, 34, 35, 36, 37]
def Fug86_11 (jj1 : List Value) := fs (Lug86_9 jj1) [(17, vs 5), (18, f1 lnF (vs 5)), (19, bo .gtr (f1 lnF (vs 5)) (li 0))]
def Rug86_12 (jj1 : List Value) : Rg := ⟨3, 8, 0, (Lug86_9 jj1), [], [pv (vs 5) 0, pv (f1 lnF (vs 5)) 0, pv (bo .gtr (f1 lnF (vs 5)) (li 0)) 0], []⟩
def Fug86_13 (jj1 : List Value) := fs (Fug86_11 jj1) [(10, bo .add (vu 7) (lu 1)), (20, vu 7), (21, bo .add (vu 7) (lu 1))]
def Rug86_14 (jj1 : List Value) : Rg := ⟨2, 8, 0, (Fug86_11 jj1), [], [pv (vu 7) 0, pv (bo .add (vu 7) (lu 1)) 0], []⟩
def Fug86_15 (jj1 : List Value) := fs (Fug86_13 jj1) [(11, vs 9), (12, vb 10), (22, tu [vs 9, vb 10]), (23, vs 5), (24, vs 0), (25, vs 8), (26, vi 1), (27, tu [vs 9, vb 10]), (28, vs 9), (29, vb 10)]
def Rug86_16 (jj1 : List Value) : Rg := ⟨10, 8, 0, (Fug86_13 jj1), [], [pv (vs 5) 0, pv (vs 0) 0, pc (vs 8) 0 107 [vs 5, vs 0] 1, pv (vi 1) 0, pc (tu [vs 9, vb 10]) 1 92 [vs 8, vi 1] 2, pv (tu [vs 9, vb 10]) 2, pv (vs 9) 2, pv (vb 10) 2, pv (vs 9) 2, pv (vb 10) 2], [2, 4]⟩
def Fug86_17 (jj1 : List Value) := fs (Fug86_15 jj1) [(8, vs 11), (30, vs 9), (31, bo .add (vu 7) (lu 1)), (32, vu 2), (33, bo .add (bo .add (vu 7) (lu 1)) (vu 2)), (34, vs 11)]
def Rug86_18 (jj1 : List Value) : Rg := ⟨6, 11, 0, (Fug86_15 jj1), [], [pv (vs 9) 0, pv (bo .add (vu 7) (lu 1)) 0, pv (vu 2) 0, pv (bo .add (bo .add (vu 7) (lu 1)) (vu 2)) 0, pc (vs 11) 0 127 [vs 9, bo .add (bo .add (vu 7) (lu 1)) (vu 2)] 1, pv (vs 11) 1], [4]⟩
def Fug86_19 (jj1 : List Value) := fs (Fug86_17 jj1) [(9, vs 12), (35, vs 6), (36, vs 11), (37, vs 12)]
def Rug86_20 (jj1 : List Value) : Rg := ⟨3, 12, 0, (Fug86_17 jj1), [], [pv (vs 6) 0, pv (vs 11) 0, pc (vs 12) 0 54 [vs 6, vs 11] 1], [2]⟩
def Fug86_21 (jj1 : List Value) := fs (Fug86_11 jj1) [(6, vs 6), (7, vs 9), (38, vs 6), (39, vs 6), (40, vu 7), (41, bo .mul (lu 2) (vu 7)), (42, bo .add (bo .mul (lu 2) (vu 7)) (lu 8)), (43, vs 8), (44, vs 9)]
def Rug86_22 (jj1 : List Value) : Rg := ⟨9, 8, 0, (Fug86_11 jj1), [], [pv (vs 6) 0, pv (vs 6) 0, pv (vu 7) 0, pv (bo .mul (lu 2) (vu 7)) 0, pv (bo .add (bo .mul (lu 2) (vu 7)) (lu 8)) 0, pc (vs 8) 0 47 [bo .add (bo .mul (lu 2) (vu 7)) (lu 8)] 1, pc (vs 9) 1 54 [vs 6, vs 8] 1, pv (vs 6) 2, pv (vs 9) 2], [5, 6]⟩
def Fuh87_0 := [dg 0, vi 3, U, U, U, U, U, U, U, U, U, U, U, U, U, U, U, U, U, U, U]
def Fuh87_1 := fs Fuh87_0 [(2, ps 0 0), (4, lz)]
def Buh87_2 := [bb 25 (d3 0)]
def Ruh87_3 : Rg := ⟨2, 4, 0, Fuh87_0, Buh87_2, [pa 0 0, pv (lz) 0], []⟩
def Fuh87_4 := fs Fuh87_1 [(5, ps 1 0), (8, dg 0), (9, dg 4)]
def Buh87_5 := [bb 25 (d3 0), bb 25 o3]
def Ruh87_6 : Rg := ⟨3, 4, 1, Fuh87_1, Buh87_5, [pl (dg 0) 0 0 0, pc (dg 4) 0 44 [dg 0] 3, pa 1 0], [1]⟩
def Buh87_7 := [bb 25 (d3 0), bb 25 (d3 4)]
def Fuh87_8 := fs Fuh87_4 [(6, vs 7), (7, vb 8), (10, tu [vs 7, vb 8]), (11, ps 1 1), (12, vs 5), (13, ps 1 2), (14, vi 6), (15, vi 3), (16, bo .add (vi 6) (vi 3)), (17, tu [vs 7, vb 8]), (18, vs 7), (19, vb 8)]
def Ruh87_9 : Rg := ⟨12, 7, 2, Fuh87_4, Buh87_7, [pv (ps 1 1) 0, pl (vs 5) 0 1 1, pv (ps 1 2) 0, pl (vi 6) 0 1 2, pv (vi 3) 0, pv (bo .add (vi 6) (vi 3)) 0, pc (tu [vs 7, vb 8]) 0 128 [vs 5, bo .add (vi 6) (vi 3)] 2, pv (tu [vs 7, vb 8]) 1, pv (vs 7) 1, pv (vb 8) 1, pv (vs 7) 1, pv (vb 8) 1], [6]⟩
def Fuh87_10 := fs Fuh87_8 [(4, vs 7), (20, vs 7)]
def Ruh87_11 : Rg := ⟨2, 9, 2, Fuh87_8, Buh87_7, [pv (vs 7) 0, pv (vs 7) 0], []⟩
def Fuh88_0 := [vs 0, vs 1, vi 2, U, U, U, U, U, U, U, U, U, U, U, U, U]
def Fuh88_1 := fs Fuh88_0 [(6, ps 0 0)]
def Buh88_2 := [bb 28 o6]
def Ruh88_3 : Rg := ⟨1, 3, 0, Fuh88_0, Buh88_2, [pa 0 0], []⟩
def Fuh88_4 := fs Fuh88_1 [(7, vs 0), (8, vi 2), (9, f1 ngF (vi 2)), (10, dg 3), (11, vs 1), (12, vi 2), (13, f1 ngF (vi 2)), (14, dg 6), (15, ig 3)]
def Ruh88_5 : Rg := ⟨9, 3, 1, Fuh88_1, Buh88_2, [pv (vs 0) 0, pv (vi 2) 0, pv (f1 ngF (vi 2)) 0, pc (dg 3) 0 46 [lb false, vs 0, f1 ngF (vi 2)] 3, pv (vs 1) 0, pv (vi 2) 0, pv (f1 ngF (vi 2)) 0, pc (dg 6) 1 46 [lb false, vs 1, f1 ngF (vi 2)] 3, pv (ig 3) 2], [3, 7]⟩
def Buh88_6 := [bb 28 (i6 3)]
def Fuh76_0 : List Sy := [U, U, U]
def Fuh76_1 := fs Fuh76_0 [(0, ps 0 0)]
def Buh76_2 := [bb 28 o6]
def Ruh76_3 : Rg := ⟨1, 0, 0, Fuh76_0, Buh76_2, [pa 0 0], []⟩
def Fuh76_4 := fs Fuh76_1 [(1, dg 0), (2, ig 3)]
def Ruh76_5 : Rg := ⟨2, 0, 1, Fuh76_1, Buh76_2, [pc (dg 0) 0 21 [li 1] 3, pc (ig 3) 1 20 [dg 0] 6], [0, 1]⟩
def Buh76_6 := [bb 28 (i6 3)]
theorem ab_of {a : Rat} (h : 0 ≤ a) : ab a = a := if_pos h
def Fuh74_0 := [dg 0, vi 3, U, U, U, U, U, U, U, U, U, U, U, U, U, U, U, U, U, U, U, U, U, U, U, U, U, U, U, U, U, U, U, U, U, U, U, U, U, U, U, U, U, U, U, U, U, U, U]
def Fuh74_1 := fs Fuh74_0 [(2, ps 0 0), (4, ps 1 0)]
def Buh74_2 := [bb 25 (d3 0), bb 28 o6]
def Ruh74_3 : Rg := ⟨2, 4, 0, Fuh74_0, Buh74_2, [pa 0 0, pa 1 0], []⟩
def Fuh74_4 := fs Fuh74_1 [(5, li 0)]
def Ruh74_5 : Rg := ⟨1, 4, 2, Fuh74_1, Buh74_2, [pv (li 0) 0], []⟩
def Fuh74_6 := fs Fuh74_4 [(11, dg 0), (12, vb 4), (13, f1 noF (vb 4))]
def Ruh74_7 : Rg := ⟨3, 4, 2, Fuh74_4, Buh74_2, [pl (dg 0) 0 0 0, pc (vb 4) 0 42 [dg 0] 1, pv (f1 noF (vb 4)) 1], [1]⟩
def Fuh74_8 := fs Fuh74_6 [(5, f2 mxF (bo .add (vi 5) (li 9)) (li 0)), (14, dg 0), (15, vi 5), (16, bo .add (vi 5) (li 9)), (17, f2 mxF (bo .add (vi 5) (li 9)) (li 0))]
def Ruh74_9 : Rg := ⟨5, 5, 2, Fuh74_6, Buh74_2, [pl (dg 0) 0 0 0, pc (vi 5) 0 43 [dg 0] 1, pv (bo .add (vi 5) (li 9)) 1, pv (f2 mxF (bo .add (vi 5) (li 9)) (li 0)) 1, pv (f2 mxF (bo .add (vi 5) (li 9)) (li 0)) 1], [1]⟩
def Fuh74_10 := fs Fuh74_8 [(6, bo .add (bo .add (vi 3) (bo .mul (li 2) (f2 mxF (bo .add (vi 5) (li 9)) (li 0)))) (li 64)), (18, vi 3), (19, f2 mxF (bo .add (vi 5) (li 9)) (li 0)), (20, bo .mul (li 2) (f2 mxF (bo .add (vi 5) (li 9)) (li 0))), (21, bo .add (vi 3) (bo .mul (li 2) (f2 mxF (bo .add (vi 5) (li 9)) (li 0)))), (22, bo .add (bo .add (vi 3) (bo .mul (li 2) (f2 mxF (bo .add (vi 5) (li 9)) (li 0)))) (li 64))]
def Ruh74_11 : Rg := ⟨6, 6, 2, Fuh74_8, Buh74_2, [pv (vi 3) 0, pv (f2 mxF (bo .add (vi 5) (li 9)) (li 0)) 0, pv (bo .mul (li 2) (f2 mxF (bo .add (vi 5) (li 9)) (li 0))) 0, pv (bo .add (vi 3) (bo .mul (li 2) (f2 mxF (bo .add (vi 5) (li 9)) (li 0)))) 0, pv (bo .add (bo .add (vi 3) (bo .mul (li 2) (f2 mxF (bo .add (vi 5) (li 9)) (li 0)))) (li 64)) 0, pv (bo .add (bo .add (vi 3) (bo .mul (li 2) (f2 mxF (bo .add (vi 5) (li 9)) (li 0)))) (li 64)) 0], []⟩
def Fuh74_12 := fs Fuh74_10 [(7, vs 10), (8, vs 11), (23, tu [vs 10, vs 11]), (24, dg 0), (25, f2 mxF (bo .add (vi 5) (li 9)) (li 0)), (26, f1 ngF (f2 mxF (bo .add (vi 5) (li 9)) (li 0))), (27, dg 6), (28, bo .add (bo .add (vi 3) (bo .mul (li 2) (f2 mxF (bo .add (vi 5) (li 9)) (li 0)))) (li 64)), (29, vs 9), (30, bo .add (bo .add (vi 3) (bo .mul (li 2) (f2 mxF (bo .add (vi 5) (li 9)) (li 0)))) (li 64)), (31, tu [vs 10, vs 11]), (32, vs 10), (33, vs 11)]
def Ruh74_13 : Rg := ⟨13, 6, 2, Fuh74_10, Buh74_2, [pl (dg 0) 0 0 0, pv (f2 mxF (bo .add (vi 5) (li 9)) (li 0)) 0, pv (f1 ngF (f2 mxF (bo .add (vi 5) (li 9)) (li 0))) 0, pc (dg 6) 0 114 [dg 0, f1 ngF (f2 mxF (bo .add (vi 5) (li 9)) (li 0))] 3, pv (bo .add (bo .add (vi 3) (bo .mul (li 2) (f2 mxF (bo .add (vi 5) (li 9)) (li 0)))) (li 64)) 0, pc (vs 9) 1 87 [dg 6, bo .add (bo .add (vi 3) (bo .mul (li 2) (f2 mxF (bo .add (vi 5) (li 9)) (li 0)))) (li 64)] 1, pv (bo .add (bo .add (vi 3) (bo .mul (li 2) (f2 mxF (bo .add (vi 5) (li 9)) (li 0)))) (li 64)) 0, pc (tu [vs 10, vs 11]) 2 86 [vs 9, bo .add (bo .add (vi 3) (bo .mul (li 2) (f2 mxF (bo .add (vi 5) (li 9)) (li 0)))) (li 64), lu 0] 2, pv (tu [vs 10, vs 11]) 3, pv (vs 10) 3, pv (vs 11) 3, pv (vs 10) 3, pv (vs 11) 3], [3, 5, 7]⟩
def Fuh74_14 := fs Fuh74_12 [(9, ps 2 0), (34, vs 10), (35, vs 11), (36, bo .add (bo .add (vi 3) (bo .mul (li 2) (f2 mxF (bo .add (vi 5) (li 9)) (li 0)))) (li 64)), (37, ig 12)]
def Buh74_15 := [bb 25 (d3 0), bb 28 o6, bb 28 o6]
def Ruh74_16 : Rg := ⟨5, 12, 2, Fuh74_12, Buh74_15, [pv (vs 10) 0, pv (vs 11) 0, pv (bo .add (bo .add (vi 3) (bo .mul (li 2) (f2 mxF (bo .add (vi 5) (li 9)) (li 0)))) (li 64)) 0, pc (ig 12) 0 88 [vs 10, vs 11, bo .add (bo .add (vi 3) (bo .mul (li 2) (f2 mxF (bo .add (vi 5) (li 9)) (li 0)))) (li 64)] 6, pa 2 0], [3]⟩
def Buh74_17 := [bb 25 (d3 0), bb 28 o6, bb 28 (i6 12)]
def Fuh74_18 := fs Fuh74_14 [(10, li 0)]
def Ruh74_19 : Rg := ⟨1, 18, 3, Fuh74_14, Buh74_17, [pv (li 0) 0], []⟩
def Luh74_20 (jj1 : List Value) := [dg 0, vi 3, ps 0 0, U, ps 1 0, f2 mxF (bo .add (vi 5) (li 9)) (li 0), bo .add (bo .add (vi 3) (bo .mul (li 2) (f2 mxF (bo .add (vi 5) (li 9)) (li 0)))) (li 64), vs 10, vs 11, ps 2 0, vi 24, dg 0, vb 4, f1 noF (vb 4), dg 0, vi 5, bo .add (vi 5) (li 9), f2 mxF (bo .add (vi 5) (li 9)) (li 0), vi 3, f2 mxF (bo .add (vi 5) (li 9)) (li 0), bo .mul (li 2) (f2 mxF (bo .add (vi 5) (li 9)) (li 0)), bo .add (vi 3) (bo .mul (li 2) (f2 mxF (bo .add (vi 5) (li 9)) (li 0))), bo .add (bo .add (vi 3) (bo .mul (li 2) (f2 mxF (bo .add (vi 5) (li 9)) (li 0)))) (li 64), tu [vs 10, vs 11], dg 0, f2 mxF (bo .add (vi 5) (li 9)) (li 0), f1 ngF (f2 mxF (bo .add (vi 5) (li 9)) (li 0)), dg 6, bo .add (bo .add (vi 3) (bo .mul (li 2) (f2 mxF (bo .add (vi 5) (li 9)) (li 0)))) (li 64), vs 9, bo .add (bo .add (vi 3) (bo .mul (li 2) (f2 mxF (bo .add (vi 5) (li 9)) (li 0)))) (li 64), tu [vs 10, vs 11], vs 10, vs 11, vs 10, vs 11, bo .add (bo .add (vi 3) (bo .mul (li 2) (f2 mxF (bo .add (vi 5) (li 9)) (li 0)))) (li 64), ig 12, jw jj1 0, jw jj1 1, jw jj1 2, jw jj1 3, jw jj1 4, jw jj1 5, jw jj1 6, jw jj1 7, jw jj1 8, jw jj1 9, U]
def Buh74_21 := [bb 25 (d3 0), bb 28 o6, bb 28 (i6 18)]
def Juh74_22 : List Nat := [38, 39, 40, 41, 42, 43, 44, 45, 46, 47]
def Fuh74_23 (jj1 : List Value) := fs (Luh74_20 jj1) [(38, vi 24), (39, f2 mxF (bo .add (vi 5) (li 9)) (li 0)), (40, bo .lss (vi 24) (f2 mxF (bo .add (vi 5) (li 9)) (li 0)))]
def Ruh74_24 (jj1 : List Value) : Rg := ⟨3, 25, 3, (Luh74_20 jj1), Buh74_21, [pv (vi 24) 0, pv (f2 mxF (bo .add (vi 5) (li 9)) (li 0)) 0, pv (bo .lss (vi 24) (f2 mxF (bo .add (vi 5) (li 9)) (li 0))) 0], []⟩
def Fuh74_25 (jj1 : List Value) := fs (Fuh74_23 jj1) [(43, ig 18), (44, ig 18), (45, bo .add (bo .add (vi 3) (bo .mul (li 2) (f2 mxF (bo .add (vi 5) (li 9)) (li 0)))) (li 64)), (46, bo .add (bo .add (bo .add (vi 3) (bo .mul (li 2) (f2 mxF (bo .add (vi 5) (li 9)) (li 0)))) (li 64)) (li 8)), (47, ig 25)]
def Ruh74_26 (jj1 : List Value) : Rg := ⟨5, 25, 3, (Fuh74_23 jj1), Buh74_21, [pl (ig 18) 0 2 0, pl (ig 18) 0 2 0, pv (bo .add (bo .add (vi 3) (bo .mul (li 2) (f2 mxF (bo .add (vi 5) (li 9)) (li 0)))) (li 64)) 0, pv (bo .add (bo .add (bo .add (vi 3) (bo .mul (li 2) (f2 mxF (bo .add (vi 5) (li 9)) (li 0)))) (li 64)) (li 8)) 0, pc (ig 25) 0 31 [ig 18, ig 18, bo .add (bo .add (bo .add (vi 3) (bo .mul (li 2) (f2 mxF (bo .add (vi 5) (li 9)) (li 0)))) (li 64)) (li 8)] 6], [4]⟩
def Buh74_27 := [bb 25 (d3 0), bb 28 o6, bb 28 (i6 25)]
def Fuh74_28 (jj1 : List Value) := fs (Fuh74_25 jj1) [(10, bo .add (vi 24) (li 1)), (41, vi 24), (42, bo .add (vi 24) (li 1))]
def Ruh74_29 (jj1 : List Value) : Rg := ⟨2, 31, 3, (Fuh74_25 jj1), Buh74_27, [pv (vi 24) 0, pv (bo .add (vi 24) (li 1)) 0], []⟩
def Fuh74_30 (jj1 : List Value) := fs (Fuh74_23 jj1) [(48, ig 18)]
def Ruh74_31 (jj1 : List Value) : Rg := ⟨1, 25, 3, (Fuh74_23 jj1), Buh74_21, [pl (ig 18) 0 2 0], []⟩
def Buh74_32 := [bb 25 (d3 0), bb 28 (i6 18), bb 28 (i6 18)]
def Fuh74_33 := fs Fuh74_6 [(6, bo .add (bo .add (vi 3) (li 0)) (li 64)), (18, vi 3), (19, li 0), (20, li 0), (21, bo .add (vi 3) (li 0)), (22, bo .add (bo .add (vi 3) (li 0)) (li 64))]
def Ruh74_34 : Rg := ⟨6, 5, 2, Fuh74_6, Buh74_2, [pv (vi 3) 0, pv (li 0) 0, pv (li 0) 0, pv (bo .add (vi 3) (li 0)) 0, pv (bo .add (bo .add (vi 3) (li 0)) (li 64)) 0, pv (bo .add (bo .add (vi 3) (li 0)) (li 64)) 0], []⟩
def Fuh74_35 := fs Fuh74_33 [(7, vs 9), (8, vs 10), (23, tu [vs 9, vs 10]), (24, dg 0), (25, li 0), (26, f1 ngF (li 0)), (27, dg 5), (28, bo .add (bo .add (vi 3) (li 0)) (li 64)), (29, vs 8), (30, bo .add (bo .add (vi 3) (li 0)) (li 64)), (31, tu [vs 9, vs 10]), (32, vs 9), (33, vs 10)]
def Ruh74_36 : Rg := ⟨13, 5, 2, Fuh74_33, Buh74_2, [pl (dg 0) 0 0 0, pv (li 0) 0, pv (f1 ngF (li 0)) 0, pc (dg 5) 0 114 [dg 0, f1 ngF (li 0)] 3, pv (bo .add (bo .add (vi 3) (li 0)) (li 64)) 0, pc (vs 8) 1 87 [dg 5, bo .add (bo .add (vi 3) (li 0)) (li 64)] 1, pv (bo .add (bo .add (vi 3) (li 0)) (li 64)) 0, pc (tu [vs 9, vs 10]) 2 86 [vs 8, bo .add (bo .add (vi 3) (li 0)) (li 64), lu 0] 2, pv (tu [vs 9, vs 10]) 3, pv (vs 9) 3, pv (vs 10) 3, pv (vs 9) 3, pv (vs 10) 3], [3, 5, 7]⟩
def Fuh74_37 := fs Fuh74_35 [(9, ps 2 0), (34, vs 9), (35, vs 10), (36, bo .add (bo .add (vi 3) (li 0)) (li 64)), (37, ig 11)]
def Ruh74_38 : Rg := ⟨5, 11, 2, Fuh74_35, Buh74_15, [pv (vs 9) 0, pv (vs 10) 0, pv (bo .add (bo .add (vi 3) (li 0)) (li 64)) 0, pc (ig 11) 0 88 [vs 9, vs 10, bo .add (bo .add (vi 3) (li 0)) (li 64)] 6, pa 2 0], [3]⟩
def Buh74_39 := [bb 25 (d3 0), bb 28 o6, bb 28 (i6 11)]
def Fuh74_40 := fs Fuh74_37 [(10, li 0)]
def Ruh74_41 : Rg := ⟨1, 17, 3, Fuh74_37, Buh74_39, [pv (li 0) 0], []⟩
def Luh74_42 (jj2 : List Value) := [dg 0, vi 3, ps 0 0, U, ps 1 0, li 0, bo .add (bo .add (vi 3) (li 0)) (li 64), vs 9, vs 10, ps 2 0, vi 23, dg 0, vb 4, f1 noF (vb 4), U, U, U, U, vi 3, li 0, li 0, bo .add (vi 3) (li 0), bo .add (bo .add (vi 3) (li 0)) (li 64), tu [vs 9, vs 10], dg 0, li 0, f1 ngF (li 0), dg 5, bo .add (bo .add (vi 3) (li 0)) (li 64), vs 8, bo .add (bo .add (vi 3) (li 0)) (li 64), tu [vs 9, vs 10], vs 9, vs 10, vs 9, vs 10, bo .add (bo .add (vi 3) (li 0)) (li 64), ig 11, jw jj2 0, jw jj2 1, jw jj2 2, jw jj2 3, jw jj2 4, jw jj2 5, jw jj2 6, jw jj2 7, jw jj2 8, jw jj2 9, U]
def Buh74_43 := [bb 25 (d3 0), bb 28 o6, bb 28 (i6 17)]
def Fuh74_44 (jj2 : List Value) := fs (Luh74_42 jj2) [(38, vi 23), (39, li 0), (40, bo .lss (vi 23) (li 0))]
def Ruh74_45 (jj2 : List Value) : Rg := ⟨3, 24, 3, (Luh74_42 jj2), Buh74_43, [pv (vi 23) 0, pv (li 0) 0, pv (bo .lss (vi 23) (li 0)) 0], []⟩
def Fuh74_46 (jj2 : List Value) := fs (Fuh74_44 jj2) [(43, ig 17), (44, ig 17), (45, bo .add (bo .add (vi 3) (li 0)) (li 64)), (46, bo .add (bo .add (bo .add (vi 3) (li 0)) (li 64)) (li 8)), (47, ig 24)]
def Ruh74_47 (jj2 : List Value) : Rg := ⟨5, 24, 3, (Fuh74_44 jj2), Buh74_43, [pl (ig 17) 0 2 0, pl (ig 17) 0 2 0, pv (bo .add (bo .add (vi 3) (li 0)) (li 64)) 0, pv (bo .add (bo .add (bo .add (vi 3) (li 0)) (li 64)) (li 8)) 0, pc (ig 24) 0 31 [ig 17, ig 17, bo .add (bo .add (bo .add (vi 3) (li 0)) (li 64)) (li 8)] 6], [4]⟩
def Buh74_48 := [bb 25 (d3 0), bb 28 o6, bb 28 (i6 24)]
def Fuh74_49 (jj2 : List Value) := fs (Fuh74_46 jj2) [(10, bo .add (vi 23) (li 1)), (41, vi 23), (42, bo .add (vi 23) (li 1))]
def Ruh74_50 (jj2 : List Value) : Rg := ⟨2, 30, 3, (Fuh74_46 jj2), Buh74_48, [pv (vi 23) 0, pv (bo .add (vi 23) (li 1)) 0], []⟩
def Fuh74_51 (jj2 : List Value) := fs (Fuh74_44 jj2) [(48, ig 17)]
def Ruh74_52 (jj2 : List Value) : Rg := ⟨1, 24, 3, (Fuh74_44 jj2), Buh74_43, [pl (ig 17) 0 2 0], []⟩
def Buh74_53 := [bb 25 (d3 0), bb 28 (i6 17), bb 28 (i6 17)]
def Fui46_0 := [vb 0, vs 1, vi 2, U, U, U, U, U, U, U, U, U, U, U, U, U, U, U, U, U, U, U, U, U, U, U, U, U, U, U, U]
def Fui46_1 := fs Fui46_0 [(6, ps 0 0)]
def Bui46_2 := [bb 25 o3]
def Rui46_3 : Rg := ⟨1, 3, 0, Fui46_0, Bui46_2, [pa 0 0], []⟩
def Fui46_4 := fs Fui46_1 [(7, vs 3), (11, vs 1), (12, vs 3)]
def Rui46_5 : Rg := ⟨3, 3, 1, Fui46_1, Bui46_2, [pv (vs 1) 0, pc (vs 3) 0 89 [vs 1] 1, pv (vs 3) 1], [1]⟩
def Fui46_6 := fs Fui46_4 [(13, vs 3), (14, f1 lnF (vs 3)), (15, bo .eql (f1 lnF (vs 3)) (li 0))]
def Rui46_7 : Rg := ⟨3, 4, 1, Fui46_4, Bui46_2, [pv (vs 3) 0, pv (f1 lnF (vs 3)) 0, pv (bo .eql (f1 lnF (vs 3)) (li 0)) 0], []⟩
def Fui46_8 := fs Fui46_6 [(16, ag o3)]
def Rui46_9 : Rg := ⟨1, 4, 1, Fui46_6, Bui46_2, [pv (ag o3) 0], []⟩
def Fui46_10 := fs Fui46_6 [(8, vi 4), (17, vs 3), (18, vi 4)]
def Rui46_11 : Rg := ⟨3, 4, 1, Fui46_6, Bui46_2, [pv (vs 3) 0, pc (vi 4) 0 91 [vs 3] 1, pv (vi 4) 1], [1]⟩
def Fui46_12 := fs Fui46_10 [(9, vs 5), (10, vb 6), (19, tu [vs 5, vb 6]), (20, vs 3), (21, vi 4), (22, tu [vs 5, vb 6]), (23, vs 5), (24, vb 6)]
def Rui46_13 : Rg := ⟨8, 5, 1, Fui46_10, Bui46_2, [pv (vs 3) 0, pv (vi 4) 0, pc (tu [vs 5, vb 6]) 0 92 [vs 3, vi 4] 2, pv (tu [vs 5, vb 6]) 1, pv (vs 5) 1, pv (vb 6) 1, pv (vs 5) 1, pv (vb 6) 1], [2]⟩
def Fui46_14 := fs Fui46_12 [(25, vb 0), (26, vs 5), (27, vi 2), (28, vi 4), (29, bo .add (vi 2) (vi 4)), (30, ag [vb 0, vs 5, bo .add (vi 2) (vi 4)])]
def Rui46_15 : Rg := ⟨6, 7, 1, Fui46_12, Bui46_2, [pv (vb 0) 0, pv (vs 5) 0, pv (vi 2) 0, pv (vi 4) 0, pv (bo .add (vi 2) (vi 4)) 0, pv (ag [vb 0, vs 5, bo .add (vi 2) (vi 4)]) 0], []⟩
def Bui46_16 := [bb 25 [vb 0, vs 5, bo .add (vi 2) (vi 4)]]
def Fui44_0 := [dg 0, U, U, U, U, U, U, U, U, U]
def Fui44_1 := fs Fui44_0 [(1, ps 0 0), (2, ps 1 0)]
def Bui44_2 := [bb 25 (d3 0), bb 25 o3]
def Rui44_3 : Rg := ⟨2, 3, 0, Fui44_0, Bui44_2, [pa 0 0, pa 1 0], []⟩
def Fui44_4 := fs Fui44_1 [(3, ps 0 0), (4, vb 0), (5, ps 0 1), (6, vs 1), (7, ps 0 2), (8, vi 2), (9, dg 3)]
def Rui44_5 : Rg := ⟨7, 3, 2, Fui44_1, Bui44_2, [pv (ps 0 0) 0, pl (vb 0) 0 0 0, pv (ps 0 1) 0, pl (vs 1) 0 0 1, pv (ps 0 2) 0, pl (vi 2) 0 0 2, pc (dg 3) 0 46 (d3 0) 3], [6]⟩
def Bui44_6 := [bb 25 (d3 0), bb 25 (d3 3)]
def Fui42_0 := [dg 0, U, U, U, U, U, U, U]
def Fui42_1 := fs Fui42_0 [(1, ps 0 0), (2, lb false)]
def Bui42_2 := [bb 25 (d3 0)]
def Rui42_3 : Rg := ⟨2, 3, 0, Fui42_0, Bui42_2, [pa 0 0, pv (lb false) 0], []⟩
def Fui42_4 := fs Fui42_1 [(2, bo .eql (f1 lnF (vs 3)) (li 0)), (3, ps 0 1), (4, vs 1), (5, vs 3), (6, f1 lnF (vs 3)), (7, bo .eql (f1 lnF (vs 3)) (li 0))]
def Rui42_5 : Rg := ⟨6, 3, 1, Fui42_1, Bui42_2, [pv (ps 0 1) 0, pl (vs 1) 0 0 1, pc (vs 3) 0 89 [vs 1] 1, pv (f1 lnF (vs 3)) 1, pv (bo .eql (f1 lnF (vs 3)) (li 0)) 1, pv (bo .eql (f1 lnF (vs 3)) (li 0)) 1], [2]⟩
theorem cman_ab (z : Int) : cman (z.natAbs : Int) = cman z := by unfold cman; rw [Int.natAbs_natCast]
theorem cexp_ab (z e : Int) : cexp (z.natAbs : Int) e = cexp z e := by
 unfold cexp
 by_cases h : z = 0
 · rw [if_pos h, if_pos (by omega)]
 · rw [if_neg h, if_neg (by omega), Int.natAbs_natCast]
def Fui35_0 := [dg 0, vi 3, U, U, U, U, U, U, U, U, U, U, U, U, U, U, U, U, U, U, U, U, U]
def Fui35_1 := fs Fui35_0 [(2, ps 0 0), (4, ps 1 0)]
def Bui35_2 := [bb 25 (d3 0), bb 28 o6]
def Rui35_3 : Rg := ⟨2, 4, 0, Fui35_0, Bui35_2, [pa 0 0, pa 1 0], []⟩
def Fui35_4 := fs Fui35_1 [(5, ps 2 0), (8, dg 0), (9, dg 4)]
def Bui35_5 := [bb 25 (d3 0), bb 28 o6, bb 25 o3]
def Rui35_6 : Rg := ⟨3, 4, 2, Fui35_1, Bui35_5, [pl (dg 0) 0 0 0, pc (dg 4) 0 44 [dg 0] 3, pa 2 0], [1]⟩
def Bui35_7 := [bb 25 (d3 0), bb 28 o6, bb 25 (d3 4)]
def Fui35_8 := fs Fui35_4 [(6, vb 4), (10, ps 2 0), (11, vb 4)]
def Rui35_9 : Rg := ⟨3, 7, 3, Fui35_4, Bui35_7, [pv (ps 2 0) 0, pl (vb 4) 0 2 0, pv (vb 4) 0], []⟩
def Fui35_10 := fs Fui35_8 [(12, ps 2 0)]
def Rui35_11 : Rg := ⟨1, 7, 3, Fui35_8, Bui35_7, [pv (ps 2 0) 0], []⟩
def Bui35_12 := [bb 25 (d3 0), bb 28 o6, bb 25 [lb false, vs 5, vi 6]]
def Fui35_13 := fs Fui35_10 [(7, ps 3 0), (13, ag [lb false, vs 5, vi 6]), (14, vi 3), (15, ig 7)]
def Bui35_14 := [bb 25 (d3 0), bb 28 o6, bb 25 [lb false, vs 5, vi 6], bb 28 o6]
def Rui35_15 : Rg := ⟨4, 7, 3, Fui35_10, Bui35_14, [pl (ag [lb false, vs 5, vi 6]) 0 2 0, pv (vi 3) 0, pc (ig 7) 0 74 [ag [lb false, vs 5, vi 6], vi 3] 6, pa 3 0], [2]⟩
def Bui35_16 := [bb 25 (d3 0), bb 28 o6, bb 25 [lb false, vs 5, vi 6], bb 28 (i6 7)]
def Fui35_17 := fs Fui35_13 [(16, vb 4)]
def Rui35_18 : Rg := ⟨1, 13, 4, Fui35_13, Bui35_16, [pv (vb 4) 0], []⟩
def Fui35_19 := fs Fui35_17 [(17, ig 13), (18, ig 7), (19, vi 3), (20, bo .add (vi 3) (li 64)), (21, ig 19)]
def Rui35_20 : Rg := ⟨5, 13, 4, Fui35_17, Bui35_16, [pc (ig 13) 0 76 [] 6, pl (ig 7) 0 3 0, pv (vi 3) 0, pv (bo .add (vi 3) (li 64)) 0, pc (ig 19) 1 75 [ig 13, ig 7, bo .add (vi 3) (li 64)] 6], [0, 4]⟩
def Bui35_21 := [bb 25 (d3 0), bb 28 (i6 19), bb 25 [lb false, vs 5, vi 6], bb 28 (i6 7)]
def Fui35_22 := fs Fui35_17 [(22, ig 7)]
def Rui35_23 : Rg := ⟨1, 13, 4, Fui35_17, Bui35_16, [pl (ig 7) 0 3 0], []⟩
def Bui35_24 := [bb 25 (d3 0), bb 28 (i6 7), bb 25 [lb false, vs 5, vi 6], bb 28 (i6 7)]
def Fui40_0 := [dg 0, vi 3, U, U, U, U, U, U, U, U, U, U, U, U, U, U, U, U, U, U, U, U, U, U, U, U, U, U, U, U, U, U, U, U, U, U, U, U, U, U, U, U, U, U, U, U, U, U, U, U, U, U, U, U, U, U, U]
def Fui40_1 := fs Fui40_0 [(2, ps 0 0), (4, ps 1 0)]
def Bui40_2 := [bb 25 (d3 0), bb 28 o6]
def Rui40_3 : Rg := ⟨2, 4, 0, Fui40_0, Bui40_2, [pa 0 0, pa 1 0], []⟩
def Fui40_4 := fs Fui40_1 [(5, ps 2 0), (11, dg 0), (12, dg 4)]
def Bui40_5 := [bb 25 (d3 0), bb 28 o6, bb 25 o3]
def Rui40_6 : Rg := ⟨3, 4, 2, Fui40_1, Bui40_5, [pl (dg 0) 0 0 0, pc (dg 4) 0 44 [dg 0] 3, pa 2 0], [1]⟩
def Bui40_7 := [bb 25 (d3 0), bb 28 o6, bb 25 (d3 4)]
def Fui40_8 := fs Fui40_4 [(13, dg 4), (14, vb 7)]
def Rui40_9 : Rg := ⟨2, 7, 3, Fui40_4, Bui40_7, [pl (dg 4) 0 2 0, pc (vb 7) 0 42 [dg 4] 1], [1]⟩
def Fui40_10 := fs Fui40_8 [(15, ag o6)]
def Rui40_11 : Rg := ⟨1, 8, 3, Fui40_8, Bui40_7, [pv (ag o6) 0], []⟩
def Fui40_12 := fs Fui40_8 [(16, dg 4), (17, vi 8), (18, bo .geq (vi 8) (li (-8)))]
def Rui40_13 : Rg := ⟨3, 8, 3, Fui40_8, Bui40_7, [pl (dg 4) 0 2 0, pc (vi 8) 0 43 [dg 4] 1, pv (bo .geq (vi 8) (li (-8))) 1], [1]⟩
def Fui40_14 := fs Fui40_12 [(19, dg 4), (20, vi 3), (21, bo .add (vi 3) (li 24)), (22, ig 9), (23, ig 15), (24, vi 3), (25, bo .add (vi 3) (li 40)), (26, ig 21)]
def Rui40_15 : Rg := ⟨8, 9, 3, Fui40_12, Bui40_7, [pl (dg 4) 0 2 0, pv (vi 3) 0, pv (bo .add (vi 3) (li 24)) 0, pc (ig 9) 0 35 [dg 4, bo .add (vi 3) (li 24)] 6, pc (ig 15) 1 76 [] 6, pv (vi 3) 0, pv (bo .add (vi 3) (li 40)) 0, pc (ig 21) 2 24 [ig 9, ig 15, bo .add (vi 3) (li 40)] 6], [3, 4, 7]⟩
def Bui40_16 := [bb 25 (d3 0), bb 28 (i6 21), bb 25 (d3 4)]
def Fui40_17 := fs Fui40_12 [(6, vb 4), (27, ps 2 0), (28, vb 4)]
def Rui40_18 : Rg := ⟨3, 9, 3, Fui40_12, Bui40_7, [pv (ps 2 0) 0, pl (vb 4) 0 2 0, pv (vb 4) 0], []⟩
def Fui40_19 := fs Fui40_17 [(29, ps 2 0)]
def Rui40_20 : Rg := ⟨1, 9, 3, Fui40_17, Bui40_7, [pv (ps 2 0) 0], []⟩
def Bui40_21 := [bb 25 (d3 0), bb 28 o6, bb 25 [lb false, vs 5, vi 6]]
def Fui40_22 := fs Fui40_19 [(7, bo .add (vi 3) (li 64)), (30, vi 3), (31, bo .add (vi 3) (li 64))]
def Rui40_23 : Rg := ⟨3, 9, 3, Fui40_19, Bui40_21, [pv (vi 3) 0, pv (bo .add (vi 3) (li 64)) 0, pv (bo .add (vi 3) (li 64)) 0], []⟩
def Fui40_24 := fs Fui40_22 [(8, vs 10), (9, vs 11), (32, tu [vs 10, vs 11]), (33, ag [lb false, vs 5, vi 6]), (34, bo .add (vi 3) (li 64)), (35, vs 9), (36, bo .add (vi 3) (li 64)), (37, tu [vs 10, vs 11]), (38, vs 10), (39, vs 11)]
def Rui40_25 : Rg := ⟨10, 9, 3, Fui40_22, Bui40_21, [pl (ag [lb false, vs 5, vi 6]) 0 2 0, pv (bo .add (vi 3) (li 64)) 0, pc (vs 9) 0 87 [ag [lb false, vs 5, vi 6], bo .add (vi 3) (li 64)] 1, pv (bo .add (vi 3) (li 64)) 0, pc (tu [vs 10, vs 11]) 1 86 [vs 9, bo .add (vi 3) (li 64), lu 1] 2, pv (tu [vs 10, vs 11]) 2, pv (vs 10) 2, pv (vs 11) 2, pv (vs 10) 2, pv (vs 11) 2], [2, 4]⟩
def Fui40_26 := fs Fui40_24 [(10, ps 3 0), (40, ag [lb false, vs 5, vi 6]), (41, ig 12), (42, vs 10), (43, vs 11), (44, bo .add (vi 3) (li 64)), (45, ig 18), (46, bo .add (vi 3) (li 64)), (47, ig 24)]
def Bui40_27 := [bb 25 (d3 0), bb 28 o6, bb 25 [lb false, vs 5, vi 6], bb 28 o6]
def Rui40_28 : Rg := ⟨9, 12, 3, Fui40_24, Bui40_27, [pl (ag [lb false, vs 5, vi 6]) 0 2 0, pc (ig 12) 0 20 [ag [lb false, vs 5, vi 6]] 6, pv (vs 10) 0, pv (vs 11) 0, pv (bo .add (vi 3) (li 64)) 0, pc (ig 18) 1 88 [vs 10, vs 11, bo .add (vi 3) (li 64)] 6, pv (bo .add (vi 3) (li 64)) 0, pc (ig 24) 2 31 [ig 12, ig 18, bo .add (vi 3) (li 64)] 6, pa 3 0], [1, 5, 7]⟩
def Bui40_29 := [bb 25 (d3 0), bb 28 o6, bb 25 [lb false, vs 5, vi 6], bb 28 (i6 24)]
def Fui40_30 := fs Fui40_26 [(48, vb 4)]
def Rui40_31 : Rg := ⟨1, 30, 4, Fui40_26, Bui40_29, [pv (vb 4) 0], []⟩
def Fui40_32 := fs Fui40_30 [(49, ig 24), (50, ag [lb false, vs 5, vi 6]), (51, vi 3), (52, ig 30), (53, bo .add (vi 3) (li 64)), (54, ig 36), (55, ig 42)]
def Rui40_33 : Rg := ⟨7, 30, 4, Fui40_30, Bui40_29, [pl (ig 24) 0 3 0, pl (ag [lb false, vs 5, vi 6]) 0 2 0, pv (vi 3) 0, pc (ig 30) 0 74 [ag [lb false, vs 5, vi 6], vi 3] 6, pv (bo .add (vi 3) (li 64)) 0, pc (ig 36) 1 75 [ig 24, ig 30, bo .add (vi 3) (li 64)] 6, pc (ig 42) 2 51 [ig 36] 6], [3, 5, 6]⟩
def Bui40_34 := [bb 25 (d3 0), bb 28 (i6 42), bb 25 [lb false, vs 5, vi 6], bb 28 (i6 24)]
def Fui40_35 := fs Fui40_30 [(56, ig 24)]
def Rui40_36 : Rg := ⟨1, 30, 4, Fui40_30, Bui40_29, [pl (ig 24) 0 3 0], []⟩
def Bui40_37 := [bb 25 (d3 0), bb 28 (i6 24), bb 25 [lb false, vs 5, vi 6], bb 28 (i6 24)]
def FaultP (fits : Prop) (p : Int) (q : Rat) (why : Int) : Prop :=
 (why = 2 ∧ ¬ (fits ∧ 8 ≤ p ∧ p ≤ 4096)) ∨ ((fits ∧ 8 ≤ p ∧ p ≤ 4096) ∧ ((why = 3 ∧ 16384 < ab q) ∨ (why = 0 ∧ ab q ≤ 16384)))
def DAsk (w' : World) (b : Nat) (fits : Prop) (p : Int) (q : Rat) (Sp : Nat → Rat → Rat → Rat → Prop) (v : Value) (why : Int) : Prop :=
 (why = 2 ∧ v = zI ∧ ¬ (fits ∧ 8 ≤ p ∧ p ≤ 4096)) ∨ ((fits ∧ 8 ≤ p ∧ p ≤ 4096) ∧ ((why = 3 ∧ v = zI ∧ 16384 < ab q) ∨ (why = 0 ∧ ab q ≤ 16384 ∧ ∃ l u, PI w' b v l u 1000000 ∧ Sp p.toNat q l u)))
def Fuj34_0 := [dg 0, vi 3, U, U, U, U, U, U, U, U, U, U, U, U, U, U, U, U, U, U, U, U, U, U]
def Fuj34_1 := fs Fuj34_0 [(2, ps 0 0), (4, li 0)]
def Buj34_2 := [bb 25 (d3 0)]
def Ruj34_3 : Rg := ⟨2, 4, 0, Fuj34_0, Buj34_2, [pa 0 0, pv (li 0) 0], []⟩
def Fuj34_4 := fs Fuj34_1 [(6, dg 0), (7, vb 4), (8, f1 noF (vb 4)), (9, f1 noF (vb 4)), (10, gd false (f1 noF (vb 4)) (vi 3)), (11, gd false (f1 noF (vb 4)) (bo .lss (vi 3) (li 8))), (12, pk (f1 noF (vb 4)) (lb true) (bo .lss (vi 3) (li 8))), (13, pk (f1 noF (vb 4)) (lb true) (bo .lss (vi 3) (li 8))), (14, gd false (pk (f1 noF (vb 4)) (lb true) (bo .lss (vi 3) (li 8))) (vi 3)), (15, gd false (pk (f1 noF (vb 4)) (lb true) (bo .lss (vi 3) (li 8))) (bo .gtr (vi 3) (li 4096))), (16, pk (pk (f1 noF (vb 4)) (lb true) (bo .lss (vi 3) (li 8))) (lb true) (bo .gtr (vi 3) (li 4096)))]
def Ruj34_5 : Rg := ⟨11, 4, 1, Fuj34_1, Buj34_2, [pl (dg 0) 0 0 0, pc (vb 4) 0 17 [dg 0] 1, pv (f1 noF (vb 4)) 1, pv (f1 noF (vb 4)) 1, ⟨vi 3, 1, [], .val, gd false (f1 noF (vb 4)) (vi 3)⟩, ⟨bo .lss (vi 3) (li 8), 1, [], .val, gd false (f1 noF (vb 4)) (bo .lss (vi 3) (li 8))⟩, ⟨pk (f1 noF (vb 4)) (lb true) (bo .lss (vi 3) (li 8)), 1, [], .pk, pk (f1 noF (vb 4)) (lb true) (bo .lss (vi 3) (li 8))⟩, pv (pk (f1 noF (vb 4)) (lb true) (bo .lss (vi 3) (li 8))) 1, ⟨vi 3, 1, [], .val, gd false (pk (f1 noF (vb 4)) (lb true) (bo .lss (vi 3) (li 8))) (vi 3)⟩, ⟨bo .gtr (vi 3) (li 4096), 1, [], .val, gd false (pk (f1 noF (vb 4)) (lb true) (bo .lss (vi 3) (li 8))) (bo .gtr (vi 3) (li 4096))⟩, ⟨pk (pk (f1 noF (vb 4)) (lb true) (bo .lss (vi 3) (li 8))) (lb true) (bo .gtr (vi 3) (li 4096)), 1, [], .pk, pk (pk (f1 noF (vb 4)) (lb true) (bo .lss (vi 3) (li 8))) (lb true) (bo .gtr (vi 3) (li 4096))⟩], [1]⟩
def Fuj34_6 := fs Fuj34_4 [(4, li 2)]
def Ruj34_7 : Rg := ⟨1, 5, 1, Fuj34_4, Buj34_2, [pv (li 2) 0], []⟩
def Fuj34_8 := fs Fuj34_4 [(5, ps 1 0), (17, dg 0), (18, dg 5)]
def Buj34_9 := [bb 25 (d3 0), bb 25 o3]
def Ruj34_10 : Rg := ⟨3, 5, 1, Fuj34_4, Buj34_9, [pl (dg 0) 0 0 0, pc (dg 5) 0 44 [dg 0] 3, pa 1 0], [1]⟩
def Buj34_11 := [bb 25 (d3 0), bb 25 (d3 5)]
def Fuj34_12 := fs Fuj34_8 [(19, ps 1 0)]
def Ruj34_13 : Rg := ⟨1, 8, 2, Fuj34_8, Buj34_11, [pv (ps 1 0) 0], []⟩
def Buj34_14 := [bb 25 (d3 0), bb 25 [lb false, vs 6, vi 7]]
def Fuj34_15 := fs Fuj34_12 [(20, ag [lb false, vs 6, vi 7]), (21, dg 8), (22, vi 11), (23, bo .gtr (vi 11) (li 0))]
def Ruj34_16 : Rg := ⟨4, 8, 2, Fuj34_12, Buj34_14, [pl (ag [lb false, vs 6, vi 7]) 0 1 0, pc (dg 8) 0 21 [li 16384] 3, pc (vi 11) 1 26 [ag [lb false, vs 6, vi 7], dg 8] 1, pv (bo .gtr (vi 11) (li 0)) 2], [1, 2]⟩
def Fuj34_17 := fs Fuj34_15 [(4, li 3)]
def Ruj34_18 : Rg := ⟨1, 12, 2, Fuj34_15, Buj34_14, [pv (li 3) 0], []⟩
def Ruj34_19 : Rg := ⟨1, 12, 2, Fuj34_15, Buj34_14, [pv (li 0) 0], []⟩
def Fuj10_0 := [dg 0, vi 3, U, U, U, U, U, U, U, U, U, U, U, U, U, U, U]
def Fuj10_1 := fs Fuj10_0 [(2, ps 0 0), (4, ps 1 0), (5, li 0)]
def Buj10_2 := [bb 25 (d3 0), bb 28 o6]
def Ruj10_3 : Rg := ⟨3, 4, 0, Fuj10_0, Buj10_2, [pa 0 0, pa 1 0, pv (li 0) 0], []⟩
def Fuj10_4 := fs Fuj10_1 [(6, vi 4), (7, dg 0), (8, vi 3), (9, vi 4)]
def Ruj10_5 : Rg := ⟨4, 4, 2, Fuj10_1, Buj10_2, [pl (dg 0) 0 0 0, pv (vi 3) 0, pc (vi 4) 0 34 [dg 0, vi 3] 1, pv (vi 4) 1], [2]⟩
def Fuj10_6 := fs Fuj10_4 [(10, vi 4), (11, bo .neq (vi 4) (li 0))]
def Ruj10_7 : Rg := ⟨2, 5, 2, Fuj10_4, Buj10_2, [pv (vi 4) 0, pv (bo .neq (vi 4) (li 0)) 0], []⟩
def Fuj10_8 := fs Fuj10_6 [(5, vi 4), (12, ag o6), (13, vi 4)]
def Ruj10_9 : Rg := ⟨2, 5, 2, Fuj10_6, Buj10_2, [pv (ag o6) 0, pv (vi 4) 0], []⟩
def Fuj10_10 := fs Fuj10_6 [(14, dg 0), (15, vi 3), (16, ig 5)]
def Ruj10_11 : Rg := ⟨3, 5, 2, Fuj10_6, Buj10_2, [pl (dg 0) 0 0 0, pv (vi 3) 0, pc (ig 5) 0 35 [dg 0, vi 3] 6], [2]⟩
def Buj10_12 := [bb 25 (d3 0), bb 28 (i6 5)]
def Fuj15_0 := [dg 0, vi 3, U, U, U, U, U, U, U, U, U, U, U, U, U, U, U]
def Fuj15_1 := fs Fuj15_0 [(2, ps 0 0), (4, ps 1 0), (5, li 0)]
def Buj15_2 := [bb 25 (d3 0), bb 28 o6]
def Ruj15_3 : Rg := ⟨3, 4, 0, Fuj15_0, Buj15_2, [pa 0 0, pa 1 0, pv (li 0) 0], []⟩
def Fuj15_4 := fs Fuj15_1 [(6, vi 4), (7, dg 0), (8, vi 3), (9, vi 4)]
def Ruj15_5 : Rg := ⟨4, 4, 2, Fuj15_1, Buj15_2, [pl (dg 0) 0 0 0, pv (vi 3) 0, pc (vi 4) 0 34 [dg 0, vi 3] 1, pv (vi 4) 1], [2]⟩
def Fuj15_6 := fs Fuj15_4 [(10, vi 4), (11, bo .neq (vi 4) (li 0))]
def Ruj15_7 : Rg := ⟨2, 5, 2, Fuj15_4, Buj15_2, [pv (vi 4) 0, pv (bo .neq (vi 4) (li 0)) 0], []⟩
def Fuj15_8 := fs Fuj15_6 [(5, vi 4), (12, ag o6), (13, vi 4)]
def Ruj15_9 : Rg := ⟨2, 5, 2, Fuj15_6, Buj15_2, [pv (ag o6) 0, pv (vi 4) 0], []⟩
def Fuj15_10 := fs Fuj15_6 [(14, dg 0), (15, vi 3), (16, ig 5)]
def Ruj15_11 : Rg := ⟨3, 5, 2, Fuj15_6, Buj15_2, [pl (dg 0) 0 0 0, pv (vi 3) 0, pc (ig 5) 0 40 [dg 0, vi 3] 6], [2]⟩
def Buj15_12 := [bb 25 (d3 0), bb 28 (i6 5)]
def Fuj18_0 := [dg 0, U, U, U, U, U, U, U, U, U, U, U, U, U, U]
def Fuj18_1 := fs Fuj18_0 [(1, ps 0 0), (2, lb false)]
def Buj18_2 := [bb 25 (d3 0)]
def Ruj18_3 : Rg := ⟨2, 3, 0, Fuj18_0, Buj18_2, [pa 0 0, pv (lb false) 0], []⟩
def Fuj18_4 := fs Fuj18_1 [(4, dg 0), (5, vb 3)]
def Ruj18_5 : Rg := ⟨2, 3, 1, Fuj18_1, Buj18_2, [pl (dg 0) 0 0 0, pc (vb 3) 0 42 [dg 0] 1], [1]⟩
def Ruj18_6 : Rg := ⟨1, 4, 1, Fuj18_4, Buj18_2, [pv (lb false) 0], []⟩
def Fuj18_7 := fs Fuj18_4 [(3, vi 7), (6, dg 0), (7, dg 4), (8, vi 7)]
def Ruj18_8 : Rg := ⟨4, 4, 1, Fuj18_4, Buj18_2, [pl (dg 0) 0 0 0, pc (dg 4) 0 44 [dg 0] 3, pc (vi 7) 1 43 [dg 4] 1, pv (vi 7) 2], [1, 2]⟩
def Fuj18_9 := fs Fuj18_7 [(2, pk (bo .lss (vi 7) (li (-16384))) (lb true) (bo .gtr (vi 7) (li 16384))), (9, vi 7), (10, bo .lss (vi 7) (li (-16384))), (11, bo .lss (vi 7) (li (-16384))), (12, gd false (bo .lss (vi 7) (li (-16384))) (vi 7)), (13, gd false (bo .lss (vi 7) (li (-16384))) (bo .gtr (vi 7) (li 16384))), (14, pk (bo .lss (vi 7) (li (-16384))) (lb true) (bo .gtr (vi 7) (li 16384)))]
def Ruj18_10 : Rg := ⟨7, 8, 1, Fuj18_7, Buj18_2, [pv (vi 7) 0, pv (bo .lss (vi 7) (li (-16384))) 0, pv (bo .lss (vi 7) (li (-16384))) 0, ⟨vi 7, 0, [], .val, gd false (bo .lss (vi 7) (li (-16384))) (vi 7)⟩, ⟨bo .gtr (vi 7) (li 16384), 0, [], .val, gd false (bo .lss (vi 7) (li (-16384))) (bo .gtr (vi 7) (li 16384))⟩, ⟨pk (bo .lss (vi 7) (li (-16384))) (lb true) (bo .gtr (vi 7) (li 16384)), 0, [], .pk, pk (bo .lss (vi 7) (li (-16384))) (lb true) (bo .gtr (vi 7) (li 16384))⟩, pv (pk (bo .lss (vi 7) (li (-16384))) (lb true) (bo .gtr (vi 7) (li 16384))) 0], []⟩
def Fuk37_0 := [ig 0, ig 6, vi 12, U, U, U, U, U, U, U, U, U, U, U, U, U, U, U, U, U, U, U, U, U, U, U, U, U, U, U, U, U, U, U, U, U]
def Fuk37_1 := fs Fuk37_0 [(3, ps 0 0), (4, ps 1 0), (6, lb false)]
def Buk37_2 := [bb 28 (i6 0), bb 28 (i6 6)]
def Ruk37_3 : Rg := ⟨3, 13, 0, Fuk37_0, Buk37_2, [pa 0 0, pa 1 0, pv (lb false) 0], []⟩
def Fuk37_4 := fs Fuk37_1 [(6, pk (pk (pk (pk (vb 13) (vb 20) (lb false)) (vb 21) (lb false)) (bo .leq (vi 22) (li 0)) (lb false)) (bo .leq (vi 23) (li 0)) (lb false)), (7, ig 0), (8, vb 13), (9, vb 13), (10, gd true (vb 13) (ig 0)), (11, gd true (vb 13) (ig 0)), (12, gd true (vb 13) (ig 14)), (13, gd true (vb 13) (vb 20)), (14, pk (vb 13) (vb 20) (lb false)), (15, pk (vb 13) (vb 20) (lb false)), (16, gd true (pk (vb 13) (vb 20) (lb false)) (ig 0)), (17, gd true (pk (vb 13) (vb 20) (lb false)) (vi 12)), (18, gd true (pk (vb 13) (vb 20) (lb false)) (vb 21)), (19, pk (pk (vb 13) (vb 20) (lb false)) (vb 21) (lb false)), (20, pk (pk (vb 13) (vb 20) (lb false)) (vb 21) (lb false)), (21, gd true (pk (pk (vb 13) (vb 20) (lb false)) (vb 21) (lb false)) (ps 0 0)), (22, gd true (pk (pk (vb 13) (vb 20) (lb false)) (vb 21) (lb false)) (dg 0)), (23, gd true (pk (pk (vb 13) (vb 20) (lb false)) (vb 21) (lb false)) (ps 1 3)), (24, gd true (pk (pk (vb 13) (vb 20) (lb false)) (vb 21) (lb false)) (dg 9)), (25, gd true (pk (pk (vb 13) (vb 20) (lb false)) (vb 21) (lb false)) (vi 22)), (26, gd true (pk (pk (vb 13) (vb 20) (lb false)) (vb 21) (lb false)) (bo .leq (vi 22) (li 0))), (27, pk (pk (pk (vb 13) (vb 20) (lb false)) (vb 21) (lb false)) (bo .leq (vi 22) (li 0)) (lb false)), (28, pk (pk (pk (vb 13) (vb 20) (lb false)) (vb 21) (lb false)) (bo .leq (vi 22) (li 0)) (lb false)), (29, gd true (pk (pk (pk (vb 13) (vb 20) (lb false)) (vb 21) (lb false)) (bo .leq (vi 22) (li 0)) (lb false)) (ps 1 0)), (30, gd true (pk (pk (pk (vb 13) (vb 20) (lb false)) (vb 21) (lb false)) (bo .leq (vi 22) (li 0)) (lb false)) (dg 6)), (31, gd true (pk (pk (pk (vb 13) (vb 20) (lb false)) (vb 21) (lb false)) (bo .leq (vi 22) (li 0)) (lb false)) (ps 0 3)), (32, gd true (pk (pk (pk (vb 13) (vb 20) (lb false)) (vb 21) (lb false)) (bo .leq (vi 22) (li 0)) (lb false)) (dg 3)), (33, gd true (pk (pk (pk (vb 13) (vb 20) (lb false)) (vb 21) (lb false)) (bo .leq (vi 22) (li 0)) (lb false)) (vi 23)), (34, gd true (pk (pk (pk (vb 13) (vb 20) (lb false)) (vb 21) (lb false)) (bo .leq (vi 22) (li 0)) (lb false)) (bo .leq (vi 23) (li 0))), (35, pk (pk (pk (pk (vb 13) (vb 20) (lb false)) (vb 21) (lb false)) (bo .leq (vi 22) (li 0)) (lb false)) (bo .leq (vi 23) (li 0)) (lb false))]
def Ruk37_5 : Rg := ⟨30, 13, 2, Fuk37_1, Buk37_2, [pl (ig 0) 0 0 0, pc (vb 13) 0 45 [ig 0] 1, pv (vb 13) 1, ⟨ig 0, 1, [], .ld 0 0, gd true (vb 13) (ig 0)⟩, ⟨ig 0, 1, [], .ld 0 0, gd true (vb 13) (ig 0)⟩, ⟨ig 14, 1, [], .cl 1 77 [ig 0] 6 [], gd true (vb 13) (ig 14)⟩, ⟨vb 20, 2, [], .cl 2 36 [ig 0, ig 14] 1 [], gd true (vb 13) (vb 20)⟩, ⟨pk (vb 13) (vb 20) (lb false), 3, [], .pk, pk (vb 13) (vb 20) (lb false)⟩, pv (pk (vb 13) (vb 20) (lb false)) 3, ⟨ig 0, 3, [], .ld 0 0, gd true (pk (vb 13) (vb 20) (lb false)) (ig 0)⟩, ⟨vi 12, 3, [], .val, gd true (pk (vb 13) (vb 20) (lb false)) (vi 12)⟩, ⟨vb 21, 3, [], .cl 3 78 [ig 0, vi 12] 1 [], gd true (pk (vb 13) (vb 20) (lb false)) (vb 21)⟩, ⟨pk (pk (vb 13) (vb 20) (lb false)) (vb 21) (lb false), 4, [], .pk, pk (pk (vb 13) (vb 20) (lb false)) (vb 21) (lb false)⟩, pv (pk (pk (vb 13) (vb 20) (lb false)) (vb 21) (lb false)) 4, ⟨ps 0 0, 4, [], .val, gd true (pk (pk (vb 13) (vb 20) (lb false)) (vb 21) (lb false)) (ps 0 0)⟩, ⟨dg 0, 4, [], .ld 0 0, gd true (pk (pk (vb 13) (vb 20) (lb false)) (vb 21) (lb false)) (dg 0)⟩, ⟨ps 1 3, 4, [], .val, gd true (pk (pk (vb 13) (vb 20) (lb false)) (vb 21) (lb false)) (ps 1 3)⟩, ⟨dg 9, 4, [], .ld 1 3, gd true (pk (pk (vb 13) (vb 20) (lb false)) (vb 21) (lb false)) (dg 9)⟩, ⟨vi 22, 4, [], .cl 4 26 [dg 0, dg 9] 1 [], gd true (pk (pk (vb 13) (vb 20) (lb false)) (vb 21) (lb false)) (vi 22)⟩, ⟨bo .leq (vi 22) (li 0), 5, [], .val, gd true (pk (pk (vb 13) (vb 20) (lb false)) (vb 21) (lb false)) (bo .leq (vi 22) (li 0))⟩, ⟨pk (pk (pk (vb 13) (vb 20) (lb false)) (vb 21) (lb false)) (bo .leq (vi 22) (li 0)) (lb false), 5, [], .pk, pk (pk (pk (vb 13) (vb 20) (lb false)) (vb 21) (lb false)) (bo .leq (vi 22) (li 0)) (lb false)⟩, pv (pk (pk (pk (vb 13) (vb 20) (lb false)) (vb 21) (lb false)) (bo .leq (vi 22) (li 0)) (lb false)) 5, ⟨ps 1 0, 5, [], .val, gd true (pk (pk (pk (vb 13) (vb 20) (lb false)) (vb 21) (lb false)) (bo .leq (vi 22) (li 0)) (lb false)) (ps 1 0)⟩, ⟨dg 6, 5, [], .ld 1 0, gd true (pk (pk (pk (vb 13) (vb 20) (lb false)) (vb 21) (lb false)) (bo .leq (vi 22) (li 0)) (lb false)) (dg 6)⟩, ⟨ps 0 3, 5, [], .val, gd true (pk (pk (pk (vb 13) (vb 20) (lb false)) (vb 21) (lb false)) (bo .leq (vi 22) (li 0)) (lb false)) (ps 0 3)⟩, ⟨dg 3, 5, [], .ld 0 3, gd true (pk (pk (pk (vb 13) (vb 20) (lb false)) (vb 21) (lb false)) (bo .leq (vi 22) (li 0)) (lb false)) (dg 3)⟩, ⟨vi 23, 5, [], .cl 5 26 [dg 6, dg 3] 1 [], gd true (pk (pk (pk (vb 13) (vb 20) (lb false)) (vb 21) (lb false)) (bo .leq (vi 22) (li 0)) (lb false)) (vi 23)⟩, ⟨bo .leq (vi 23) (li 0), 6, [], .val, gd true (pk (pk (pk (vb 13) (vb 20) (lb false)) (vb 21) (lb false)) (bo .leq (vi 22) (li 0)) (lb false)) (bo .leq (vi 23) (li 0))⟩, ⟨pk (pk (pk (pk (vb 13) (vb 20) (lb false)) (vb 21) (lb false)) (bo .leq (vi 22) (li 0)) (lb false)) (bo .leq (vi 23) (li 0)) (lb false), 6, [], .pk, pk (pk (pk (pk (vb 13) (vb 20) (lb false)) (vb 21) (lb false)) (bo .leq (vi 22) (li 0)) (lb false)) (bo .leq (vi 23) (li 0)) (lb false)⟩, pv (pk (pk (pk (pk (vb 13) (vb 20) (lb false)) (vb 21) (lb false)) (bo .leq (vi 22) (li 0)) (lb false)) (bo .leq (vi 23) (li 0)) (lb false)) 6], [1, 5, 6, 11, 18, 26]⟩
theorem fit_of {P M : Nat} {q : Rat} (h : Short P q) (hP : P ≤ 8000) (hM : M ≤ 24700) (h0 : (((2 ^ M : Nat) : Rat))⁻¹ ≤ ab q) (h1 : ab q ≤ ((2 ^ M : Nat) : Rat)) : FitQ q := by
 obtain ⟨y, f, rfl, hy⟩ := h
 refine fitq_iff.2 ?_
 have hc : cman y ≤ 2 ^ P := Nat.le_trans (Nat.div_le_self _ _) hy
 have b1 : bl (cman y) ≤ P + 1 := bl_le_iff.2 (Nat.lt_of_le_of_lt hc (Nat.pow_lt_pow_right (by decide) (by omega)))
 have hl : (limbs (cman y)).length ≤ 1024 := len_le (by omega)
 have hu : (0 : Rat) < (((2 ^ M : Nat) : Rat))⁻¹ := Rat.inv_pos.2 (upos (Nat.two_pow_pos M))
 rw [ab_Dv] at h0 h1
 have hpos : 0 < (y.natAbs : Int) := Dv_pos.1 (show 0 < Dv (y.natAbs : Int) f by grind)
 obtain ⟨t1, t2⟩ := top_pure (e := f) hpos
 rw [cman_ab, cexp_ab] at t1 t2
 rw [inv_pow] at h0
 rw [← two_w] at h1
 have a1 := pw_le (Rat.le_trans t1 h1)
 have t3 : (2 : Rat) ^ (-(M : Int)) < (2 : Rat) ^ (cexp y f + (bl (cman y) : Int) - 1 + 1) := by grind
 have a2 := pw_lt t3
 have b1 : bl (cman y) ≤ P + 1 := bl_le_iff.2 (Nat.lt_of_le_of_lt hc (Nat.pow_lt_pow_right (by decide) (by omega)))
 exact decide_eq_true ⟨hl, by omega, by omega⟩
theorem fit_zero : FitQ 0 := ⟨0, 0, (Dv_zero 0).symm, by rw [cman_zero, cexp_zero]; exact decide_eq_true ⟨by simp [limbs], by omega, by omega⟩⟩
structure LawSp (Sp : Nat → Rat → Rat → Rat → Prop) (far : Bool) : Prop where
 ok : ∀ P q l u l' u', 8 ≤ P → P ≤ 4096 → ab q ≤ 16384 → Sp P q l u → CutOf false l l' (ep (P + 8)) → CutOf true u u' (ep (P + 8)) → l' ≤ u' ∧ NarQ P l' u'
 fit : ∀ P q l u l' u', 8 ≤ P → P ≤ 4096 → ab q ≤ 16384 → Sp P q l u → CutOf false l l' (ep (P + 8)) → CutOf true u u' (ep (P + 8)) → Short (P + 8) l' → Short (P + 8) u' → (far = true → q = 0 ∨ (2 : Rat) ^ (-16384 : Int) ≤ ab q) → FitQ l' ∧ FitQ u'
 meet : ∀ P q l u l' u' c d, ab q ≤ 16384 → Sp P q l u → CutOf false l l' (ep (P + 8)) → CutOf true u u' (ep (P + 8)) → Sp P q c d → l' ≤ d ∧ c ≤ u'
theorem cut_err {P : Nat} {d : Rat} (h : d ≤ ep (P + 30)) : d + 5 * ep (P + 8) ≤ ep (P + 1) := by
 have h1 := ep_six (a := P + 30) (b := P + 8) (k := P + 5) (by omega) (by omega)
 have h2 := ep_le (p := P + 1) (q := P + 5) (by omega)
 grind
theorem nar_pow {lo hi d : Rat} {P : Nat} (h : Nar lo hi d) (hd : d ≤ ep (P + 1)) : (hi - lo) * (2 : Rat) ^ (P : Int) ≤ lo := by
 rw [two_w]; exact h.narrow hd
theorem nar_two {lo hi d : Rat} {P : Nat} (h : Nar lo hi d) (hd : d ≤ ep (P + 1)) : hi ≤ lo * 2 := by
 have e := ep_small (p := P + 1) (by omega)
 have := Rat.mul_le_mul_of_nonneg_left (Rat.le_trans hd e) (Rat.le_of_lt h.1)
 have := h.2
 grind
theorem ab_le' {q M : Rat} (h : ab q ≤ M) : -M ≤ q ∧ q ≤ M := by
 unfold ab at h
 split at h <;> constructor <;> grind
theorem lawE : LawSp SpE false := by
 have cut : ∀ {P q l u l' u'}, 8 ≤ P → SpE P q l u → CutOf false l l' (ep (P + 8)) → CutOf true u u' (ep (P + 8)) → Enc l' u' q (ep (P + 1)) := by
  intro P q l u l' u' hP h c1 c2
  have h := Enc.cut (show Enc l u q (ep (P + 49)) from h) c1 c2 (Rat.le_of_lt (ep_pos _)) (ep_small (by omega)) (Rat.le_of_lt (ep_pos _)) (ep8 (by omega))
  exact ⟨h.1, h.2.more (cut_err (ep_le (by omega)))⟩
 refine ⟨?_, ?_, ?_⟩
 · intro P q l u l' u' h8 h40 hq h c1 c2
   have e := cut h8 h c1 c2
   exact ⟨e.1.2.1, .inr (.inl ⟨e.1.1, nar_pow e.2 Rat.le_refl⟩)⟩
 · intro P q l u l' u' h8 h40 hq h c1 c2 s1 s2 _
   have e := cut h8 h c1 c2
   obtain ⟨n, hn⟩ : ∃ n, n = 8192 := ⟨_, rfl⟩
   obtain ⟨b1, b2⟩ := ab_le' hq
   obtain ⟨q1, q2⟩ := enc_size hn e (by omega) b1 b2
   have p1 := e.1.1
   have p2 := e.1.2.1
   have a1 : ab l' = l' := ab_of (Rat.le_of_lt p1)
   have a2 : ab u' = u' := ab_of (by grind)
   exact ⟨fit_of s1 (by omega) (M := 3 * n + 1) (by omega) (by rw [a1]; exact q1) (by rw [a1]; exact Rat.le_trans p2 q2), fit_of s2 (by omega) (M := 3 * n + 1) (by omega) (by rw [a2]; exact Rat.le_trans q1 p2) (by rw [a2]; exact q2)⟩
 · intro P q l u l' u' c d hq h c1 c2 h'
   have m := Exs.meet (show Enc l u q (ep (P + 49)) from h).1 (show Enc c d q (ep (P + 49)) from h').1
   exact ⟨Rat.le_trans c1.le m.1, Rat.le_trans m.2 c2.ge⟩
theorem cut_zero {up : Bool} {c e : Rat} (h : CutOf up 0 c e) : c = 0 := by
 have h1 := h.1 Rat.le_refl
 cases up
 · have := h1.1; have := h1.2; grind
 · have := h1.1; have := h1.2; grind
theorem le1_cut {P : Nat} {q l u l' u' : Rat} (hP : 8 ≤ P) (h : Le1 (P + 30) q l u) (hq : q ≠ 0) (c1 : CutOf false l l' (ep (P + 8))) (c2 : CutOf true u u' (ep (P + 8))) : (0 < q ∧ Nar l' u' (ep (P + 1))) ∨ (q < 0 ∧ Nar (-u') (-l') (ep (P + 1))) := by
 obtain ⟨a, b, e1, e2, e3⟩ := h.encl
 have hab := e1.2.1
 have hlu : l ≤ u := by grind
 by_cases hp : 0 < q
 · have n := h.pos hp
   have l0 := n.1
   have d1 := c1.1 (Rat.le_of_lt l0)
   have d2 := c2.1 (Rat.le_trans (Rat.le_of_lt l0) hlu)
   exact .inl ⟨hp, (Nar.cut n d1 d2 (Rat.le_of_lt (ep_pos _)) (ep_small (by omega)) (Rat.le_of_lt (ep_pos _)) (ep8 (by omega))).more (cut_err Rat.le_refl)⟩
 · have hn : q < 0 := by grind
   have n := h.neg hn
   have u0 := n.1
   have d1 := c1.2 (by grind)
   have d2 := c2.2 (by grind)
   exact .inr ⟨hn, (Nar.cut n d2 d1 (Rat.le_of_lt (ep_pos _)) (ep_small (by omega)) (Rat.le_of_lt (ep_pos _)) (ep8 (by omega))).more (cut_err Rat.le_refl)⟩
theorem lawL : LawSp SpL true := by
 refine ⟨?_, ?_, ?_⟩
 · intro P q l u l' u' h8 h40 hq h c1 c2
   rcases h with ⟨rfl, rfl, rfl⟩ | ⟨hne, h⟩
   · rw [cut_zero c1, cut_zero c2]
     exact ⟨Rat.le_refl, .inl ⟨rfl, rfl⟩⟩
   · obtain ⟨a, b, e1, e2, e3⟩ := h.encl
     have hab := e1.2.1
     have o1 := c1.le
     have o2 := c2.ge
     refine ⟨by grind, ?_⟩
     rcases le1_cut h8 h hne c1 c2 with ⟨hp, n⟩ | ⟨hn, n⟩
     · exact .inr (.inl ⟨n.1, nar_pow n Rat.le_refl⟩)
     · refine .inr (.inr ⟨by have := n.1; grind, ?_⟩)
       have := nar_pow n Rat.le_refl
       rw [show u' - l' = -l' - -u' by grind]; exact this
 · intro P q l u l' u' h8 h40 hq h c1 c2 s1 s2 hfar
   rcases h with ⟨rfl, rfl, rfl⟩ | ⟨hne, h⟩
   · rw [cut_zero c1, cut_zero c2]
     exact ⟨fit_zero, fit_zero⟩
   · have hbig := (hfar rfl).resolve_left hne
     obtain ⟨a, b, e1, e2, e3⟩ := h.encl
     obtain ⟨b1, b2⟩ := ab_le' hq
     have o1 := c1.le
     have o2 := c2.ge
     have hM : ((2 ^ 24580 : Nat) : Rat) = ((2 ^ 24580 : Nat) : Rat) := rfl
     obtain ⟨n, hn⟩ : ∃ n, n = 8192 := ⟨_, rfl⟩
     have e16 : ((2 * n : Nat) : Rat) = 16384 := by rw [hn]; decide +kernel
     obtain ⟨G, hG⟩ : ∃ G : Rat, G = (2 : Rat) ^ (-16384 : Int) := ⟨_, rfl⟩
     rw [← hG] at hbig
     have hG0 : 0 < G := by rw [hG]; exact Dv_pow_pos _
     have hG4 : (((2 ^ (3 * n + 4) : Nat) : Rat))⁻¹ ≤ G * (1 / 4) := by
      rw [inv_pow, hG, show (1 / 4 : Rat) = (2 : Rat) ^ (-2 : Int) by decide +kernel, ← Rat.zpow_add two_ne]
      exact pw_mono (by omega)
     obtain ⟨B, hB⟩ : ∃ B : Rat, B = ((2 ^ (3 * n) : Nat) : Rat) := ⟨_, rfl⟩
     have hB4 : ((2 ^ (3 * n + 4) : Nat) : Rat) = B * 16 := by rw [Nat.pow_add, Rat.natCast_mul, hB]; rfl
     have hB1 : 1 ≤ B := by rw [hB]; exact Rat.natCast_le_natCast.2 (Nat.one_le_two_pow)
     have fin : ∀ {y : Rat}, Short (P + 8) y → G * (1 / 4) ≤ ab y → ab y ≤ B * 16 → FitQ y := by
      intro y hs h1 h2
      exact fit_of hs (by omega) (M := 3 * n + 4) (by omega) (Rat.le_trans hG4 h1) (by rw [hB4]; exact h2)
     rcases le1_cut h8 h hne c1 c2 with ⟨hp, nn⟩ | ⟨hng, nn⟩
     · have g1 := e1.ge_add
       have hq0 : ab q = q := ab_of (Rat.le_of_lt hp)
       have ha := Ex.le_big (n := n) (Rat.le_of_lt hp) (by rw [e16]; exact b2) (e1.pos (Rat.le_of_lt hp))
       rw [← hB] at ha
       have l0 := nn.1
       have t := nar_two nn Rat.le_refl
       have x1 : ab l' = l' := ab_of (Rat.le_of_lt l0)
       have x2 : ab u' = u' := ab_of (by grind)
       rw [hq0] at hbig
       exact ⟨fin s1 (by rw [x1]; grind) (by rw [x1]; grind), fin s2 (by rw [x2]; grind) (by rw [x2]; grind)⟩
     · have g1 := e1.neg.ge_add
       have a0 := e1.1
       have hab := e1.2.1
       have hai : a * a⁻¹ = 1 := Rat.mul_inv_cancel _ (by grind)
       have hq0 : ab q = -q := ab_neg (Rat.le_of_lt hng)
       rw [hq0] at hbig
       have u0 := nn.1
       have t := nar_two nn Rat.le_refl
       have x1 : ab l' = -l' := ab_neg (by grind)
       have x2 : ab u' = -u' := ab_neg (by grind)
       -- 1 - a is at least G / 2
       have k1 : a * (1 + -q) ≤ 1 := by
        have := Rat.mul_le_mul_of_nonneg_left g1 (Rat.le_of_lt a0)
        rw [hai] at this; exact this
       have hG1 : G ≤ 1 := by
        rw [hG]
        have := pw_mono (a := -16384) (b := 0) (by omega)
        rwa [Rat.zpow_zero] at this
       have k2 : a * (1 + G) ≤ 1 := by
        have := Rat.mul_le_mul_of_nonneg_left (show 1 + G ≤ 1 + -q by grind) (Rat.le_of_lt a0)
        grind
       have k3 : G * (1 / 2) ≤ 1 - a := by
        refine Classical.byContradiction fun hc => ?_
        have hc : 1 - a < G * (1 / 2) := Rat.not_le.1 hc
        have h1 : 1 - G * (1 / 2) < a := by grind
        have h2 := Rat.mul_lt_mul_of_pos_right h1 (show 0 < 1 + G by grind)
        have h3 : 1 ≤ (1 - G * (1 / 2)) * (1 + G) := by
         have : (1 - G * (1 / 2)) * (1 + G) = 1 + G * (1 / 2) * (1 - G) := by grind
         rw [this]
         have := Rat.mul_nonneg (show 0 ≤ G * (1 / 2) by grind) (show 0 ≤ 1 - G by grind)
         grind
        grind
       have k4 : -u' < 1 := by grind
       exact ⟨fin s1 (by rw [x1]; grind) (by rw [x1]; grind), fin s2 (by rw [x2]; grind) (by rw [x2]; grind)⟩
 · intro P q l u l' u' c d hq h c1 c2 h'
   have o1 := c1.le
   have o2 := c2.ge
   rcases h with ⟨h0, rfl, rfl⟩ | ⟨hne, h⟩
   · rcases h' with ⟨_, rfl, rfl⟩ | ⟨hne, _⟩
     · exact ⟨o1, o2⟩
     · exact absurd h0 hne
   · rcases h' with ⟨h0, _, _⟩ | ⟨_, h'⟩
     · exact absurd h0 hne
     · obtain ⟨a, b, e1, e2, e3⟩ := h.encl
       obtain ⟨a', b', f1, f2, f3⟩ := h'.encl
       have m := Exs.meet e1 f1
       exact ⟨by grind, by grind⟩
theorem zi_c (w : World) : CI w zI 0 0 64 := (PI.mk (k := 0) ⟨0, 0, .zero0 _ _ _, (Dv_zero 0).symm, bd_zero _⟩ ⟨0, 0, .zero0 _ _ _, (Dv_zero 0).symm, bd_zero _⟩).c
def Fulk2_0 := [dg 0, ig 3, li 2, ig 9, li 2, vi 15, U, U, U, U, U, U, U, U, U, U, U, U, U, U, U, U, U, U, U, U, U, U, U, U, U, U, U, U, U, U, U, U]
def Fulk2_1 := fs Fulk2_0 [(6, ps 0 0), (7, ps 1 0), (9, ps 2 0), (12, lb false)]
def Bulk2_2 := [bb 25 (d3 0), bb 28 (i6 3), bb 28 (i6 9)]
def Rulk2_3 : Rg := ⟨4, 16, 0, Fulk2_0, Bulk2_2, [pa 0 0, pa 1 0, pa 2 0, pv (lb false) 0], []⟩
def Fulk2_4 := fs Fulk2_1 [(13, li 2), (14, lb false), (15, lb false), (16, gd true (lb false) (li 2)), (17, gd true (lb false) (lb false)), (18, pk (lb false) (lb false) (lb false)), (19, pk (lb false) (lb false) (lb false)), (20, gd true (pk (lb false) (lb false) (lb false)) (dg 0)), (21, gd true (pk (lb false) (lb false) (lb false)) (vb 16)), (22, pk (pk (lb false) (lb false) (lb false)) (vb 16) (lb false))]
def Rulk2_5 : Rg := ⟨10, 16, 3, Fulk2_1, Bulk2_2, [pv (li 2) 0, pv (lb false) 0, pv (lb false) 0, ⟨li 2, 0, [], .val, gd true (lb false) (li 2)⟩, ⟨lb false, 0, [], .val, gd true (lb false) (lb false)⟩, ⟨pk (lb false) (lb false) (lb false), 0, [], .pk, pk (lb false) (lb false) (lb false)⟩, pv (pk (lb false) (lb false) (lb false)) 0, ⟨dg 0, 0, [], .ld 0 0, gd true (pk (lb false) (lb false) (lb false)) (dg 0)⟩, ⟨vb 16, 0, [], .cl 0 18 [dg 0] 1 [], gd true (pk (lb false) (lb false) (lb false)) (vb 16)⟩, ⟨pk (pk (lb false) (lb false) (lb false)) (vb 16) (lb false), 1, [], .pk, pk (pk (lb false) (lb false) (lb false)) (vb 16) (lb false)⟩], [8]⟩
def Fulk2_6 := fs Fulk2_4 [(26, li 2), (27, li 2), (28, lb false)]
def Rulk2_7 : Rg := ⟨3, 17, 3, Fulk2_4, Bulk2_2, [pv (li 2) 0, pv (li 2) 0, pv (lb false) 0], []⟩
def Fulk2_8 := fs Fulk2_6 [(29, li 2), (30, lb true)]
def Rulk2_9 : Rg := ⟨2, 17, 3, Fulk2_6, Bulk2_2, [pv (li 2) 0, pv (lb true) 0], []⟩
def Fulk2_10 := fs Fulk2_8 [(12, vb 17), (31, ig 3), (32, ag o6), (33, vb 17)]
def Rulk2_11 : Rg := ⟨4, 17, 3, Fulk2_8, Bulk2_2, [pl (ig 3) 0 1 0, pv (ag o6) 0, pc (vb 17) 0 36 [ig 3, ag o6] 1, pv (vb 17) 1], [2]⟩
def Fulk3_0 := [dg 0, ig 3, li 3, ig 9, li 3, vi 15, U, U, U, U, U, U, U, U, U, U, U, U, U, U, U, U, U, U, U, U, U, U, U, U, U, U, U, U, U, U, U, U]
def Fulk3_1 := fs Fulk3_0 [(6, ps 0 0), (7, ps 1 0), (9, ps 2 0), (12, lb false)]
def Bulk3_2 := [bb 25 (d3 0), bb 28 (i6 3), bb 28 (i6 9)]
def Rulk3_3 : Rg := ⟨4, 16, 0, Fulk3_0, Bulk3_2, [pa 0 0, pa 1 0, pa 2 0, pv (lb false) 0], []⟩
def Fulk3_4 := fs Fulk3_1 [(13, li 3), (14, lb false), (15, lb false), (16, gd true (lb false) (li 3)), (17, gd true (lb false) (lb true)), (18, pk (lb false) (lb true) (lb false)), (19, pk (lb false) (lb true) (lb false)), (20, gd true (pk (lb false) (lb true) (lb false)) (dg 0)), (21, gd true (pk (lb false) (lb true) (lb false)) (vb 16)), (22, pk (pk (lb false) (lb true) (lb false)) (vb 16) (lb false))]
def Rulk3_5 : Rg := ⟨10, 16, 3, Fulk3_1, Bulk3_2, [pv (li 3) 0, pv (lb false) 0, pv (lb false) 0, ⟨li 3, 0, [], .val, gd true (lb false) (li 3)⟩, ⟨lb true, 0, [], .val, gd true (lb false) (lb true)⟩, ⟨pk (lb false) (lb true) (lb false), 0, [], .pk, pk (lb false) (lb true) (lb false)⟩, pv (pk (lb false) (lb true) (lb false)) 0, ⟨dg 0, 0, [], .ld 0 0, gd true (pk (lb false) (lb true) (lb false)) (dg 0)⟩, ⟨vb 16, 0, [], .cl 0 18 [dg 0] 1 [], gd true (pk (lb false) (lb true) (lb false)) (vb 16)⟩, ⟨pk (pk (lb false) (lb true) (lb false)) (vb 16) (lb false), 1, [], .pk, pk (pk (lb false) (lb true) (lb false)) (vb 16) (lb false)⟩], [8]⟩
def Fulk3_6 := fs Fulk3_4 [(26, li 3), (27, li 3), (28, lb false)]
def Rulk3_7 : Rg := ⟨3, 17, 3, Fulk3_4, Bulk3_2, [pv (li 3) 0, pv (li 3) 0, pv (lb false) 0], []⟩
def Fulk3_8 := fs Fulk3_6 [(29, li 3), (30, lb true)]
def Rulk3_9 : Rg := ⟨2, 17, 3, Fulk3_6, Bulk3_2, [pv (li 3) 0, pv (lb true) 0], []⟩
def Fulk3_10 := fs Fulk3_8 [(12, vb 17), (31, ig 3), (32, ag o6), (33, vb 17)]
def Rulk3_11 : Rg := ⟨4, 17, 3, Fulk3_8, Bulk3_2, [pl (ig 3) 0 1 0, pv (ag o6) 0, pc (vb 17) 0 36 [ig 3, ag o6] 1, pv (vb 17) 1], [2]⟩
def Fulc_0 := [dg 0, ig 3, li 0, ig 9, li 0, vi 15, U, U, U, U, U, U, U, U, U, U, U, U, U, U, U, U, U, U, U, U, U, U, U, U, U, U, U, U, U, U, U, U]
def Fulc_1 := fs Fulc_0 [(6, ps 0 0), (7, ps 1 0), (9, ps 2 0), (12, lb false)]
def Bulc_2 := [bb 25 (d3 0), bb 28 (i6 3), bb 28 (i6 9)]
def Rulc_3 : Rg := ⟨4, 16, 0, Fulc_0, Bulc_2, [pa 0 0, pa 1 0, pa 2 0, pv (lb false) 0], []⟩
def Fulc_4 := fs Fulc_1 [(13, li 0), (14, lb true), (15, lb true), (16, gd true (lb true) (li 0)), (17, gd true (lb true) (lb false)), (18, pk (lb true) (lb false) (lb false)), (19, pk (lb true) (lb false) (lb false)), (20, gd true (pk (lb true) (lb false) (lb false)) (dg 0)), (21, gd true (pk (lb true) (lb false) (lb false)) (vb 16)), (22, pk (pk (lb true) (lb false) (lb false)) (vb 16) (lb false))]
def Rulc_5 : Rg := ⟨10, 16, 3, Fulc_1, Bulc_2, [pv (li 0) 0, pv (lb true) 0, pv (lb true) 0, ⟨li 0, 0, [], .val, gd true (lb true) (li 0)⟩, ⟨lb false, 0, [], .val, gd true (lb true) (lb false)⟩, ⟨pk (lb true) (lb false) (lb false), 0, [], .pk, pk (lb true) (lb false) (lb false)⟩, pv (pk (lb true) (lb false) (lb false)) 0, ⟨dg 0, 0, [], .ld 0 0, gd true (pk (lb true) (lb false) (lb false)) (dg 0)⟩, ⟨vb 16, 0, [], .cl 0 18 [dg 0] 1 [], gd true (pk (lb true) (lb false) (lb false)) (vb 16)⟩, ⟨pk (pk (lb true) (lb false) (lb false)) (vb 16) (lb false), 1, [], .pk, pk (pk (lb true) (lb false) (lb false)) (vb 16) (lb false)⟩], [8]⟩
def Fulc_6 := fs Fulc_4 [(26, li 0), (27, li 0), (28, lb false)]
def Rulc_7 : Rg := ⟨3, 17, 3, Fulc_4, Bulc_2, [pv (li 0) 0, pv (li 0) 0, pv (lb false) 0], []⟩
def Fulc_8 := fs Fulc_6 [(29, li 0), (30, lb false)]
def Rulc_9 : Rg := ⟨2, 17, 3, Fulc_6, Bulc_2, [pv (li 0) 0, pv (lb false) 0], []⟩
def Fulc_10 := fs Fulc_8 [(12, vb 17), (34, ig 3), (35, ig 9), (36, vi 15), (37, vb 17)]
def Rulc_11 : Rg := ⟨5, 17, 3, Fulc_8, Bulc_2, [pl (ig 3) 0 1 0, pl (ig 9) 0 2 0, pv (vi 15) 0, pc (vb 17) 0 37 [ig 3, ig 9, vi 15] 1, pv (vb 17) 1], [3]⟩
def Fuld_0 := [dg 0, ig 3, li 3, ig 9, li 0, vi 15, U, U, U, U, U, U, U, U, U, U, U, U, U, U, U, U, U, U, U, U, U, U, U, U, U, U, U, U, U, U, U, U]
def Fuld_1 := fs Fuld_0 [(6, ps 0 0), (7, ps 1 0), (9, ps 2 0), (12, lb false)]
def Buld_2 := [bb 25 (d3 0), bb 28 (i6 3), bb 28 (i6 9)]
def Ruld_3 : Rg := ⟨4, 16, 0, Fuld_0, Buld_2, [pa 0 0, pa 1 0, pa 2 0, pv (lb false) 0], []⟩
def Fuld_4 := fs Fuld_1 [(13, li 0), (14, lb true), (15, lb true), (16, gd true (lb true) (li 3)), (17, gd true (lb true) (lb true)), (18, pk (lb true) (lb true) (lb false)), (19, pk (lb true) (lb true) (lb false)), (20, gd true (pk (lb true) (lb true) (lb false)) (dg 0)), (21, gd true (pk (lb true) (lb true) (lb false)) (vb 16)), (22, pk (pk (lb true) (lb true) (lb false)) (vb 16) (lb false))]
def Ruld_5 : Rg := ⟨10, 16, 3, Fuld_1, Buld_2, [pv (li 0) 0, pv (lb true) 0, pv (lb true) 0, ⟨li 3, 0, [], .val, gd true (lb true) (li 3)⟩, ⟨lb true, 0, [], .val, gd true (lb true) (lb true)⟩, ⟨pk (lb true) (lb true) (lb false), 0, [], .pk, pk (lb true) (lb true) (lb false)⟩, pv (pk (lb true) (lb true) (lb false)) 0, ⟨dg 0, 0, [], .ld 0 0, gd true (pk (lb true) (lb true) (lb false)) (dg 0)⟩, ⟨vb 16, 0, [], .cl 0 18 [dg 0] 1 [], gd true (pk (lb true) (lb true) (lb false)) (vb 16)⟩, ⟨pk (pk (lb true) (lb true) (lb false)) (vb 16) (lb false), 1, [], .pk, pk (pk (lb true) (lb true) (lb false)) (vb 16) (lb false)⟩], [8]⟩
def Fuld_6 := fs Fuld_4 [(12, vb 17), (23, ig 3), (24, ag o6), (25, vb 17)]
def Ruld_7 : Rg := ⟨4, 17, 3, Fuld_4, Buld_2, [pl (ig 3) 0 1 0, pv (ag o6) 0, pc (vb 17) 0 36 [ig 3, ag o6] 1, pv (vb 17) 1], [2]⟩
theorem Asked.got {w : World} {b : Nat} {fits : Prop} {p why : Int} {q : Rat} {Sp : Nat → Rat → Rat → Rat → Prop} {v : Value} {far : Bool} (h : Asked w b fits p q Sp v why) (hok : fits ∧ 8 ≤ p ∧ p ≤ 4096) (hsm : ab q ≤ 16384) (L : LawSp Sp far) (hfar : far = true → q = 0 ∨ (2 : Rat) ^ (-16384 : Int) ≤ ab q) :
 why = 0 ∧ ∃ l u l' u', Sp p.toNat q l u ∧ CutOf false l l' (ep (p.toNat + 8)) ∧ CutOf true u u' (ep (p.toNat + 8)) ∧ PI w b v l' u' 1000001 ∧ FitQ l' ∧ FitQ u' ∧ l' ≤ u' ∧ NarQ p.toNat l' u' := by
 rcases h with ⟨_, _, hno⟩ | ⟨_, ⟨_, _, hbig⟩ | ⟨_, l, u, l', u', hs, c1, c2, s1, s2, hr⟩⟩
 · exact absurd hok hno
 · exact absurd hsm (Rat.not_le.2 hbig)
 · have h8 : 8 ≤ p.toNat := by have := hok.2; omega
   have h40 : p.toNat ≤ 4096 := by have := hok.2; omega
   obtain ⟨k1, k2⟩ := L.ok _ _ _ _ _ _ h8 h40 hsm hs c1 c2
   obtain ⟨g1, g2⟩ := L.fit _ _ _ _ _ _ h8 h40 hsm hs c1 c2 s1 s2 hfar
   rcases hr with ⟨rfl, hpi, f1, f2, _⟩ | ⟨rfl, rfl, hnf⟩
   · exact ⟨rfl, l, u, l', u', hs, c1, c2, hpi, f1, f2, k1, k2⟩
   · exact absurd ⟨g1, g2, k1⟩ hnf
theorem Asked.two {w : World} {b : Nat} {fits : Prop} {p why : Int} {q : Rat} {Sp : Nat → Rat → Rat → Rat → Prop} {v : Value} (h : Asked w b fits p q Sp v why) (hno : ¬ (fits ∧ 8 ≤ p ∧ p ≤ 4096)) : why = 2 ∧ v = zI := by
 rcases h with ⟨h1, h2, _⟩ | ⟨hok, _⟩
 · exact ⟨h1, h2⟩
 · exact absurd hok hno
theorem dint_pd (n : Int) (w : World) (h1 : -9223372036854775808 ≤ n) (h2 : n < 9223372036854775808) :
 Calls Tryz.prog 21 #[.int .i64 n] w fun en w' => ∃ v', en = .returned v' ∧ PDy w' w.heap.size v' n 0 ∧ BL w w' :=
 (dint_any n w h1 h2).mono (by rintro e w' ⟨v, rfl, h, hb⟩; exact ⟨v, rfl, h.p, hb⟩)
theorem PDy.ad {w : World} {b : Nat} {v : Value} (h : PDy w b v 1 0) : ADy w v false 1 0 := by
 have := h.c.any
 rw [show cneg 1 = false from rfl, show cman 1 = 1 by decide +kernel, show cexp 1 0 = 0 by decide +kernel] at this
 exact this
theorem fit_one : Fit 1 0 = true := decide_eq_true ⟨by have := len_le (m := 1) (K := 1) (by decide); omega, by omega, by omega⟩
theorem dv_one : Dv (sgn false 1) 0 = 1 := by decide +kernel
theorem dv_z : Dv (sgn false 0) 0 = 0 := by decide +kernel
theorem ad_zero (w : World) : ADy w (.agg #[.bool false, .slice none 0 0, .int .i64 0]) false 0 0 := by
 have := (PDy.zero0 w 0 0).c.any
 rw [show cneg 0 = false from rfl, show cman 0 = 0 from cman_zero, show cexp 0 0 = 0 from cexp_zero 0] at this
 exact this
theorem fit_0 : Fit 0 0 = true := decide_eq_true ⟨by simp [limbs], by omega, by omega⟩
theorem e_between {l u l' u' : Rat} (h : SpE 8 1 l u) (c1 : CutOf false l l' (ep (8 + 8))) (c2 : CutOf true u u' (ep (8 + 8))) (hn : NarQ 8 l' u') : ((2 : Int) : Rat) < l' ∧ u' < ((3 : Int) : Rat) := by
 have e : Exs (27 / 10) (11 / 4) 1 := ⟨by decide +kernel, by decide +kernel, .inl ⟨by decide +kernel, Ex.one⟩⟩
 obtain ⟨m1, m2⟩ := Exs.meet (show Enc l u 1 (ep (8 + 49)) from h).1 e
 have o1 := c1.le
 have o2 := c2.ge
 have e2 : (2 : Rat) ^ ((8 : Nat) : Int) = 256 := by decide +kernel
 rw [show ((2 : Int) : Rat) = 2 from rfl, show ((3 : Int) : Rat) = 3 from rfl]
 rcases hn with ⟨h1, h2⟩ | ⟨h1, h2⟩ | ⟨h1, h2⟩
 · constructor <;> grind
 · rw [e2] at h2; constructor <;> grind
 · constructor <;> grind
def Fum13_0 : List Sy := [U, U, U, U, U, U, U, U, U, U, U, U, U, U, U, U, U, U, U, U, U, U, U, U, U, U, U, U, U, U, U, U, U, U, U, U, U, U, U, U, U, U, U, U, U, U, U, U, U, U, U]
def Fum13_1 := fs Fum13_0 [(0, lb false)]
def Rum13_2 : Rg := ⟨1, 0, 0, Fum13_0, [], [pv (lb false) 0], []⟩
def Fum13_3 := fs Fum13_1 [(1, ps 0 0), (2, vi 9), (7, tu [ig 3, vi 9]), (8, dg 0), (9, tu [ig 3, vi 9]), (10, ig 3), (11, vi 9)]
def Bum13_4 := [bb 28 o6]
def Rum13_5 : Rg := ⟨6, 0, 0, Fum13_1, Bum13_4, [pc (dg 0) 0 21 [li 1] 3, pc (tu [ig 3, vi 9]) 1 9 [dg 0, li 8] 7, pv (tu [ig 3, vi 9]) 2, pv (ig 3) 2, pv (vi 9) 2, pa 0 0], [0, 1]⟩
def Bum13_6 := [bb 28 (i6 3)]
def Fum13_7 := fs Fum13_3 [(3, ps 1 0), (4, vi 16), (12, tu [ig 10, vi 16]), (13, ag o3), (14, tu [ig 10, vi 16]), (15, ig 10), (16, vi 16)]
def Bum13_8 := [bb 28 (i6 3), bb 28 o6]
def Rum13_9 : Rg := ⟨6, 10, 1, Fum13_3, Bum13_8, [pv (ag o3) 0, pc (tu [ig 10, vi 16]) 0 14 [ag o3, li 8] 7, pv (tu [ig 10, vi 16]) 1, pv (ig 10) 1, pv (vi 16) 1, pa 1 0], [1]⟩
def Bum13_10 := [bb 28 (i6 3), bb 28 (i6 10)]
def Fum13_11 := fs Fum13_7 [(5, ps 2 0), (6, vi 26), (17, tu [ig 20, vi 26]), (18, dg 17), (19, tu [ig 20, vi 26]), (20, ig 20), (21, vi 26)]
def Bum13_12 := [bb 28 (i6 3), bb 28 (i6 10), bb 28 o6]
def Rum13_13 : Rg := ⟨6, 17, 2, Fum13_7, Bum13_12, [pc (dg 17) 0 21 [li 1] 3, pc (tu [ig 20, vi 26]) 1 9 [dg 17, li 7] 7, pv (tu [ig 20, vi 26]) 2, pv (ig 20) 2, pv (vi 26) 2, pa 2 0], [0, 1]⟩
def Bum13_14 := [bb 28 (i6 3), bb 28 (i6 10), bb 28 (i6 20)]
def Fum13_15 := fs Fum13_11 [(0, pk (pk (pk (pk (pk (bo .eql (vi 9) (li 0)) (bo .lss (vi 30) (li 0)) (lb false)) (bo .lss (vi 34) (li 0)) (lb false)) (bo .eql (vi 16) (li 0)) (lb false)) (vb 35) (lb false)) (bo .eql (vi 26) (li 2)) (lb false)), (22, vi 9), (23, bo .eql (vi 9) (li 0)), (24, bo .eql (vi 9) (li 0)), (25, gd true (bo .eql (vi 9) (li 0)) (dg 27)), (26, gd true (bo .eql (vi 9) (li 0)) (ps 0 0)), (27, gd true (bo .eql (vi 9) (li 0)) (dg 3)), (28, gd true (bo .eql (vi 9) (li 0)) (vi 30)), (29, gd true (bo .eql (vi 9) (li 0)) (bo .lss (vi 30) (li 0))), (30, pk (bo .eql (vi 9) (li 0)) (bo .lss (vi 30) (li 0)) (lb false)), (31, pk (bo .eql (vi 9) (li 0)) (bo .lss (vi 30) (li 0)) (lb false)), (32, gd true (pk (bo .eql (vi 9) (li 0)) (bo .lss (vi 30) (li 0)) (lb false)) (ps 0 3)), (33, gd true (pk (bo .eql (vi 9) (li 0)) (bo .lss (vi 30) (li 0)) (lb false)) (dg 6)), (34, gd true (pk (bo .eql (vi 9) (li 0)) (bo .lss (vi 30) (li 0)) (lb false)) (dg 31)), (35, gd true (pk (bo .eql (vi 9) (li 0)) (bo .lss (vi 30) (li 0)) (lb false)) (vi 34)), (36, gd true (pk (bo .eql (vi 9) (li 0)) (bo .lss (vi 30) (li 0)) (lb false)) (bo .lss (vi 34) (li 0))), (37, pk (pk (bo .eql (vi 9) (li 0)) (bo .lss (vi 30) (li 0)) (lb false)) (bo .lss (vi 34) (li 0)) (lb false)), (38, pk (pk (bo .eql (vi 9) (li 0)) (bo .lss (vi 30) (li 0)) (lb false)) (bo .lss (vi 34) (li 0)) (lb false)), (39, gd true (pk (pk (bo .eql (vi 9) (li 0)) (bo .lss (vi 30) (li 0)) (lb false)) (bo .lss (vi 34) (li 0)) (lb false)) (vi 16)), (40, gd true (pk (pk (bo .eql (vi 9) (li 0)) (bo .lss (vi 30) (li 0)) (lb false)) (bo .lss (vi 34) (li 0)) (lb false)) (bo .eql (vi 16) (li 0))), (41, pk (pk (pk (bo .eql (vi 9) (li 0)) (bo .lss (vi 30) (li 0)) (lb false)) (bo .lss (vi 34) (li 0)) (lb false)) (bo .eql (vi 16) (li 0)) (lb false)), (42, pk (pk (pk (bo .eql (vi 9) (li 0)) (bo .lss (vi 30) (li 0)) (lb false)) (bo .lss (vi 34) (li 0)) (lb false)) (bo .eql (vi 16) (li 0)) (lb false)), (43, gd true (pk (pk (pk (bo .eql (vi 9) (li 0)) (bo .lss (vi 30) (li 0)) (lb false)) (bo .lss (vi 34) (li 0)) (lb false)) (bo .eql (vi 16) (li 0)) (lb false)) (ig 10)), (44, gd true (pk (pk (pk (bo .eql (vi 9) (li 0)) (bo .lss (vi 30) (li 0)) (lb false)) (bo .lss (vi 34) (li 0)) (lb false)) (bo .eql (vi 16) (li 0)) (lb false)) (ag o6)), (45, gd true (pk (pk (pk (bo .eql (vi 9) (li 0)) (bo .lss (vi 30) (li 0)) (lb false)) (bo .lss (vi 34) (li 0)) (lb false)) (bo .eql (vi 16) (li 0)) (lb false)) (vb 35)), (46, pk (pk (pk (pk (bo .eql (vi 9) (li 0)) (bo .lss (vi 30) (li 0)) (lb false)) (bo .lss (vi 34) (li 0)) (lb false)) (bo .eql (vi 16) (li 0)) (lb false)) (vb 35) (lb false)), (47, pk (pk (pk (pk (bo .eql (vi 9) (li 0)) (bo .lss (vi 30) (li 0)) (lb false)) (bo .lss (vi 34) (li 0)) (lb false)) (bo .eql (vi 16) (li 0)) (lb false)) (vb 35) (lb false)), (48, gd true (pk (pk (pk (pk (bo .eql (vi 9) (li 0)) (bo .lss (vi 30) (li 0)) (lb false)) (bo .lss (vi 34) (li 0)) (lb false)) (bo .eql (vi 16) (li 0)) (lb false)) (vb 35) (lb false)) (vi 26)), (49, gd true (pk (pk (pk (pk (bo .eql (vi 9) (li 0)) (bo .lss (vi 30) (li 0)) (lb false)) (bo .lss (vi 34) (li 0)) (lb false)) (bo .eql (vi 16) (li 0)) (lb false)) (vb 35) (lb false)) (bo .eql (vi 26) (li 2))), (50, pk (pk (pk (pk (pk (bo .eql (vi 9) (li 0)) (bo .lss (vi 30) (li 0)) (lb false)) (bo .lss (vi 34) (li 0)) (lb false)) (bo .eql (vi 16) (li 0)) (lb false)) (vb 35) (lb false)) (bo .eql (vi 26) (li 2)) (lb false))]
def Rum13_16 : Rg := ⟨30, 27, 3, Fum13_11, Bum13_14, [pv (vi 9) 0, pv (bo .eql (vi 9) (li 0)) 0, pv (bo .eql (vi 9) (li 0)) 0, ⟨dg 27, 0, [], .cl 0 21 [li 2] 3 [], gd true (bo .eql (vi 9) (li 0)) (dg 27)⟩, ⟨ps 0 0, 0, [], .val, gd true (bo .eql (vi 9) (li 0)) (ps 0 0)⟩, ⟨dg 3, 0, [], .ld 0 0, gd true (bo .eql (vi 9) (li 0)) (dg 3)⟩, ⟨vi 30, 1, [], .cl 1 26 [dg 27, dg 3] 1 [], gd true (bo .eql (vi 9) (li 0)) (vi 30)⟩, ⟨bo .lss (vi 30) (li 0), 2, [], .val, gd true (bo .eql (vi 9) (li 0)) (bo .lss (vi 30) (li 0))⟩, ⟨pk (bo .eql (vi 9) (li 0)) (bo .lss (vi 30) (li 0)) (lb false), 2, [], .pk, pk (bo .eql (vi 9) (li 0)) (bo .lss (vi 30) (li 0)) (lb false)⟩, pv (pk (bo .eql (vi 9) (li 0)) (bo .lss (vi 30) (li 0)) (lb false)) 2, ⟨ps 0 3, 2, [], .val, gd true (pk (bo .eql (vi 9) (li 0)) (bo .lss (vi 30) (li 0)) (lb false)) (ps 0 3)⟩, ⟨dg 6, 2, [], .ld 0 3, gd true (pk (bo .eql (vi 9) (li 0)) (bo .lss (vi 30) (li 0)) (lb false)) (dg 6)⟩, ⟨dg 31, 2, [], .cl 2 21 [li 3] 3 [], gd true (pk (bo .eql (vi 9) (li 0)) (bo .lss (vi 30) (li 0)) (lb false)) (dg 31)⟩, ⟨vi 34, 3, [], .cl 3 26 [dg 6, dg 31] 1 [], gd true (pk (bo .eql (vi 9) (li 0)) (bo .lss (vi 30) (li 0)) (lb false)) (vi 34)⟩, ⟨bo .lss (vi 34) (li 0), 4, [], .val, gd true (pk (bo .eql (vi 9) (li 0)) (bo .lss (vi 30) (li 0)) (lb false)) (bo .lss (vi 34) (li 0))⟩, ⟨pk (pk (bo .eql (vi 9) (li 0)) (bo .lss (vi 30) (li 0)) (lb false)) (bo .lss (vi 34) (li 0)) (lb false), 4, [], .pk, pk (pk (bo .eql (vi 9) (li 0)) (bo .lss (vi 30) (li 0)) (lb false)) (bo .lss (vi 34) (li 0)) (lb false)⟩, pv (pk (pk (bo .eql (vi 9) (li 0)) (bo .lss (vi 30) (li 0)) (lb false)) (bo .lss (vi 34) (li 0)) (lb false)) 4, ⟨vi 16, 4, [], .val, gd true (pk (pk (bo .eql (vi 9) (li 0)) (bo .lss (vi 30) (li 0)) (lb false)) (bo .lss (vi 34) (li 0)) (lb false)) (vi 16)⟩, ⟨bo .eql (vi 16) (li 0), 4, [], .val, gd true (pk (pk (bo .eql (vi 9) (li 0)) (bo .lss (vi 30) (li 0)) (lb false)) (bo .lss (vi 34) (li 0)) (lb false)) (bo .eql (vi 16) (li 0))⟩, ⟨pk (pk (pk (bo .eql (vi 9) (li 0)) (bo .lss (vi 30) (li 0)) (lb false)) (bo .lss (vi 34) (li 0)) (lb false)) (bo .eql (vi 16) (li 0)) (lb false), 4, [], .pk, pk (pk (pk (bo .eql (vi 9) (li 0)) (bo .lss (vi 30) (li 0)) (lb false)) (bo .lss (vi 34) (li 0)) (lb false)) (bo .eql (vi 16) (li 0)) (lb false)⟩, pv (pk (pk (pk (bo .eql (vi 9) (li 0)) (bo .lss (vi 30) (li 0)) (lb false)) (bo .lss (vi 34) (li 0)) (lb false)) (bo .eql (vi 16) (li 0)) (lb false)) 4, ⟨ig 10, 4, [], .ld 1 0, gd true (pk (pk (pk (bo .eql (vi 9) (li 0)) (bo .lss (vi 30) (li 0)) (lb false)) (bo .lss (vi 34) (li 0)) (lb false)) (bo .eql (vi 16) (li 0)) (lb false)) (ig 10)⟩, ⟨ag o6, 4, [], .val, gd true (pk (pk (pk (bo .eql (vi 9) (li 0)) (bo .lss (vi 30) (li 0)) (lb false)) (bo .lss (vi 34) (li 0)) (lb false)) (bo .eql (vi 16) (li 0)) (lb false)) (ag o6)⟩, ⟨vb 35, 4, [], .cl 4 36 [ig 10, ag o6] 1 [], gd true (pk (pk (pk (bo .eql (vi 9) (li 0)) (bo .lss (vi 30) (li 0)) (lb false)) (bo .lss (vi 34) (li 0)) (lb false)) (bo .eql (vi 16) (li 0)) (lb false)) (vb 35)⟩, ⟨pk (pk (pk (pk (bo .eql (vi 9) (li 0)) (bo .lss (vi 30) (li 0)) (lb false)) (bo .lss (vi 34) (li 0)) (lb false)) (bo .eql (vi 16) (li 0)) (lb false)) (vb 35) (lb false), 5, [], .pk, pk (pk (pk (pk (bo .eql (vi 9) (li 0)) (bo .lss (vi 30) (li 0)) (lb false)) (bo .lss (vi 34) (li 0)) (lb false)) (bo .eql (vi 16) (li 0)) (lb false)) (vb 35) (lb false)⟩, pv (pk (pk (pk (pk (bo .eql (vi 9) (li 0)) (bo .lss (vi 30) (li 0)) (lb false)) (bo .lss (vi 34) (li 0)) (lb false)) (bo .eql (vi 16) (li 0)) (lb false)) (vb 35) (lb false)) 5, ⟨vi 26, 5, [], .val, gd true (pk (pk (pk (pk (bo .eql (vi 9) (li 0)) (bo .lss (vi 30) (li 0)) (lb false)) (bo .lss (vi 34) (li 0)) (lb false)) (bo .eql (vi 16) (li 0)) (lb false)) (vb 35) (lb false)) (vi 26)⟩, ⟨bo .eql (vi 26) (li 2), 5, [], .val, gd true (pk (pk (pk (pk (bo .eql (vi 9) (li 0)) (bo .lss (vi 30) (li 0)) (lb false)) (bo .lss (vi 34) (li 0)) (lb false)) (bo .eql (vi 16) (li 0)) (lb false)) (vb 35) (lb false)) (bo .eql (vi 26) (li 2))⟩, ⟨pk (pk (pk (pk (pk (bo .eql (vi 9) (li 0)) (bo .lss (vi 30) (li 0)) (lb false)) (bo .lss (vi 34) (li 0)) (lb false)) (bo .eql (vi 16) (li 0)) (lb false)) (vb 35) (lb false)) (bo .eql (vi 26) (li 2)) (lb false), 5, [], .pk, pk (pk (pk (pk (pk (bo .eql (vi 9) (li 0)) (bo .lss (vi 30) (li 0)) (lb false)) (bo .lss (vi 34) (li 0)) (lb false)) (bo .eql (vi 16) (li 0)) (lb false)) (vb 35) (lb false)) (bo .eql (vi 26) (li 2)) (lb false)⟩, pv (pk (pk (pk (pk (pk (bo .eql (vi 9) (li 0)) (bo .lss (vi 30) (li 0)) (lb false)) (bo .lss (vi 34) (li 0)) (lb false)) (bo .eql (vi 16) (li 0)) (lb false)) (vb 35) (lb false)) (bo .eql (vi 26) (li 2)) (lb false)) 5], [3, 6, 12, 13, 23]⟩
theorem begins_q (w : World) (hT : TB w) :
 Calls Tryz.prog 13 #[] w fun en w' => en = .returned (.bool true) ∧ BL w w' := by
 refine fn_enter (u := 64) (fn := Tryz.f13) Tryz.func13 rfl Fum13_0 [] (by kernel_rfl) rfl (fun a0 S0 r0 => ?_)
 refine wp_seq (rk Rum13_2 [] Fum13_1 [] S0 r0 ?_)
 intro _ _ _ r1 S1
 refine wp_seq (rk Rum13_5 [.st 0 0 (i6 3), .mv (vi 9)] Fum13_3 Bum13_6 S1 r1 ?_)
 intro _ _ r2 _
 refine (dint_pd 1 _ (by decide) (by decide)).mono ?_
 rintro _ V1 ⟨v, rfl, h1, k1⟩
 obtain ⟨b1, A1, n1, c1, x1, rfl⟩ := h1.ex
 replace h1 := h1.lower r2.fs
 refine ⟨[.bool b1, .slice A1 n1 c1, .int .i64 x1], rfl, rfl, rfl, k1, ?_⟩
 intro _ _ r3 _
 refine (exp_q (p := 8) (h1.lat (r3.at_ 0 _ rfl)).ad (tb hT r3)).mono ?_
 rintro _ V2 ⟨v, why, rfl, ha, k2⟩
 rw [dv_one] at ha
 obtain ⟨rfl, l, u, l1, u1, hs, c1, c2, hv, f1, f2, hle, hn⟩ := ha.got ⟨fit_one, by decide, by decide⟩ (by decide +kernel) lawE (fun h => by cases h)
 obtain ⟨hlo, hhi⟩ := e_between hs c1 c2 hn
 obtain ⟨b2, A2, n2, c2, x2, d2, B2, m2, e2, y2, rfl⟩ := hv.ex
 replace hv := hv.lower r3.fs
 refine ⟨[.bool b2, .slice A2 n2 c2, .int .i64 x2, .bool d2, .slice B2 m2 e2, .int .i64 y2, .int .i64 (0 : Int)], rfl, rfl, rfl, k2, ?_⟩
 intro _ _ _ r4 S4
 refine wp_seq (rk Rum13_9 [.st 1 0 (i6 10), .mv (vi 16)] Fum13_7 Bum13_10 S4 r4 ?_)
 intro _ _ r5 _
 refine (expm1_q (p := 8) (ad_zero _) (tb hT r5)).mono ?_
 rintro _ V3 ⟨v, why, rfl, ha, k3⟩
 rw [dv_z] at ha
 obtain ⟨rfl, l, u, l2, u2, hs, c1, c2, hz, _, _, _, _⟩ := ha.got ⟨fit_0, by decide, by decide⟩ (by decide +kernel) lawL (fun _ => .inl rfl)
 obtain ⟨_, rfl, rfl⟩ := hs.resolve_right (fun h => h.1 rfl)
 obtain rfl := cut_zero c1
 obtain rfl := cut_zero c2
 obtain ⟨b3, A3, n3, c3, x3, d3, B3, m3, e3, y3, rfl⟩ := hz.ex
 replace hz := hz.lower r5.fs
 refine ⟨[.bool b3, .slice A3 n3 c3, .int .i64 x3, .bool d3, .slice B3 m3 e3, .int .i64 y3, .int .i64 (0 : Int)], rfl, rfl, rfl, k3, ?_⟩
 intro _ _ _ r6 S6
 refine wp_seq (rk Rum13_13 [.st 2 0 (i6 20), .mv (vi 26)] Fum13_11 Bum13_14 S6 r6 ?_)
 intro _ _ r7 _
 refine (dint_pd 1 _ (by decide) (by decide)).mono ?_
 rintro _ V4 ⟨v, rfl, h3, k4⟩
 obtain ⟨b4, A4, n4, c4, x4, rfl⟩ := h3.ex
 replace h3 := h3.lower r7.fs
 refine ⟨[.bool b4, .slice A4 n4 c4, .int .i64 x4], rfl, rfl, rfl, k4, ?_⟩
 intro _ _ r8 _
 refine (exp_q (p := 7) (h3.lat (r8.at_ 3 _ rfl)).ad (tb hT r8)).mono ?_
 rintro _ V5 ⟨v, why, rfl, ha, k5⟩
 obtain ⟨rfl, rfl⟩ := ha.two (by omega)
 refine ⟨[.bool false, .slice none 0 0, .int .i64 0, .bool false, .slice none 0 0, .int .i64 0, .int .i64 (2 : Int)], rfl, rfl, rfl, k5, ?_⟩
 intro _ _ _ r9 S9
 refine wp_seq (rk Rum13_16 [] Fum13_15 Bum13_14 S9 r9 ?_)
 refine ⟨fun c10 => ?_, fun c10 => ?_⟩
 · replace c10 := yv (b := (0 : Int) == 0) c10
   intro _ _ r11 _
   refine (dint_q 2 _ (by decide) (by decide)).mono ?_
   rintro _ V6 ⟨v, rfl, h4, k6⟩
   obtain ⟨b6, A6, n6, c6, x6, rfl⟩ := h4.ex
   replace h4 := h4.lower r11.fs
   refine ⟨[.bool b6, .slice A6 n6 c6, .int .i64 x6], rfl, rfl, rfl, k6, ?_⟩
   refine ⟨fun c12 => ?_, fun c12 => ?_⟩
   · replace c12 := yv (b := (0 : Int) == 0) c12
     intro _ _ r13 _
     refine (dorder_q (h4.lat (r13.at_ 5 _ rfl)).c (hv.lat (r13.at_ 1 _ rfl)).lo.c (by decide) (tb hT r13)).mono ?_
     rintro _ V7 ⟨rfl, k7⟩
     rw [show cmpQ (((2 : Int) : Rat)) (l1) = -1 from if_pos (by first | exact hlo | exact hhi)]
     refine ⟨[.int .i64 (-1 : Int)], rfl, rfl, rfl, k7, ?_⟩
     refine ⟨fun c14 => ?_, fun c14 => ?_⟩
     · replace c14 := yv (b := if (0 : Int) == 0 then decide ((-1 : Int) < 0) else false) c14
       intro _ _ r15 _
       refine (dint_q 3 _ (by decide) (by decide)).mono ?_
       rintro _ V8 ⟨v, rfl, h5, k8⟩
       obtain ⟨b8, A8, n8, c8, x8, rfl⟩ := h5.ex
       replace h5 := h5.lower r15.fs
       refine ⟨[.bool b8, .slice A8 n8 c8, .int .i64 x8], rfl, rfl, rfl, k8, ?_⟩
       refine ⟨fun c16 => ?_, fun c16 => ?_⟩
       · replace c16 := yv (b := if (0 : Int) == 0 then decide ((-1 : Int) < 0) else false) c16
         intro _ _ r17 _
         refine (dorder_q (hv.lat (r17.at_ 1 _ rfl)).hi.c (h5.lat (r17.at_ 7 _ rfl)).c (by decide) (tb hT r17)).mono ?_
         rintro _ V9 ⟨rfl, k9⟩
         rw [show cmpQ (u1) (((3 : Int) : Rat)) = -1 from if_pos (by first | exact hlo | exact hhi)]
         refine ⟨[.int .i64 (-1 : Int)], rfl, rfl, rfl, k9, ?_⟩
         refine ⟨fun c18 => ?_, fun c18 => ?_⟩
         · replace c18 := yv (b := if if if (0 : Int) == 0 then decide ((-1 : Int) < 0) else false then decide ((-1 : Int) < 0) else false then (0 : Int) == 0 else false) c18
           intro _ _ r19 _
           refine (dsame_i (hz.lat (r19.at_ 2 _ rfl)).c (zi_c _) (by decide) (tb hT r19)).mono ?_
           rintro _ V10 ⟨r, rfl, hr, k10⟩
           obtain rfl : r = true := hr.2 ⟨rfl, rfl⟩
           refine ⟨[.bool true], rfl, rfl, rfl, k10, ?_⟩
           intro _ _ _ r20 S20
           exact rt S20 [.bool (if if if if if (0 : Int) == 0 then decide ((-1 : Int) < 0) else false then decide ((-1 : Int) < 0) else false then (0 : Int) == 0 else false then true else false then (2 : Int) == 2 else false)] (⟨rfl, r20.first⟩)
         · replace c18 := yn (b := if if if (0 : Int) == 0 then decide ((-1 : Int) < 0) else false then decide ((-1 : Int) < 0) else false then (0 : Int) == 0 else false) c18
           simp at c18
       · replace c16 := yn (b := if (0 : Int) == 0 then decide ((-1 : Int) < 0) else false) c16
         simp at c16
     · replace c14 := yn (b := if (0 : Int) == 0 then decide ((-1 : Int) < 0) else false) c14
       simp at c14
   · replace c12 := yn (b := (0 : Int) == 0) c12
     simp at c12
 · replace c10 := yn (b := (0 : Int) == 0) c10
   simp at c10
def Fun4_0 := [dg 0, vi 3, U, U, U, U, U, U, U, U, U, U, U, U, U, U, U, U, U, U, U, U, U, U, U, U, U, U, U, U, U]
def Fun4_1 := fs Fun4_0 [(2, ps 0 0), (4, lb false)]
def Bun4_2 := [bb 25 (d3 0)]
def Run4_3 : Rg := ⟨2, 4, 0, Fun4_0, Bun4_2, [pa 0 0, pv (lb false) 0], []⟩
def Fun4_4 := fs Fun4_1 [(5, ps 1 0), (6, vi 10), (9, tu [ig 4, vi 10]), (10, dg 0), (11, vi 3), (12, tu [ig 4, vi 10]), (13, ig 4), (14, vi 10)]
def Bun4_5 := [bb 25 (d3 0), bb 28 o6]
def Run4_6 : Rg := ⟨7, 4, 1, Fun4_1, Bun4_5, [pl (dg 0) 0 0 0, pv (vi 3) 0, pc (tu [ig 4, vi 10]) 0 14 [dg 0, vi 3] 7, pv (tu [ig 4, vi 10]) 1, pv (ig 4) 1, pv (vi 10) 1, pa 1 0], [2]⟩
def Bun4_7 := [bb 25 (d3 0), bb 28 (i6 4)]
def Fun4_8 := fs Fun4_4 [(7, ps 2 0), (8, vi 17), (15, tu [ig 11, vi 17]), (16, dg 0), (17, vi 3), (18, tu [ig 11, vi 17]), (19, ig 11), (20, vi 17)]
def Bun4_9 := [bb 25 (d3 0), bb 28 (i6 4), bb 28 o6]
def Run4_10 : Rg := ⟨7, 11, 2, Fun4_4, Bun4_9, [pl (dg 0) 0 0 0, pv (vi 3) 0, pc (tu [ig 11, vi 17]) 0 15 [dg 0, vi 3] 7, pv (tu [ig 11, vi 17]) 1, pv (ig 11) 1, pv (vi 17) 1, pa 2 0], [2]⟩
def Bun4_11 := [bb 25 (d3 0), bb 28 (i6 4), bb 28 (i6 11)]
def Fun4_12 := fs Fun4_8 [(4, pk (vb 18) (vb 19) (lb false)), (21, dg 0), (22, ig 4), (23, vi 10), (24, ig 11), (25, vi 17), (26, vi 3), (27, vb 18), (28, vb 18), (29, gd true (vb 18) (vb 19)), (30, pk (vb 18) (vb 19) (lb false))]
def Run4_13 : Rg := ⟨11, 18, 3, Fun4_8, Bun4_11, [pl (dg 0) 0 0 0, pl (ig 4) 0 1 0, pv (vi 10) 0, pl (ig 11) 0 2 0, pv (vi 17) 0, pv (vi 3) 0, pc (vb 18) 0 11 [dg 0, ig 4, vi 10, ig 11, vi 17, vi 3] 1, pv (vb 18) 1, ⟨vb 19, 1, [], .cl 1 13 [] 1 [], gd true (vb 18) (vb 19)⟩, ⟨pk (vb 18) (vb 19) (lb false), 2, [], .pk, pk (vb 18) (vb 19) (lb false)⟩, pv (pk (vb 18) (vb 19) (lb false)) 2], [6, 8]⟩
open Go Go.ChangeShapes Go.WideShapes Go.ChangeAt Go.RowKit Go.Deep Go.Proofs.YtkdicconchobfaaGreatDoorW.PrintWords Limb
theorem trod_word {H : Type} {enc : TypeId × Value → H} {P : Program} {w : World} {base : Nat} {spare : Nat → Bool} {held : Bool} {n : Nat} {t : TypeId} {v : Value} {x : DataW H × List MemPlace} (ht : P.underlying t = some (.int .u64)) (h : DataW.trod enc P w base spare held n t [v] = some x) : ∃ b : Nat, v = .int .u64 (b : Int) ∧ b < 18446744073709551616 := by
 cases n with
 | zero => simp [DataW.trod] at h
 | succ n =>
   cases v with
   | int k b =>
     simp only [DataW.trod, ht] at h
     split at h
     · rename_i hh
       obtain ⟨rfl, hw⟩ := hh
       have hw2 : 0 ≤ b ∧ b ≤ 18446744073709551615 := by simpa [Lit.wf, IntKind.min, IntKind.max, IntKind.signed, IntKind.bits] using hw
       exact ⟨b.toNat, by rw [Int.toNat_of_nonneg hw2.1], by omega⟩
     · cases h
   | _ => simp [DataW.trod, ht] at h
theorem open_words {H : Type} {enc : TypeId × Value → H} {P : Program} {w : World} {base : Nat} {spare : Nat → Bool} {held : Bool} {fuel : Nat} {t e : TypeId} {v : Value} {x : DataW H × List MemPlace}
 (ht : P.underlying t = some (.slice e)) (he : P.underlying e = some (.int .u64)) (hc : P.cellsOf e = 1) (hf : DataW.trod enc P w base spare held fuel t [v] = some x) :
 ∃ (A : Option Addr) (len cap : Nat) (l : List Nat), v = .slice A len cap ∧ l.length = len ∧ Wf l ∧ len ≤ cap ∧ kU.C w A len l ∧ (x.1 = .nil ∧ len = 0 ∨ ∃ el sp, x.1 = .slice el sp ∧ el.length = len) := by
 rcases open_slice1 ht hc hf with ⟨hcs, hx⟩ | ⟨a, len, cap, m, n, V, D, Pl, hcs, _, hl, hm, hmm, hx, hV⟩
 · injection hcs with hcs
   subst hcs
   exact ⟨none, 0, 0, [], rfl, rfl, (by intro y hy; cases hy), Nat.le_refl _, ⟨rfl, by omega, fun h => absurd h (by omega)⟩, .inl ⟨by rw [hx], rfl⟩⟩
 · injection hcs with hcs
   subst hcs
   have hle : len ≤ m := by rw [hmm]; split <;> omega
   have hval : ∀ i, ∃ b : Nat, i < len → V i = .int .u64 (b : Int) ∧ b < 18446744073709551616 := by
    intro i
    by_cases hi : i < len
    · obtain ⟨b, hb⟩ := trod_word he (hV i (by omega)).2
      exact ⟨b, fun _ => hb⟩
    · exact ⟨0, fun h => absurd h hi⟩
   obtain ⟨B, hB⟩ := Classical.axiomOfChoice hval
   refine ⟨some a, len, cap, (List.range len).map B, rfl, by simp, ?_, hl, ⟨by simp, by unfold maxLen at hm; omega, fun _ => ⟨a, rfl, fun j p hp => ?_⟩⟩, .inr ⟨_, _, by rw [hx], by simp⟩⟩
   · intro y hy
     simp at hy
     obtain ⟨i, hi, rfl⟩ := hy
     exact (hB i hi).2
   have hj : j < len := by have := (List.getElem?_eq_some_iff.1 hp).1; simpa using this
   have hp' : p = B j := by simp [hj] at hp; exact hp.symm
   refine ⟨[.int .u64 ((B j : Nat) : Int)], rfl, by rw [hp']; rfl, fun i u hu => ?_⟩
   match i, hu with
   | 0, hu =>
     simp at hu
     subst hu
     have := (hV j (by omega)).1
     rw [(hB j hj).1] at this
     simpa [kU, Kd.scalar] using this
theorem len3 {α : Type} {l : List α} (h : l.length = 3) : ∃ a b c, l = [a, b, c] := by
 match l, h with
 | [a, b, c], _ => exact ⟨a, b, c, rfl⟩
theorem open_dyad {H : Type} {enc : TypeId × Value → H} {w : World} {base : Nat} {spare : Nat → Bool} {held : Bool} {fuel : Nat} {cs : List Value} {x : DataW H × List MemPlace}
 (hf : DataW.trod enc Tryz.prog w base spare held fuel 25 cs = some x) :
 ∃ (s : Bool) (A : Option Addr) (len cap : Nat) (X : Int) (l : List Nat), cs = [.bool s, .slice A len cap, .int .i64 X] ∧ l.length = len ∧ Wf l ∧ len ≤ cap ∧ kU.C w A len l ∧ (-9223372036854775808 ≤ X ∧ X ≤ 9223372036854775807) ∧ ∃ d0 d1 d2, x.1 = .agg [d0, d1, d2] ∧ (d1 = .nil ∧ len = 0 ∨ ∃ el sp, d1 = .slice el sp ∧ el.length = len) := by
 obtain ⟨xs, n, _, rfl, hl, hlen, hg⟩ := DataW.trod_struct Tryz.underlying25 hf
 have hc3 : Tryz.prog.cellsOf 25 = 3 := by kernel_rfl
 have hb1 : Tryz.prog.cellsOf 4 = 1 := by kernel_rfl
 have hn1 : Tryz.prog.cellsOf 23 = 1 := by kernel_rfl
 have hi1 : Tryz.prog.cellsOf 3 = 1 := by kernel_rfl
 rw [hc3] at hl
 obtain ⟨c0, c1, c2, rfl⟩ := len3 hl
 obtain ⟨y0, y1, y2, rfl⟩ := len3 (l := xs) (hlen.trans rfl)
 have g0 : DataW.trod enc Tryz.prog w base spare held n 4 (List.take (Tryz.prog.cellsOf 4) (List.drop 0 [c0, c1, c2])) = some y0 := hg 0 _ rfl
 have g1 : DataW.trod enc Tryz.prog w base spare held n 23 (List.take (Tryz.prog.cellsOf 23) (List.drop 1 [c0, c1, c2])) = some y1 := hg 1 _ rfl
 have g2 : DataW.trod enc Tryz.prog w base spare held n 3 (List.take (Tryz.prog.cellsOf 3) (List.drop 2 [c0, c1, c2])) = some y2 := hg 2 _ rfl
 rw [hb1] at g0
 rw [hn1] at g1
 rw [hi1] at g2
 simp only [List.drop_zero, List.drop_succ_cons, List.take_succ_cons, List.take_zero] at g0 g1 g2
 obtain ⟨b, e0, _⟩ := DataW.trod_bool Tryz.underlying4 g0
 obtain ⟨A, len, cap, l, e1, k1, k2, k3, k4, k5⟩ := open_words Tryz.underlying23 Tryz.underlying64 (by kernel_rfl) g1
 obtain ⟨X, e2, _, wX⟩ := DataW.trod_int Tryz.underlying3 g2
 injection e0 with e0
 injection e2 with e2
 subst e0 e1 e2
 exact ⟨b, A, len, cap, X, l, rfl, k1, k2, k3, k4, by simpa [Lit.wf, IntKind.min, IntKind.max, IntKind.signed, IntKind.bits] using wX, y0.1, y1.1, y2.1, rfl, k5⟩
theorem got_e {w : World} {b : Nat} {fits : Prop} {p : Int} {q : Rat} {v : Value} (h : Asked w b fits p q SpE v 0) :
 ∃ l u, PI w b v l u 1000001 ∧ FitQ l ∧ FitQ u ∧ l ≤ u ∧ NarQ p.toNat l u ∧ 0 < l ∧ ab q ≤ 16384 ∧ ∃ a c, Exs a c q ∧ l ≤ a ∧ c ≤ u := by
 rcases h with ⟨h1, _⟩ | ⟨hok, ⟨h1, _⟩ | ⟨hsm, l, u, l', u', hs, c1, c2, s1, s2, ⟨_, hpi, f1, f2, hle⟩ | ⟨h1, _⟩⟩⟩
 · cases h1
 · cases h1
 · have hp := hok.2
   obtain ⟨k1, k2⟩ := lawE.ok _ _ _ _ _ _ (show 8 ≤ p.toNat by omega) (by omega) hsm hs c1 c2
   have e : Enc l u q (ep (p.toNat + 49)) := hs
   have e0 := e.1.1
   have e1 := e.1.2.1
   have o1 := c1.le
   have o2 := c2.ge
   refine ⟨l', u', hpi, f1, f2, hle, k2, ?_, hsm, l, u, e.1, o1, o2⟩
   rcases k2 with ⟨h1, h2⟩ | ⟨h1, _⟩ | ⟨h1, _⟩
   · grind
   · exact h1
   · grind
 · cases h1
theorem why_e {w : World} {b : Nat} {fits : Prop} {p why : Int} {q : Rat} {v : Value} (h : Asked w b fits p q SpE v why) (hok : fits ∧ 8 ≤ p ∧ p ≤ 4096) : (why = 0 ∧ ab q ≤ 16384) ∨ (why = 3 ∧ 16384 < ab q) := by
 by_cases hq : ab q ≤ 16384
 · exact .inl ⟨(h.got hok hq lawE (fun h => by cases h)).1, hq⟩
 · rcases h with ⟨_, _, h1⟩ | ⟨_, ⟨h1, _⟩ | ⟨h1, _⟩⟩
   · exact absurd hok h1
   · exact .inr ⟨h1, Rat.not_le.1 hq⟩
   · exact absurd h1 hq
def Fwb25_0 := [dg 0, U, U, U, U, U, U, U, U]
def Fwb25_1 := fs Fwb25_0 [(1, ps 0 0), (2, li 0)]
def Bwb25_2 := [bb 25 (d3 0)]
def Rwb25_3 : Rg := ⟨2, 3, 0, Fwb25_0, Bwb25_2, [pa 0 0, pv (li 0) 0], []⟩
def Fwb25_4 := fs Fwb25_1 [(3, vb 3), (4, dg 0), (5, vb 3)]
def Rwb25_5 : Rg := ⟨3, 3, 1, Fwb25_1, Bwb25_2, [pl (dg 0) 0 0 0, pc (vb 3) 0 42 [dg 0] 1, pv (vb 3) 1], [1]⟩
def Rwb25_6 : Rg := ⟨1, 4, 1, Fwb25_4, Bwb25_2, [pv (li 0) 0], []⟩
def Fwb25_7 := fs Fwb25_4 [(6, vb 0), (7, ps 0 0), (8, vb 0)]
def Rwb25_8 : Rg := ⟨3, 4, 1, Fwb25_4, Bwb25_2, [pv (ps 0 0) 0, pl (vb 0) 0 0 0, pv (vb 0) 0], []⟩
def Fwb25_9 := fs Fwb25_7 [(2, li (-1))]
def Rwb25_10 : Rg := ⟨1, 4, 1, Fwb25_7, Bwb25_2, [pv (li (-1)) 0], []⟩
def Fwb25_11 := fs Fwb25_7 [(2, li 1)]
def Rwb25_12 : Rg := ⟨1, 4, 1, Fwb25_7, Bwb25_2, [pv (li 1) 0], []⟩
def Fwb43_0 := [dg 0, U, U, U, U, U, U, U, U, U]
def Fwb43_1 := fs Fwb43_0 [(1, ps 0 0), (2, li 0)]
def Bwb43_2 := [bb 25 (d3 0)]
def Rwb43_3 : Rg := ⟨2, 3, 0, Fwb43_0, Bwb43_2, [pa 0 0, pv (li 0) 0], []⟩
def Fwb43_4 := fs Fwb43_1 [(2, bo .sub (bo .add (vi 2) (vi 3)) (li 1)), (3, ps 0 2), (4, vi 2), (5, ps 0 1), (6, vs 1), (7, vi 3), (8, bo .add (vi 2) (vi 3)), (9, bo .sub (bo .add (vi 2) (vi 3)) (li 1))]
def Rwb43_5 : Rg := ⟨8, 3, 1, Fwb43_1, Bwb43_2, [pv (ps 0 2) 0, pl (vi 2) 0 0 2, pv (ps 0 1) 0, pl (vs 1) 0 0 1, pc (vi 3) 0 90 [vs 1] 1, pv (bo .add (vi 2) (vi 3)) 1, pv (bo .sub (bo .add (vi 2) (vi 3)) (li 1)) 1, pv (bo .sub (bo .add (vi 2) (vi 3)) (li 1)) 1], [4]⟩
def Fwb93_0 := [dg 0, U, U, U, U, U, U, U, U, U, U]
def Fwb93_1 := fs Fwb93_0 [(1, ps 0 0), (2, ps 1 0)]
def Bwb93_2 := [bb 25 (d3 0), bb 25 o3]
def Rwb93_3 : Rg := ⟨2, 3, 0, Fwb93_0, Bwb93_2, [pa 0 0, pa 1 0], []⟩
def Fwb93_4 := fs Fwb93_1 [(3, ps 0 0), (4, vb 0), (5, f1 noF (vb 0)), (6, ps 0 1), (7, vs 1), (8, ps 0 2), (9, vi 2), (10, dg 3)]
def Rwb93_5 : Rg := ⟨8, 3, 2, Fwb93_1, Bwb93_2, [pv (ps 0 0) 0, pl (vb 0) 0 0 0, pv (f1 noF (vb 0)) 0, pv (ps 0 1) 0, pl (vs 1) 0 0 1, pv (ps 0 2) 0, pl (vi 2) 0 0 2, pc (dg 3) 0 46 [f1 noF (vb 0), vs 1, vi 2] 3], [7]⟩
def Bwb93_6 := [bb 25 (d3 0), bb 25 (d3 3)]
theorem fit_i8 {p : Int} : (if decide (p ≥ 8) = true then decide (p ≤ 4096) else false) = decide (8 ≤ p ∧ p ≤ 4096) := by
 by_cases h : p ≥ 8
 · rw [if_pos (decide_eq_true h)]; by_cases h' : p ≤ 4096
   · rw [decide_eq_true h', decide_eq_true (p := 8 ≤ p ∧ p ≤ 4096) ⟨h, h'⟩]
   · rw [decide_eq_false h', decide_eq_false (p := 8 ≤ p ∧ p ≤ 4096) (fun q => h' q.2)]
 · rw [decide_eq_false h, decide_eq_false (p := 8 ≤ p ∧ p ≤ 4096) (fun q => h q.1)]; rfl
def Fwp16_0 := [vi 0, U, U, U, U, U, U, U, U]
def Fwp16_1 := fs Fwp16_0 [(2, lb false)]
def Rwp16_2 : Rg := ⟨1, 1, 0, Fwp16_0, [], [pv (lb false) 0], []⟩
def Fwp16_3 := fs Fwp16_1 [(2, pk (bo .geq (vi 0) (li 8)) (bo .leq (vi 0) (li 4096)) (lb false)), (3, vi 0), (4, bo .geq (vi 0) (li 8)), (5, bo .geq (vi 0) (li 8)), (6, gd true (bo .geq (vi 0) (li 8)) (vi 0)), (7, gd true (bo .geq (vi 0) (li 8)) (bo .leq (vi 0) (li 4096))), (8, pk (bo .geq (vi 0) (li 8)) (bo .leq (vi 0) (li 4096)) (lb false))]
def Rwp16_4 : Rg := ⟨7, 1, 0, Fwp16_1, [], [pv (vi 0) 0, pv (bo .geq (vi 0) (li 8)) 0, pv (bo .geq (vi 0) (li 8)) 0, ⟨vi 0, 0, [], .val, gd true (bo .geq (vi 0) (li 8)) (vi 0)⟩, ⟨bo .leq (vi 0) (li 4096), 0, [], .val, gd true (bo .geq (vi 0) (li 8)) (bo .leq (vi 0) (li 4096))⟩, ⟨pk (bo .geq (vi 0) (li 8)) (bo .leq (vi 0) (li 4096)) (lb false), 0, [], .pk, pk (bo .geq (vi 0) (li 8)) (bo .leq (vi 0) (li 4096)) (lb false)⟩, pv (pk (bo .geq (vi 0) (li 8)) (bo .leq (vi 0) (li 4096)) (lb false)) 0], []⟩
theorem fit_q (p : Int) (w : World) :
 Calls Tryz.prog 16 #[.int .i64 p] w fun en w' => en = .returned (.bool (decide (8 ≤ p ∧ p ≤ 4096))) ∧ BL w w' := by
 refine fn_enter (u := 64) (fn := Tryz.f16) Tryz.func16 rfl Fwp16_0 [.int .i64 p] (by kernel_rfl) rfl (fun a0 S0 r0 => ?_)
 refine wp_seq (rk Rwp16_2 [] Fwp16_1 [] S0 r0 ?_)
 intro _ _ _ r1 S1
 refine wp_seq (rk Rwp16_4 [] Fwp16_3 [] S1 r1 ?_)
 intro _ _ _ r2 S2
 exact rt S2 [.bool (if decide (p ≥ 8) then decide (p ≤ 4096) else false)] (⟨by rw [fit_i8]; rfl, r2.first⟩)
def Fwp23_0 := [ig 0, ig 6, U, U, U, U, U, U, U, U, U, U, U, U, U, U, U, U, U]
def Fwp23_1 := fs Fwp23_0 [(2, ps 0 0), (3, ps 1 0), (4, lb false)]
def Bwp23_2 := [bb 28 (i6 0), bb 28 (i6 6)]
def Rwp23_3 : Rg := ⟨3, 12, 0, Fwp23_0, Bwp23_2, [pa 0 0, pa 1 0, pv (lb false) 0], []⟩
def Fwp23_4 := fs Fwp23_1 [(4, pk (bo .leq (vi 12) (li 0)) (bo .leq (vi 13) (li 0)) (lb false)), (5, ps 0 0), (6, dg 0), (7, ps 1 3), (8, dg 9), (9, vi 12), (10, bo .leq (vi 12) (li 0)), (11, bo .leq (vi 12) (li 0)), (12, gd true (bo .leq (vi 12) (li 0)) (ps 1 0)), (13, gd true (bo .leq (vi 12) (li 0)) (dg 6)), (14, gd true (bo .leq (vi 12) (li 0)) (ps 0 3)), (15, gd true (bo .leq (vi 12) (li 0)) (dg 3)), (16, gd true (bo .leq (vi 12) (li 0)) (vi 13)), (17, gd true (bo .leq (vi 12) (li 0)) (bo .leq (vi 13) (li 0))), (18, pk (bo .leq (vi 12) (li 0)) (bo .leq (vi 13) (li 0)) (lb false))]
def Rwp23_5 : Rg := ⟨15, 12, 2, Fwp23_1, Bwp23_2, [pv (ps 0 0) 0, pl (dg 0) 0 0 0, pv (ps 1 3) 0, pl (dg 9) 0 1 3, pc (vi 12) 0 26 [dg 0, dg 9] 1, pv (bo .leq (vi 12) (li 0)) 1, pv (bo .leq (vi 12) (li 0)) 1, ⟨ps 1 0, 1, [], .val, gd true (bo .leq (vi 12) (li 0)) (ps 1 0)⟩, ⟨dg 6, 1, [], .ld 1 0, gd true (bo .leq (vi 12) (li 0)) (dg 6)⟩, ⟨ps 0 3, 1, [], .val, gd true (bo .leq (vi 12) (li 0)) (ps 0 3)⟩, ⟨dg 3, 1, [], .ld 0 3, gd true (bo .leq (vi 12) (li 0)) (dg 3)⟩, ⟨vi 13, 1, [], .cl 1 26 [dg 6, dg 3] 1 [], gd true (bo .leq (vi 12) (li 0)) (vi 13)⟩, ⟨bo .leq (vi 13) (li 0), 2, [], .val, gd true (bo .leq (vi 12) (li 0)) (bo .leq (vi 13) (li 0))⟩, ⟨pk (bo .leq (vi 12) (li 0)) (bo .leq (vi 13) (li 0)) (lb false), 2, [], .pk, pk (bo .leq (vi 12) (li 0)) (bo .leq (vi 13) (li 0)) (lb false)⟩, pv (pk (bo .leq (vi 12) (li 0)) (bo .leq (vi 13) (li 0)) (lb false)) 2], [4, 11]⟩
theorem meets_q {u v : Value} {a b c d : Rat} {N M : Nat} {w : World} (h : CI w u a b N) (h' : CI w v c d M) (h1 : a ≤ d) (h2 : c ≤ b) (hN : N + M ≤ 33554431) (hT : TB w) :
 Calls Tryz.prog 23 #[u, v] w fun en w' => en = .returned (.bool true) ∧ BL w w' := by
 obtain ⟨b0, A0, n0, c0, x0, d0, B0, m0, e0, y0, rfl⟩ := h.ex
 obtain ⟨b9, A9, n9, c9, x9, d9, B9, m9, e9, y9, rfl⟩ := h'.ex
 refine fn_enter (u := 64) (fn := Tryz.f23) Tryz.func23 rfl Fwp23_0 [.bool b0, .slice A0 n0 c0, .int .i64 x0, .bool d0, .slice B0 m0 e0, .int .i64 y0, .bool b9, .slice A9 n9 c9, .int .i64 x9, .bool d9, .slice B9 m9 e9, .int .i64 y9] (by kernel_rfl) rfl (fun a0 S0 r0 => ?_)
 refine wp_seq (rk Rwp23_3 [] Fwp23_1 Bwp23_2 S0 r0 ?_)
 intro _ _ _ r1 S1
 refine wp_seq (rk Rwp23_5 [] Fwp23_4 Bwp23_2 S1 r1 ?_)
 intro _ _ r2 _
 refine (dorder_q (h.below r2.first).lo (h'.below r2.first).hi (by omega) (tb hT r2)).mono ?_
 rintro _ V1 ⟨rfl, k1⟩
 refine ⟨[.int .i64 (cmpQ (a) (d))], rfl, rfl, rfl, k1, ?_⟩
 refine ⟨fun c3 => ?_, fun c3 => ?_⟩
 · replace c3 := yv (b := decide ((cmpQ (a) (d)) ≤ 0)) c3
   intro W4 g4 r4 _
   refine (dorder_q (h'.below r4.first).lo (h.below r4.first).hi (by omega) (tb hT r4)).mono ?_
   rintro _ V2 ⟨rfl, k2⟩
   refine ⟨[.int .i64 (cmpQ (c) (b))], rfl, rfl, rfl, k2, ?_⟩
   intro _ _ _ r5 S5
   exact rt S5 [.bool (if decide ((cmpQ (a) (d)) ≤ 0) then decide ((cmpQ (c) (b)) ≤ 0) else false)] (⟨by rw [cmp_le h1, cmp_le h2]; rfl, r5.first⟩)
 · replace c3 := yn (b := decide ((cmpQ (a) (d)) ≤ 0)) c3
   intro _ g4 W4 r4 S4
   exact rt S4 [.bool (if decide ((cmpQ (a) (d)) ≤ 0) then decide (0 ≤ 0) else false)] ((by rw [cmp_le h1] at c3; cases c3))
def Fwp22_0 := [ig 0, U, U, U, U, U, U, U, U, U, U, U, U, U, U, U, U, U, U, U, U, U, U, U, U, U, U]
def Fwp22_1 := fs Fwp22_0 [(1, ps 0 0), (2, li 0), (3, lb false)]
def Bwp22_2 := [bb 28 (i6 0)]
def Rwp22_3 : Rg := ⟨3, 6, 0, Fwp22_0, Bwp22_2, [pa 0 0, pv (li 0) 0, pv (lb false) 0], []⟩
def Fwp22_4 := fs Fwp22_1 [(6, ig 0), (7, vb 6), (8, f1 noF (vb 6))]
def Rwp22_5 : Rg := ⟨3, 6, 1, Fwp22_1, Bwp22_2, [pl (ig 0) 0 0 0, pc (vb 6) 0 48 [ig 0] 1, pv (f1 noF (vb 6)) 1], [1]⟩
def Fwp22_6 := fs Fwp22_4 [(4, vi 7), (5, vi 8), (9, ps 0 0), (10, dg 0), (11, vi 7), (12, ps 0 3), (13, dg 3), (14, vi 8)]
def Rwp22_7 : Rg := ⟨8, 7, 1, Fwp22_4, Bwp22_2, [pv (ps 0 0) 0, pl (dg 0) 0 0 0, pc (vi 7) 0 49 [dg 0] 1, pv (ps 0 3) 0, pl (dg 3) 0 0 3, pc (vi 8) 1 49 [dg 3] 1, pv (vi 7) 2, pv (vi 8) 2], [2, 5]⟩
def Fwp22_8 := fs Fwp22_6 [(15, bo .gtr (vi 7) (li 0)), (16, vi 7), (17, bo .gtr (vi 7) (li 0))]
def Rwp22_9 : Rg := ⟨3, 9, 1, Fwp22_6, Bwp22_2, [pv (vi 7) 0, pv (bo .gtr (vi 7) (li 0)) 0, pv (bo .gtr (vi 7) (li 0)) 0], []⟩
def Fwp22_10 := fs Fwp22_8 [(2, li 1), (3, lb true)]
def Rwp22_11 : Rg := ⟨2, 9, 1, Fwp22_8, Bwp22_2, [pv (li 1) 0, pv (lb true) 0], []⟩
def Fwp22_12 := fs Fwp22_8 [(18, bo .lss (vi 8) (li 0)), (19, vi 8), (20, bo .lss (vi 8) (li 0))]
def Rwp22_13 : Rg := ⟨3, 9, 1, Fwp22_8, Bwp22_2, [pv (vi 8) 0, pv (bo .lss (vi 8) (li 0)) 0, pv (bo .lss (vi 8) (li 0)) 0], []⟩
def Fwp22_14 := fs Fwp22_12 [(2, li (-1)), (3, lb true)]
def Rwp22_15 : Rg := ⟨2, 9, 1, Fwp22_12, Bwp22_2, [pv (li (-1)) 0, pv (lb true) 0], []⟩
def Fwp22_16 := fs Fwp22_12 [(3, pk (bo .eql (vi 7) (li 0)) (bo .eql (vi 8) (li 0)) (lb false)), (21, vi 7), (22, bo .eql (vi 7) (li 0)), (23, bo .eql (vi 7) (li 0)), (24, gd true (bo .eql (vi 7) (li 0)) (vi 8)), (25, gd true (bo .eql (vi 7) (li 0)) (bo .eql (vi 8) (li 0))), (26, pk (bo .eql (vi 7) (li 0)) (bo .eql (vi 8) (li 0)) (lb false))]
def Rwp22_17 : Rg := ⟨8, 9, 1, Fwp22_12, Bwp22_2, [pv (vi 7) 0, pv (bo .eql (vi 7) (li 0)) 0, pv (bo .eql (vi 7) (li 0)) 0, ⟨vi 8, 0, [], .val, gd true (bo .eql (vi 7) (li 0)) (vi 8)⟩, ⟨bo .eql (vi 8) (li 0), 0, [], .val, gd true (bo .eql (vi 7) (li 0)) (bo .eql (vi 8) (li 0))⟩, ⟨pk (bo .eql (vi 7) (li 0)) (bo .eql (vi 8) (li 0)) (lb false), 0, [], .pk, pk (bo .eql (vi 7) (li 0)) (bo .eql (vi 8) (li 0)) (lb false)⟩, pv (li 0) 0, pv (pk (bo .eql (vi 7) (li 0)) (bo .eql (vi 8) (li 0)) (lb false)) 0], []⟩
def Fwp57_0 := [ig 0, vi 6, U, U, U, U, U, U, U, U, U, U, U, U, U, U, U, U, U, U, U, U, U, U, U, U, U, U, U, U, U, U, U, U, U, U, U, U, U, U, U, U, U, U, U, U, U, U, U, U, U, U, U]
def Fwp57_1 := fs Fwp57_0 [(2, ps 0 0), (4, lb false)]
def Bwp57_2 := [bb 28 (i6 0)]
def Rwp57_3 : Rg := ⟨2, 7, 0, Fwp57_0, Bwp57_2, [pa 0 0, pv (lb false) 0], []⟩
def Fwp57_4 := fs Fwp57_1 [(5, vi 7), (8, ps 0 0), (9, dg 0), (10, vi 7)]
def Rwp57_5 : Rg := ⟨4, 7, 1, Fwp57_1, Bwp57_2, [pv (ps 0 0) 0, pl (dg 0) 0 0 0, pc (vi 7) 0 49 [dg 0] 1, pv (vi 7) 1], [2]⟩
def Fwp57_6 := fs Fwp57_4 [(11, vi 7), (12, ps 0 3), (13, dg 3), (14, vi 8), (15, bo .neq (vi 7) (vi 8))]
def Rwp57_7 : Rg := ⟨5, 8, 1, Fwp57_4, Bwp57_2, [pv (vi 7) 0, pv (ps 0 3) 0, pl (dg 3) 0 0 3, pc (vi 8) 0 49 [dg 3] 1, pv (bo .neq (vi 7) (vi 8)) 1], [3]⟩
def Fwp57_8 := fs Fwp57_6 [(16, vi 7), (17, bo .eql (vi 7) (li 0))]
def Rwp57_9 : Rg := ⟨2, 9, 1, Fwp57_6, Bwp57_2, [pv (vi 7) 0, pv (bo .eql (vi 7) (li 0)) 0], []⟩
def Fwp57_10 := fs Fwp57_8 [(4, lb true)]
def Rwp57_11 : Rg := ⟨1, 9, 1, Fwp57_8, Bwp57_2, [pv (lb true) 0], []⟩
def Fwp57_12 := fs Fwp57_8 [(6, ps 1 0), (18, ps 0 0), (19, dg 0), (20, dg 9)]
def Bwp57_13 := [bb 28 (i6 0), bb 25 o3]
def Rwp57_14 : Rg := ⟨4, 9, 1, Fwp57_8, Bwp57_13, [pv (ps 0 0) 0, pl (dg 0) 0 0 0, pc (dg 9) 0 68 [dg 0] 3, pa 1 0], [2]⟩
def Bwp57_15 := [bb 28 (i6 0), bb 25 (d3 9)]
def Fwp57_16 := fs Fwp57_12 [(21, vi 7), (22, bo .lss (vi 7) (li 0))]
def Rwp57_17 : Rg := ⟨2, 12, 2, Fwp57_12, Bwp57_15, [pv (vi 7) 0, pv (bo .lss (vi 7) (li 0)) 0], []⟩
def Fwp57_18 := fs Fwp57_16 [(23, ps 0 3), (24, dg 3), (25, dg 12)]
def Rwp57_19 : Rg := ⟨3, 12, 2, Fwp57_16, Bwp57_15, [pv (ps 0 3) 0, pl (dg 3) 0 0 3, pc (dg 12) 0 68 [dg 3] 3], [2]⟩
def Bwp57_20 := [bb 28 (i6 0), bb 25 (d3 12)]
def Fwp57_21 := fs Fwp57_18 [(7, ps 2 0), (26, ps 0 3), (27, dg 3), (28, ps 0 0), (29, dg 0), (30, dg 15)]
def Bwp57_22 := [bb 28 (i6 0), bb 25 (d3 12), bb 25 o3]
def Rwp57_23 : Rg := ⟨6, 15, 2, Fwp57_18, Bwp57_22, [pv (ps 0 3) 0, pl (dg 3) 0 0 3, pv (ps 0 0) 0, pl (dg 0) 0 0 0, pc (dg 15) 0 95 [dg 3, dg 0] 3, pa 2 0], [4]⟩
def Bwp57_24 := [bb 28 (i6 0), bb 25 (d3 12), bb 25 (d3 15)]
def Fwp57_25 := fs Fwp57_21 [(31, dg 15), (32, vb 18)]
def Rwp57_26 : Rg := ⟨2, 18, 3, Fwp57_21, Bwp57_24, [pl (dg 15) 0 2 0, pc (vb 18) 0 79 [dg 15] 1], [1]⟩
def Fwp57_27 := fs Fwp57_25 [(4, lb true)]
def Rwp57_28 : Rg := ⟨1, 19, 3, Fwp57_25, Bwp57_24, [pv (lb true) 0], []⟩
def Fwp57_29 := fs Fwp57_25 [(4, pk (pk (bo .leq (vi 6) (li 1048576)) (bo .leq (bo .add (vi 19) (vi 6)) (bo .add (vi 20) (li 1))) (lb false)) (bo .leq (vi 24) (li 0)) (lb false)), (33, vi 6), (34, bo .leq (vi 6) (li 1048576)), (35, bo .leq (vi 6) (li 1048576)), (36, gd true (bo .leq (vi 6) (li 1048576)) (dg 15)), (37, gd true (bo .leq (vi 6) (li 1048576)) (vi 19)), (38, gd true (bo .leq (vi 6) (li 1048576)) (vi 6)), (39, gd true (bo .leq (vi 6) (li 1048576)) (bo .add (vi 19) (vi 6))), (40, gd true (bo .leq (vi 6) (li 1048576)) (dg 12)), (41, gd true (bo .leq (vi 6) (li 1048576)) (vi 20)), (42, gd true (bo .leq (vi 6) (li 1048576)) (bo .add (vi 20) (li 1))), (43, gd true (bo .leq (vi 6) (li 1048576)) (bo .leq (bo .add (vi 19) (vi 6)) (bo .add (vi 20) (li 1)))), (44, pk (bo .leq (vi 6) (li 1048576)) (bo .leq (bo .add (vi 19) (vi 6)) (bo .add (vi 20) (li 1))) (lb false)), (45, pk (bo .leq (vi 6) (li 1048576)) (bo .leq (bo .add (vi 19) (vi 6)) (bo .add (vi 20) (li 1))) (lb false)), (46, gd true (pk (bo .leq (vi 6) (li 1048576)) (bo .leq (bo .add (vi 19) (vi 6)) (bo .add (vi 20) (li 1))) (lb false)) (dg 15)), (47, gd true (pk (bo .leq (vi 6) (li 1048576)) (bo .leq (bo .add (vi 19) (vi 6)) (bo .add (vi 20) (li 1))) (lb false)) (vi 6)), (48, gd true (pk (bo .leq (vi 6) (li 1048576)) (bo .leq (bo .add (vi 19) (vi 6)) (bo .add (vi 20) (li 1))) (lb false)) (dg 21)), (49, gd true (pk (bo .leq (vi 6) (li 1048576)) (bo .leq (bo .add (vi 19) (vi 6)) (bo .add (vi 20) (li 1))) (lb false)) (dg 12)), (50, gd true (pk (bo .leq (vi 6) (li 1048576)) (bo .leq (bo .add (vi 19) (vi 6)) (bo .add (vi 20) (li 1))) (lb false)) (vi 24)), (51, gd true (pk (bo .leq (vi 6) (li 1048576)) (bo .leq (bo .add (vi 19) (vi 6)) (bo .add (vi 20) (li 1))) (lb false)) (bo .leq (vi 24) (li 0))), (52, pk (pk (bo .leq (vi 6) (li 1048576)) (bo .leq (bo .add (vi 19) (vi 6)) (bo .add (vi 20) (li 1))) (lb false)) (bo .leq (vi 24) (li 0)) (lb false))]
def Rwp57_30 : Rg := ⟨21, 19, 3, Fwp57_25, Bwp57_24, [pv (vi 6) 0, pv (bo .leq (vi 6) (li 1048576)) 0, pv (bo .leq (vi 6) (li 1048576)) 0, ⟨dg 15, 0, [], .ld 2 0, gd true (bo .leq (vi 6) (li 1048576)) (dg 15)⟩, ⟨vi 19, 0, [], .cl 0 80 [dg 15] 1 [], gd true (bo .leq (vi 6) (li 1048576)) (vi 19)⟩, ⟨vi 6, 0, [], .val, gd true (bo .leq (vi 6) (li 1048576)) (vi 6)⟩, ⟨bo .add (vi 19) (vi 6), 1, [], .val, gd true (bo .leq (vi 6) (li 1048576)) (bo .add (vi 19) (vi 6))⟩, ⟨dg 12, 0, [], .ld 1 0, gd true (bo .leq (vi 6) (li 1048576)) (dg 12)⟩, ⟨vi 20, 1, [], .cl 1 80 [dg 12] 1 [], gd true (bo .leq (vi 6) (li 1048576)) (vi 20)⟩, ⟨bo .add (vi 20) (li 1), 2, [], .val, gd true (bo .leq (vi 6) (li 1048576)) (bo .add (vi 20) (li 1))⟩, ⟨bo .leq (bo .add (vi 19) (vi 6)) (bo .add (vi 20) (li 1)), 2, [], .val, gd true (bo .leq (vi 6) (li 1048576)) (bo .leq (bo .add (vi 19) (vi 6)) (bo .add (vi 20) (li 1)))⟩, ⟨pk (bo .leq (vi 6) (li 1048576)) (bo .leq (bo .add (vi 19) (vi 6)) (bo .add (vi 20) (li 1))) (lb false), 2, [], .pk, pk (bo .leq (vi 6) (li 1048576)) (bo .leq (bo .add (vi 19) (vi 6)) (bo .add (vi 20) (li 1))) (lb false)⟩, pv (pk (bo .leq (vi 6) (li 1048576)) (bo .leq (bo .add (vi 19) (vi 6)) (bo .add (vi 20) (li 1))) (lb false)) 2, ⟨dg 15, 2, [], .ld 2 0, gd true (pk (bo .leq (vi 6) (li 1048576)) (bo .leq (bo .add (vi 19) (vi 6)) (bo .add (vi 20) (li 1))) (lb false)) (dg 15)⟩, ⟨vi 6, 2, [], .val, gd true (pk (bo .leq (vi 6) (li 1048576)) (bo .leq (bo .add (vi 19) (vi 6)) (bo .add (vi 20) (li 1))) (lb false)) (vi 6)⟩, ⟨dg 21, 2, [], .cl 2 96 [dg 15, vi 6] 3 [], gd true (pk (bo .leq (vi 6) (li 1048576)) (bo .leq (bo .add (vi 19) (vi 6)) (bo .add (vi 20) (li 1))) (lb false)) (dg 21)⟩, ⟨dg 12, 2, [], .ld 1 0, gd true (pk (bo .leq (vi 6) (li 1048576)) (bo .leq (bo .add (vi 19) (vi 6)) (bo .add (vi 20) (li 1))) (lb false)) (dg 12)⟩, ⟨vi 24, 3, [], .cl 3 67 [dg 21, dg 12] 1 [], gd true (pk (bo .leq (vi 6) (li 1048576)) (bo .leq (bo .add (vi 19) (vi 6)) (bo .add (vi 20) (li 1))) (lb false)) (vi 24)⟩, ⟨bo .leq (vi 24) (li 0), 4, [], .val, gd true (pk (bo .leq (vi 6) (li 1048576)) (bo .leq (bo .add (vi 19) (vi 6)) (bo .add (vi 20) (li 1))) (lb false)) (bo .leq (vi 24) (li 0))⟩, ⟨pk (pk (bo .leq (vi 6) (li 1048576)) (bo .leq (bo .add (vi 19) (vi 6)) (bo .add (vi 20) (li 1))) (lb false)) (bo .leq (vi 24) (li 0)) (lb false), 4, [], .pk, pk (pk (bo .leq (vi 6) (li 1048576)) (bo .leq (bo .add (vi 19) (vi 6)) (bo .add (vi 20) (li 1))) (lb false)) (bo .leq (vi 24) (li 0)) (lb false)⟩, pv (pk (pk (bo .leq (vi 6) (li 1048576)) (bo .leq (bo .add (vi 19) (vi 6)) (bo .add (vi 20) (li 1))) (lb false)) (bo .leq (vi 24) (li 0)) (lb false)) 4], [4, 8, 15, 17]⟩
def Fwp57_31 := fs Fwp57_16 [(7, ps 2 0), (26, ps 0 3), (27, dg 3), (28, ps 0 0), (29, dg 0), (30, dg 12)]
def Bwp57_32 := [bb 28 (i6 0), bb 25 (d3 9), bb 25 o3]
def Rwp57_33 : Rg := ⟨6, 12, 2, Fwp57_16, Bwp57_32, [pv (ps 0 3) 0, pl (dg 3) 0 0 3, pv (ps 0 0) 0, pl (dg 0) 0 0 0, pc (dg 12) 0 95 [dg 3, dg 0] 3, pa 2 0], [4]⟩
def Bwp57_34 := [bb 28 (i6 0), bb 25 (d3 9), bb 25 (d3 12)]
def Fwp57_35 := fs Fwp57_31 [(31, dg 12), (32, vb 15)]
def Rwp57_36 : Rg := ⟨2, 15, 3, Fwp57_31, Bwp57_34, [pl (dg 12) 0 2 0, pc (vb 15) 0 79 [dg 12] 1], [1]⟩
def Fwp57_37 := fs Fwp57_35 [(4, lb true)]
def Rwp57_38 : Rg := ⟨1, 16, 3, Fwp57_35, Bwp57_34, [pv (lb true) 0], []⟩
def Fwp57_39 := fs Fwp57_35 [(4, pk (pk (bo .leq (vi 6) (li 1048576)) (bo .leq (bo .add (vi 16) (vi 6)) (bo .add (vi 17) (li 1))) (lb false)) (bo .leq (vi 21) (li 0)) (lb false)), (33, vi 6), (34, bo .leq (vi 6) (li 1048576)), (35, bo .leq (vi 6) (li 1048576)), (36, gd true (bo .leq (vi 6) (li 1048576)) (dg 12)), (37, gd true (bo .leq (vi 6) (li 1048576)) (vi 16)), (38, gd true (bo .leq (vi 6) (li 1048576)) (vi 6)), (39, gd true (bo .leq (vi 6) (li 1048576)) (bo .add (vi 16) (vi 6))), (40, gd true (bo .leq (vi 6) (li 1048576)) (dg 9)), (41, gd true (bo .leq (vi 6) (li 1048576)) (vi 17)), (42, gd true (bo .leq (vi 6) (li 1048576)) (bo .add (vi 17) (li 1))), (43, gd true (bo .leq (vi 6) (li 1048576)) (bo .leq (bo .add (vi 16) (vi 6)) (bo .add (vi 17) (li 1)))), (44, pk (bo .leq (vi 6) (li 1048576)) (bo .leq (bo .add (vi 16) (vi 6)) (bo .add (vi 17) (li 1))) (lb false)), (45, pk (bo .leq (vi 6) (li 1048576)) (bo .leq (bo .add (vi 16) (vi 6)) (bo .add (vi 17) (li 1))) (lb false)), (46, gd true (pk (bo .leq (vi 6) (li 1048576)) (bo .leq (bo .add (vi 16) (vi 6)) (bo .add (vi 17) (li 1))) (lb false)) (dg 12)), (47, gd true (pk (bo .leq (vi 6) (li 1048576)) (bo .leq (bo .add (vi 16) (vi 6)) (bo .add (vi 17) (li 1))) (lb false)) (vi 6)), (48, gd true (pk (bo .leq (vi 6) (li 1048576)) (bo .leq (bo .add (vi 16) (vi 6)) (bo .add (vi 17) (li 1))) (lb false)) (dg 18)), (49, gd true (pk (bo .leq (vi 6) (li 1048576)) (bo .leq (bo .add (vi 16) (vi 6)) (bo .add (vi 17) (li 1))) (lb false)) (dg 9)), (50, gd true (pk (bo .leq (vi 6) (li 1048576)) (bo .leq (bo .add (vi 16) (vi 6)) (bo .add (vi 17) (li 1))) (lb false)) (vi 21)), (51, gd true (pk (bo .leq (vi 6) (li 1048576)) (bo .leq (bo .add (vi 16) (vi 6)) (bo .add (vi 17) (li 1))) (lb false)) (bo .leq (vi 21) (li 0))), (52, pk (pk (bo .leq (vi 6) (li 1048576)) (bo .leq (bo .add (vi 16) (vi 6)) (bo .add (vi 17) (li 1))) (lb false)) (bo .leq (vi 21) (li 0)) (lb false))]
def Rwp57_40 : Rg := ⟨21, 16, 3, Fwp57_35, Bwp57_34, [pv (vi 6) 0, pv (bo .leq (vi 6) (li 1048576)) 0, pv (bo .leq (vi 6) (li 1048576)) 0, ⟨dg 12, 0, [], .ld 2 0, gd true (bo .leq (vi 6) (li 1048576)) (dg 12)⟩, ⟨vi 16, 0, [], .cl 0 80 [dg 12] 1 [], gd true (bo .leq (vi 6) (li 1048576)) (vi 16)⟩, ⟨vi 6, 0, [], .val, gd true (bo .leq (vi 6) (li 1048576)) (vi 6)⟩, ⟨bo .add (vi 16) (vi 6), 1, [], .val, gd true (bo .leq (vi 6) (li 1048576)) (bo .add (vi 16) (vi 6))⟩, ⟨dg 9, 0, [], .ld 1 0, gd true (bo .leq (vi 6) (li 1048576)) (dg 9)⟩, ⟨vi 17, 1, [], .cl 1 80 [dg 9] 1 [], gd true (bo .leq (vi 6) (li 1048576)) (vi 17)⟩, ⟨bo .add (vi 17) (li 1), 2, [], .val, gd true (bo .leq (vi 6) (li 1048576)) (bo .add (vi 17) (li 1))⟩, ⟨bo .leq (bo .add (vi 16) (vi 6)) (bo .add (vi 17) (li 1)), 2, [], .val, gd true (bo .leq (vi 6) (li 1048576)) (bo .leq (bo .add (vi 16) (vi 6)) (bo .add (vi 17) (li 1)))⟩, ⟨pk (bo .leq (vi 6) (li 1048576)) (bo .leq (bo .add (vi 16) (vi 6)) (bo .add (vi 17) (li 1))) (lb false), 2, [], .pk, pk (bo .leq (vi 6) (li 1048576)) (bo .leq (bo .add (vi 16) (vi 6)) (bo .add (vi 17) (li 1))) (lb false)⟩, pv (pk (bo .leq (vi 6) (li 1048576)) (bo .leq (bo .add (vi 16) (vi 6)) (bo .add (vi 17) (li 1))) (lb false)) 2, ⟨dg 12, 2, [], .ld 2 0, gd true (pk (bo .leq (vi 6) (li 1048576)) (bo .leq (bo .add (vi 16) (vi 6)) (bo .add (vi 17) (li 1))) (lb false)) (dg 12)⟩, ⟨vi 6, 2, [], .val, gd true (pk (bo .leq (vi 6) (li 1048576)) (bo .leq (bo .add (vi 16) (vi 6)) (bo .add (vi 17) (li 1))) (lb false)) (vi 6)⟩, ⟨dg 18, 2, [], .cl 2 96 [dg 12, vi 6] 3 [], gd true (pk (bo .leq (vi 6) (li 1048576)) (bo .leq (bo .add (vi 16) (vi 6)) (bo .add (vi 17) (li 1))) (lb false)) (dg 18)⟩, ⟨dg 9, 2, [], .ld 1 0, gd true (pk (bo .leq (vi 6) (li 1048576)) (bo .leq (bo .add (vi 16) (vi 6)) (bo .add (vi 17) (li 1))) (lb false)) (dg 9)⟩, ⟨vi 21, 3, [], .cl 3 67 [dg 18, dg 9] 1 [], gd true (pk (bo .leq (vi 6) (li 1048576)) (bo .leq (bo .add (vi 16) (vi 6)) (bo .add (vi 17) (li 1))) (lb false)) (vi 21)⟩, ⟨bo .leq (vi 21) (li 0), 4, [], .val, gd true (pk (bo .leq (vi 6) (li 1048576)) (bo .leq (bo .add (vi 16) (vi 6)) (bo .add (vi 17) (li 1))) (lb false)) (bo .leq (vi 21) (li 0))⟩, ⟨pk (pk (bo .leq (vi 6) (li 1048576)) (bo .leq (bo .add (vi 16) (vi 6)) (bo .add (vi 17) (li 1))) (lb false)) (bo .leq (vi 21) (li 0)) (lb false), 4, [], .pk, pk (pk (bo .leq (vi 6) (li 1048576)) (bo .leq (bo .add (vi 16) (vi 6)) (bo .add (vi 17) (li 1))) (lb false)) (bo .leq (vi 21) (li 0)) (lb false)⟩, pv (pk (pk (bo .leq (vi 6) (li 1048576)) (bo .leq (bo .add (vi 16) (vi 6)) (bo .add (vi 17) (li 1))) (lb false)) (bo .leq (vi 21) (li 0)) (lb false)) 4], [4, 8, 15, 17]⟩
def Fwp28_0 := [ig 0, vi 6, U, U, U, U, U, U, U, U, U, U, U, U, U, U]
def Fwp28_1 := fs Fwp28_0 [(2, ps 0 0), (4, lb false)]
def Bwp28_2 := [bb 28 (i6 0)]
def Rwp28_3 : Rg := ⟨2, 7, 0, Fwp28_0, Bwp28_2, [pa 0 0, pv (lb false) 0], []⟩
def Fwp28_4 := fs Fwp28_1 [(4, pk (pk (bo .geq (vi 6) (li 0)) (vb 7) (lb false)) (vb 8) (lb false)), (5, vi 6), (6, bo .geq (vi 6) (li 0)), (7, bo .geq (vi 6) (li 0)), (8, gd true (bo .geq (vi 6) (li 0)) (ig 0)), (9, gd true (bo .geq (vi 6) (li 0)) (vb 7)), (10, pk (bo .geq (vi 6) (li 0)) (vb 7) (lb false)), (11, pk (bo .geq (vi 6) (li 0)) (vb 7) (lb false)), (12, gd true (pk (bo .geq (vi 6) (li 0)) (vb 7) (lb false)) (ig 0)), (13, gd true (pk (bo .geq (vi 6) (li 0)) (vb 7) (lb false)) (vi 6)), (14, gd true (pk (bo .geq (vi 6) (li 0)) (vb 7) (lb false)) (vb 8)), (15, pk (pk (bo .geq (vi 6) (li 0)) (vb 7) (lb false)) (vb 8) (lb false))]
def Rwp28_5 : Rg := ⟨12, 7, 1, Fwp28_1, Bwp28_2, [pv (vi 6) 0, pv (bo .geq (vi 6) (li 0)) 0, pv (bo .geq (vi 6) (li 0)) 0, ⟨ig 0, 0, [], .ld 0 0, gd true (bo .geq (vi 6) (li 0)) (ig 0)⟩, ⟨vb 7, 0, [], .cl 0 48 [ig 0] 1 [], gd true (bo .geq (vi 6) (li 0)) (vb 7)⟩, ⟨pk (bo .geq (vi 6) (li 0)) (vb 7) (lb false), 1, [], .pk, pk (bo .geq (vi 6) (li 0)) (vb 7) (lb false)⟩, pv (pk (bo .geq (vi 6) (li 0)) (vb 7) (lb false)) 1, ⟨ig 0, 1, [], .ld 0 0, gd true (pk (bo .geq (vi 6) (li 0)) (vb 7) (lb false)) (ig 0)⟩, ⟨vi 6, 1, [], .val, gd true (pk (bo .geq (vi 6) (li 0)) (vb 7) (lb false)) (vi 6)⟩, ⟨vb 8, 1, [], .cl 1 57 [ig 0, vi 6] 1 [], gd true (pk (bo .geq (vi 6) (li 0)) (vb 7) (lb false)) (vb 8)⟩, ⟨pk (pk (bo .geq (vi 6) (li 0)) (vb 7) (lb false)) (vb 8) (lb false), 2, [], .pk, pk (pk (bo .geq (vi 6) (li 0)) (vb 7) (lb false)) (vb 8) (lb false)⟩, pv (pk (pk (bo .geq (vi 6) (li 0)) (vb 7) (lb false)) (vb 8) (lb false)) 2], [4, 9]⟩
def Fwf1_19_0 : List Sy := [osl (ps 0 0) 1, U, U, U, U, U, U, U, U, U, U, U, U, U, U, U]
def Fwf1_19_1 := fs Fwf1_19_0 [(2, lb false)]
def Bwf1_19_2 := [rb 28 (i6 0)]
def Rwf1_19_3 : Rg := ⟨1, 6, 1, Fwf1_19_0, Bwf1_19_2, [pv (lb false) 0], []⟩
def Fwf1_19_4 := fs Fwf1_19_1 [(3, li 0)]
def Rwf1_19_5 : Rg := ⟨1, 6, 1, Fwf1_19_1, Bwf1_19_2, [pv (li 0) 0], []⟩
def Lwf1_19_6 (jj1 : List Value) : List Sy := [osl (ps 0 0) 1, U, jw jj1 0, li 0, jw jj1 1, jw jj1 2, jw jj1 3, jw jj1 4, jw jj1 5, jw jj1 6, jw jj1 7, jw jj1 8, jw jj1 9, jw jj1 10, jw jj1 11, jw jj1 12]
def Lwf1_19_7 (jj1 : List Value) := fs (Lwf1_19_6 jj1) [(3, li 1)]
def Jwf1_19_8 : List Nat := [2, 4, 5, 6, 7, 8, 9, 10, 11, 12, 13, 14, 15]
def Fwf1_19_9 (jj1 : List Value) := fs (Lwf1_19_6 jj1) [(4, li 0), (5, osl (ps 0 0) 1), (6, li 1), (7, lb true)]
def Rwf1_19_10 (jj1 : List Value) : Rg := ⟨4, 6, 1, (Lwf1_19_6 jj1), Bwf1_19_2, [pv (li 0) 0, pv (osl (ps 0 0) 1) 0, pv (li 1) 0, pv (lb true) 0], []⟩
def Fwf1_19_11 (jj1 : List Value) := fs (Fwf1_19_9 jj1) [(10, osl (ps 0 0) 1), (11, li 0), (12, ps 0 0), (13, ig 0), (14, vb 6), (15, f1 noF (vb 6))]
def Rwf1_19_12 (jj1 : List Value) : Rg := ⟨6, 6, 1, (Fwf1_19_9 jj1), Bwf1_19_2, [pv (osl (ps 0 0) 1) 0, pv (li 0) 0, pv (ps 0 0) 0, pl (ig 0) 0 0 0, pc (vb 6) 0 45 [ig 0] 1, pv (f1 noF (vb 6)) 1], [4]⟩
def Fwf1_19_13 (jj1 : List Value) := fs (Fwf1_19_11 jj1) [(3, li 1), (8, li 0), (9, li 1)]
def Rwf1_19_14 (jj1 : List Value) : Rg := ⟨2, 7, 1, (Fwf1_19_11 jj1), Bwf1_19_2, [pv (li 0) 0, pv (li 1) 0], []⟩
def Fwf1_19_15 (jj1 : List Value) := fs (Lwf1_19_7 jj1) [(4, li 1), (5, osl (ps 0 0) 1), (6, li 1), (7, lb false)]
def Rwf1_19_16 (jj1 : List Value) : Rg := ⟨4, 6, 1, (Lwf1_19_7 jj1), Bwf1_19_2, [pv (li 1) 0, pv (osl (ps 0 0) 1) 0, pv (li 1) 0, pv (lb false) 0], []⟩
def Fwf1_19_17 (jj1 : List Value) := fs (Fwf1_19_15 jj1) [(2, lb true)]
def Rwf1_19_18 (jj1 : List Value) : Rg := ⟨1, 6, 1, (Fwf1_19_15 jj1), Bwf1_19_2, [pv (lb true) 0], []⟩
theorem fine_1 {bp0 dp0 : Bool} {Ap0 Bp0 : Option Addr} {np0 cp0 mp0 ep0 : Nat} {xp0 yp0 : Int} {ql0 qu0 : Rat} {N g0 : Nat} {w : World} (hrow : w.heap[g0]? = some (.cells #[.bool bp0, .slice Ap0 np0 cp0, .int .i64 xp0, .bool dp0, .slice Bp0 mp0 ep0, .int .i64 yp0] 28 (0, 0))) (h0 : CI w (.agg #[.bool bp0, .slice Ap0 np0 cp0, .int .i64 xp0, .bool dp0, .slice Bp0 mp0 ep0, .int .i64 yp0]) ql0 qu0 N) (f0 : FitQ ql0 ∧ FitQ qu0 ∧ ql0 ≤ qu0) (hN : N ≤ 16777215) (hT : TB w) :
 Calls Tryz.prog 19 #[.slice (some ⟨g0, 0, none⟩) 1 1] w fun en' w' => en' = .returned (.bool true) ∧ BL w w' := by
 refine fn_enter2 (u := 64) (fn := Tryz.f19) Tryz.func19 rfl Fwf1_19_0 [rb 28 (i6 0)] [.bool bp0, .slice Ap0 np0 cp0, .int .i64 xp0, .bool dp0, .slice Bp0 mp0 ep0, .int .i64 yp0] (fun _ => g0) (by kernel_rfl) rfl rfl (by
  intro b x hx
  match b, hx with
  | 0, hx => injection hx with hx; subst hx; exact hrow
  | b + 1, hx => simp at hx) (fun a0 S0 r0 => ?_)
 refine wp_seq (rk Rwf1_19_3 [] Fwf1_19_1 Bwf1_19_2 S0 r0 ?_)
 intro _ _ _ r1 S1
 refine wp_seq ?_
 refine wp_seq (rk Rwf1_19_5 [] Fwf1_19_4 Bwf1_19_2 S1 r1 ?_)
 intro _ _ _ r2 S2
 refine wp_block ?_
 refine wp_loop_n (fun n a W => match n with | 1 => ∃ (jj1 : List Value) (g : Nat → Nat), BL w W ∧ St w (Lwf1_19_6 jj1) Bwf1_19_2 [.bool bp0, .slice Ap0 np0 cp0, .int .i64 xp0, .bool dp0, .slice Bp0 mp0 ep0, .int .i64 yp0] g a W | 0 => ∃ (jj1 : List Value) (g : Nat → Nat), BL w W ∧ St w (Lwf1_19_7 jj1) Bwf1_19_2 [.bool bp0, .slice Ap0 np0 cp0, .int .i64 xp0, .bool dp0, .slice Bp0 mp0 ep0, .int .i64 yp0] g a W | _ => False) (n := 1) ⟨jv S2 Jwf1_19_8, _, r2.first, St.to S2 [0] (by kernel_rfl) (by kernel_rfl) (by decide) rfl⟩ ?_
 intro n a W hI
 match n, hI with
 | 1, hI =>
   obtain ⟨jj1, g3, b3, S3⟩ := hI
   have r3 : Reach 64 w [W] W := .of_below b3
   refine wp_seq ?_
   refine wp_seq (rk (Rwf1_19_10 jj1) [] (Fwf1_19_9 jj1) Bwf1_19_2 S3 r3 ?_)
   intro a4 g4 W4 r4 S4
   refine wp_cond_true (S4.cnd (by kernel_rfl)) ?_
   refine wp_skip ?_
   refine wp_seq ?_
   refine wp_block ?_
   refine wp_seq (rk (Rwf1_19_12 jj1) [] (Fwf1_19_11 jj1) Bwf1_19_2 S4 r4 ?_)
   intro W5 g5 r5 _
   refine (dright_i (h0.below r5.first) hN (tb hT r5)).mono ?_
   rintro _ V1 ⟨r, rfl, hr, k1⟩
   obtain rfl : r = true := hr.2 f0
   refine ⟨[.bool true], rfl, rfl, rfl, k1, ?_⟩
   intro _ _ _ r6 S6
   refine wp_cond_split (t := !true) (S6.cnd (by kernel_rfl)) (fun q1 => ?_) (fun q1 => ?_)
   · cases q1
   · refine wp_skip ?_
     refine rk (Rwf1_19_14 jj1) [.mv (li 1)] (Fwf1_19_13 jj1) Bwf1_19_2 S6 r6 ?_
     intro _ _ _ r7 S7
     exact ⟨0, by omega, jv S7 Jwf1_19_8, _, r7.first, St.to S7 [0] (by kernel_rfl) (by kernel_rfl) (by decide) rfl⟩
 | 0, hI =>
   obtain ⟨jj1, g3, b3, S3⟩ := hI
   have r3 : Reach 64 w [W] W := .of_below b3
   refine wp_seq ?_
   refine wp_seq (rk (Rwf1_19_16 jj1) [] (Fwf1_19_15 jj1) Bwf1_19_2 S3 r3 ?_)
   intro a4 g4 W4 r4 S4
   refine wp_cond_false (S4.cnd (by kernel_rfl)) ?_
   refine wp_exit (then_exit (then_exit (exit_in ?_)))
   refine wp_seq (rk (Rwf1_19_18 jj1) [] (Fwf1_19_17 jj1) Bwf1_19_2 S4 r4 ?_)
   intro _ g5 W5 r5 S5
   exact rt S5 [.bool true] (⟨rfl, r5.first⟩)
def Fwf2_19_0 : List Sy := [osl (ps 0 0) 2, U, U, U, U, U, U, U, U, U, U, U, U, U, U, U]
def Fwf2_19_1 := fs Fwf2_19_0 [(2, lb false)]
def Bwf2_19_2 := [rb 28 [vb 0, vs 1, vi 2, vb 3, vs 4, vi 5, vb 6, vs 7, vi 8, vb 9, vs 10, vi 11]]
def Rwf2_19_3 : Rg := ⟨1, 12, 1, Fwf2_19_0, Bwf2_19_2, [pv (lb false) 0], []⟩
def Fwf2_19_4 := fs Fwf2_19_1 [(3, li 0)]
def Rwf2_19_5 : Rg := ⟨1, 12, 1, Fwf2_19_1, Bwf2_19_2, [pv (li 0) 0], []⟩
def Lwf2_19_6 (jj1 : List Value) : List Sy := [osl (ps 0 0) 2, U, jw jj1 0, li 0, jw jj1 1, jw jj1 2, jw jj1 3, jw jj1 4, jw jj1 5, jw jj1 6, jw jj1 7, jw jj1 8, jw jj1 9, jw jj1 10, jw jj1 11, jw jj1 12]
def Lwf2_19_7 (jj1 : List Value) := fs (Lwf2_19_6 jj1) [(3, li 1)]
def Lwf2_19_8 (jj1 : List Value) := fs (Lwf2_19_6 jj1) [(3, li 2)]
def Jwf2_19_9 : List Nat := [2, 4, 5, 6, 7, 8, 9, 10, 11, 12, 13, 14, 15]
def Fwf2_19_10 (jj1 : List Value) := fs (Lwf2_19_6 jj1) [(4, li 0), (5, osl (ps 0 0) 2), (6, li 2), (7, lb true)]
def Rwf2_19_11 (jj1 : List Value) : Rg := ⟨4, 12, 1, (Lwf2_19_6 jj1), Bwf2_19_2, [pv (li 0) 0, pv (osl (ps 0 0) 2) 0, pv (li 2) 0, pv (lb true) 0], []⟩
def Fwf2_19_12 (jj1 : List Value) := fs (Fwf2_19_10 jj1) [(10, osl (ps 0 0) 2), (11, li 0), (12, ps 0 0), (13, ig 0), (14, vb 12), (15, f1 noF (vb 12))]
def Rwf2_19_13 (jj1 : List Value) : Rg := ⟨6, 12, 1, (Fwf2_19_10 jj1), Bwf2_19_2, [pv (osl (ps 0 0) 2) 0, pv (li 0) 0, pv (ps 0 0) 0, pl (ig 0) 0 0 0, pc (vb 12) 0 45 [ig 0] 1, pv (f1 noF (vb 12)) 1], [4]⟩
def Fwf2_19_14 (jj1 : List Value) := fs (Fwf2_19_12 jj1) [(3, li 1), (8, li 0), (9, li 1)]
def Rwf2_19_15 (jj1 : List Value) : Rg := ⟨2, 13, 1, (Fwf2_19_12 jj1), Bwf2_19_2, [pv (li 0) 0, pv (li 1) 0], []⟩
def Fwf2_19_16 (jj1 : List Value) := fs (Lwf2_19_7 jj1) [(4, li 1), (5, osl (ps 0 0) 2), (6, li 2), (7, lb true)]
def Rwf2_19_17 (jj1 : List Value) : Rg := ⟨4, 12, 1, (Lwf2_19_7 jj1), Bwf2_19_2, [pv (li 1) 0, pv (osl (ps 0 0) 2) 0, pv (li 2) 0, pv (lb true) 0], []⟩
def Fwf2_19_18 (jj1 : List Value) := fs (Fwf2_19_16 jj1) [(10, osl (ps 0 0) 2), (11, li 1), (12, ps 0 6), (13, ig 6), (14, vb 12), (15, f1 noF (vb 12))]
def Rwf2_19_19 (jj1 : List Value) : Rg := ⟨6, 12, 1, (Fwf2_19_16 jj1), Bwf2_19_2, [pv (osl (ps 0 0) 2) 0, pv (li 1) 0, pv (ps 0 6) 0, pl (ig 6) 0 0 6, pc (vb 12) 0 45 [ig 6] 1, pv (f1 noF (vb 12)) 1], [4]⟩
def Fwf2_19_20 (jj1 : List Value) := fs (Fwf2_19_18 jj1) [(3, li 2), (8, li 1), (9, li 2)]
def Rwf2_19_21 (jj1 : List Value) : Rg := ⟨2, 13, 1, (Fwf2_19_18 jj1), Bwf2_19_2, [pv (li 1) 0, pv (li 2) 0], []⟩
def Fwf2_19_22 (jj1 : List Value) := fs (Lwf2_19_8 jj1) [(4, li 2), (5, osl (ps 0 0) 2), (6, li 2), (7, lb false)]
def Rwf2_19_23 (jj1 : List Value) : Rg := ⟨4, 12, 1, (Lwf2_19_8 jj1), Bwf2_19_2, [pv (li 2) 0, pv (osl (ps 0 0) 2) 0, pv (li 2) 0, pv (lb false) 0], []⟩
def Fwf2_19_24 (jj1 : List Value) := fs (Fwf2_19_22 jj1) [(2, lb true)]
def Rwf2_19_25 (jj1 : List Value) : Rg := ⟨1, 12, 1, (Fwf2_19_22 jj1), Bwf2_19_2, [pv (lb true) 0], []⟩
theorem fine_2 {bp0 dp0 bp1 dp1 : Bool} {Ap0 Bp0 Ap1 Bp1 : Option Addr} {np0 cp0 mp0 ep0 np1 cp1 mp1 ep1 : Nat} {xp0 yp0 xp1 yp1 : Int} {ql0 qu0 ql1 qu1 : Rat} {N g0 : Nat} {w : World} (hrow : w.heap[g0]? = some (.cells #[.bool bp0, .slice Ap0 np0 cp0, .int .i64 xp0, .bool dp0, .slice Bp0 mp0 ep0, .int .i64 yp0, .bool bp1, .slice Ap1 np1 cp1, .int .i64 xp1, .bool dp1, .slice Bp1 mp1 ep1, .int .i64 yp1] 28 (0, 0))) (h0 : CI w (.agg #[.bool bp0, .slice Ap0 np0 cp0, .int .i64 xp0, .bool dp0, .slice Bp0 mp0 ep0, .int .i64 yp0]) ql0 qu0 N) (f0 : FitQ ql0 ∧ FitQ qu0 ∧ ql0 ≤ qu0) (h1 : CI w (.agg #[.bool bp1, .slice Ap1 np1 cp1, .int .i64 xp1, .bool dp1, .slice Bp1 mp1 ep1, .int .i64 yp1]) ql1 qu1 N) (f1 : FitQ ql1 ∧ FitQ qu1 ∧ ql1 ≤ qu1) (hN : N ≤ 16777215) (hT : TB w) :
 Calls Tryz.prog 19 #[.slice (some ⟨g0, 0, none⟩) 2 2] w fun en' w' => en' = .returned (.bool true) ∧ BL w w' := by
 refine fn_enter2 (u := 64) (fn := Tryz.f19) Tryz.func19 rfl Fwf2_19_0 [rb 28 [vb 0, vs 1, vi 2, vb 3, vs 4, vi 5, vb 6, vs 7, vi 8, vb 9, vs 10, vi 11]] [.bool bp0, .slice Ap0 np0 cp0, .int .i64 xp0, .bool dp0, .slice Bp0 mp0 ep0, .int .i64 yp0, .bool bp1, .slice Ap1 np1 cp1, .int .i64 xp1, .bool dp1, .slice Bp1 mp1 ep1, .int .i64 yp1] (fun _ => g0) (by kernel_rfl) rfl rfl (by
  intro b x hx
  match b, hx with
  | 0, hx => injection hx with hx; subst hx; exact hrow
  | b + 1, hx => simp at hx) (fun a0 S0 r0 => ?_)
 refine wp_seq (rk Rwf2_19_3 [] Fwf2_19_1 Bwf2_19_2 S0 r0 ?_)
 intro _ _ _ r1 S1
 refine wp_seq ?_
 refine wp_seq (rk Rwf2_19_5 [] Fwf2_19_4 Bwf2_19_2 S1 r1 ?_)
 intro _ _ _ r2 S2
 refine wp_block ?_
 refine wp_loop_n (fun n a W => match n with | 2 => ∃ (jj1 : List Value) (g : Nat → Nat), BL w W ∧ St w (Lwf2_19_6 jj1) Bwf2_19_2 [.bool bp0, .slice Ap0 np0 cp0, .int .i64 xp0, .bool dp0, .slice Bp0 mp0 ep0, .int .i64 yp0, .bool bp1, .slice Ap1 np1 cp1, .int .i64 xp1, .bool dp1, .slice Bp1 mp1 ep1, .int .i64 yp1] g a W | 1 => ∃ (jj1 : List Value) (g : Nat → Nat), BL w W ∧ St w (Lwf2_19_7 jj1) Bwf2_19_2 [.bool bp0, .slice Ap0 np0 cp0, .int .i64 xp0, .bool dp0, .slice Bp0 mp0 ep0, .int .i64 yp0, .bool bp1, .slice Ap1 np1 cp1, .int .i64 xp1, .bool dp1, .slice Bp1 mp1 ep1, .int .i64 yp1] g a W | 0 => ∃ (jj1 : List Value) (g : Nat → Nat), BL w W ∧ St w (Lwf2_19_8 jj1) Bwf2_19_2 [.bool bp0, .slice Ap0 np0 cp0, .int .i64 xp0, .bool dp0, .slice Bp0 mp0 ep0, .int .i64 yp0, .bool bp1, .slice Ap1 np1 cp1, .int .i64 xp1, .bool dp1, .slice Bp1 mp1 ep1, .int .i64 yp1] g a W | _ => False) (n := 2) ⟨jv S2 Jwf2_19_9, _, r2.first, St.to S2 [0] (by kernel_rfl) (by kernel_rfl) (by decide) rfl⟩ ?_
 intro n a W hI
 match n, hI with
 | 2, hI =>
   obtain ⟨jj1, g3, b3, S3⟩ := hI
   have r3 : Reach 64 w [W] W := .of_below b3
   refine wp_seq ?_
   refine wp_seq (rk (Rwf2_19_11 jj1) [] (Fwf2_19_10 jj1) Bwf2_19_2 S3 r3 ?_)
   intro a4 g4 W4 r4 S4
   refine wp_cond_true (S4.cnd (by kernel_rfl)) ?_
   refine wp_skip ?_
   refine wp_seq ?_
   refine wp_block ?_
   refine wp_seq (rk (Rwf2_19_13 jj1) [] (Fwf2_19_12 jj1) Bwf2_19_2 S4 r4 ?_)
   intro W5 g5 r5 _
   refine (dright_i (h0.below r5.first) hN (tb hT r5)).mono ?_
   rintro _ V1 ⟨r, rfl, hr, k1⟩
   obtain rfl : r = true := hr.2 f0
   refine ⟨[.bool true], rfl, rfl, rfl, k1, ?_⟩
   intro a6 g6 W6 r6 S6
   refine wp_cond_split (t := !true) (S6.cnd (by kernel_rfl)) (fun q1 => ?_) (fun q1 => ?_)
   · cases q1
   · refine wp_skip ?_
     refine rk (Rwf2_19_15 jj1) [.mv (li 1)] (Fwf2_19_14 jj1) Bwf2_19_2 S6 r6 ?_
     intro a7 g7 W7 r7 S7
     exact ⟨1, by omega, jv S7 Jwf2_19_9, _, r7.first, St.to S7 [0] (by kernel_rfl) (by kernel_rfl) (by decide) rfl⟩
 | 1, hI =>
   obtain ⟨jj1, g3, b3, S3⟩ := hI
   have r3 : Reach 64 w [W] W := .of_below b3
   refine wp_seq ?_
   refine wp_seq (rk (Rwf2_19_17 jj1) [] (Fwf2_19_16 jj1) Bwf2_19_2 S3 r3 ?_)
   intro a4 g4 W4 r4 S4
   refine wp_cond_true (S4.cnd (by kernel_rfl)) ?_
   refine wp_skip ?_
   refine wp_seq ?_
   refine wp_block ?_
   refine wp_seq (rk (Rwf2_19_19 jj1) [] (Fwf2_19_18 jj1) Bwf2_19_2 S4 r4 ?_)
   intro W5 g5 r5 _
   refine (dright_i (h1.below r5.first) hN (tb hT r5)).mono ?_
   rintro _ V2 ⟨r, rfl, hr, k2⟩
   obtain rfl : r = true := hr.2 f1
   refine ⟨[.bool true], rfl, rfl, rfl, k2, ?_⟩
   intro a6 g6 W6 r6 S6
   refine wp_cond_split (t := !true) (S6.cnd (by kernel_rfl)) (fun q1 => ?_) (fun q1 => ?_)
   · cases q1
   · refine wp_skip ?_
     refine rk (Rwf2_19_21 jj1) [.mv (li 2)] (Fwf2_19_20 jj1) Bwf2_19_2 S6 r6 ?_
     intro a7 g7 W7 r7 S7
     exact ⟨0, by omega, jv S7 Jwf2_19_9, _, r7.first, St.to S7 [0] (by kernel_rfl) (by kernel_rfl) (by decide) rfl⟩
 | 0, hI =>
   obtain ⟨jj1, g3, b3, S3⟩ := hI
   have r3 : Reach 64 w [W] W := .of_below b3
   refine wp_seq ?_
   refine wp_seq (rk (Rwf2_19_23 jj1) [] (Fwf2_19_22 jj1) Bwf2_19_2 S3 r3 ?_)
   intro a4 g4 W4 r4 S4
   refine wp_cond_false (S4.cnd (by kernel_rfl)) ?_
   refine wp_exit (then_exit (then_exit (exit_in ?_)))
   refine wp_seq (rk (Rwf2_19_25 jj1) [] (Fwf2_19_24 jj1) Bwf2_19_2 S4 r4 ?_)
   intro _ g5 W5 r5 S5
   exact rt S5 [.bool true] (⟨rfl, r5.first⟩)
theorem neq_or4 {a b c d : Int} (h : (if (if (if (a != 0) = true then true else b != 0) = true then true else c != 0) = true then true else d != 0) = false) : a = 0 ∧ b = 0 ∧ c = 0 ∧ d = 0 := by
 by_cases h1 : a = 0
 · by_cases h2 : b = 0
   · by_cases h3 : c = 0
     · subst h1 h2 h3; exact ⟨rfl, rfl, rfl, by simpa using h⟩
     · subst h1 h2; simp [h3] at h
   · subst h1; simp [h2] at h
 · simp [h1] at h
def Fwr6_0 := [dg 0, vi 3, vi 4, U, U, U, U, U, U, U, U, U, U, U, U, U, U, U, U, U, U, U, U, U, U, U, U, U, U, U, U, U, U, U, U, U, U, U, U, U, U, U, U, U, U, U, U, U, U, U, U, U, U, U, U, U, U, U, U, U, U, U, U, U, U, U, U, U, U, U, U, U, U, U, U, U, U, U, U, U, U, U, U, U, U, U, U, U, U, U, U, U, U, U, U, U, U, U, U, U, U, U, U, U, U, U, U, U]
def Fwr6_1 := fs Fwr6_0 [(3, ps 0 0), (6, lb false)]
def Bwr6_2 := [bb 25 (d3 0)]
def Rwr6_3 : Rg := ⟨2, 5, 0, Fwr6_0, Bwr6_2, [pa 0 0, pv (lb false) 0], []⟩
def Fwr6_4 := fs Fwr6_1 [(15, vb 5), (16, f1 noF (vb 5))]
def Rwr6_5 : Rg := ⟨2, 5, 1, Fwr6_1, Bwr6_2, [pc (vb 5) 0 13 [] 1, pv (f1 noF (vb 5)) 1], [0]⟩
def Fwr6_6 := fs Fwr6_4 [(17, vi 3), (18, vb 6), (19, f1 noF (vb 6)), (20, f1 noF (vb 6)), (21, gd false (f1 noF (vb 6)) (vi 4)), (22, gd false (f1 noF (vb 6)) (vb 7)), (23, gd false (f1 noF (vb 6)) (f1 noF (vb 7))), (24, pk (f1 noF (vb 6)) (lb true) (f1 noF (vb 7))), (25, pk (f1 noF (vb 6)) (lb true) (f1 noF (vb 7))), (26, gd false (pk (f1 noF (vb 6)) (lb true) (f1 noF (vb 7))) (dg 0)), (27, gd false (pk (f1 noF (vb 6)) (lb true) (f1 noF (vb 7))) (vb 8)), (28, gd false (pk (f1 noF (vb 6)) (lb true) (f1 noF (vb 7))) (f1 noF (vb 8))), (29, pk (pk (f1 noF (vb 6)) (lb true) (f1 noF (vb 7))) (lb true) (f1 noF (vb 8)))]
def Rwr6_7 : Rg := ⟨13, 6, 1, Fwr6_4, Bwr6_2, [pv (vi 3) 0, pc (vb 6) 0 16 [vi 3] 1, pv (f1 noF (vb 6)) 1, pv (f1 noF (vb 6)) 1, ⟨vi 4, 1, [], .val, gd false (f1 noF (vb 6)) (vi 4)⟩, ⟨vb 7, 1, [], .cl 1 16 [vi 4] 1 [], gd false (f1 noF (vb 6)) (vb 7)⟩, ⟨f1 noF (vb 7), 2, [], .val, gd false (f1 noF (vb 6)) (f1 noF (vb 7))⟩, ⟨pk (f1 noF (vb 6)) (lb true) (f1 noF (vb 7)), 2, [], .pk, pk (f1 noF (vb 6)) (lb true) (f1 noF (vb 7))⟩, pv (pk (f1 noF (vb 6)) (lb true) (f1 noF (vb 7))) 2, ⟨dg 0, 2, [], .ld 0 0, gd false (pk (f1 noF (vb 6)) (lb true) (f1 noF (vb 7))) (dg 0)⟩, ⟨vb 8, 2, [], .cl 2 17 [dg 0] 1 [], gd false (pk (f1 noF (vb 6)) (lb true) (f1 noF (vb 7))) (vb 8)⟩, ⟨f1 noF (vb 8), 3, [], .val, gd false (pk (f1 noF (vb 6)) (lb true) (f1 noF (vb 7))) (f1 noF (vb 8))⟩, ⟨pk (pk (f1 noF (vb 6)) (lb true) (f1 noF (vb 7))) (lb true) (f1 noF (vb 8)), 3, [], .pk, pk (pk (f1 noF (vb 6)) (lb true) (f1 noF (vb 7))) (lb true) (f1 noF (vb 8))⟩], [1, 5, 10]⟩
def Fwr6_8 := fs Fwr6_6 [(6, lb true)]
def Rwr6_9 : Rg := ⟨1, 9, 1, Fwr6_6, Bwr6_2, [pv (lb true) 0], []⟩
def Fwr6_10 := fs Fwr6_6 [(7, ps 1 0), (8, vi 15), (30, tu [ig 9, vi 15]), (31, dg 0), (32, vi 3), (33, tu [ig 9, vi 15]), (34, ig 9), (35, vi 15)]
def Bwr6_11 := [bb 25 (d3 0), bb 28 o6]
def Rwr6_12 : Rg := ⟨7, 9, 1, Fwr6_6, Bwr6_11, [pl (dg 0) 0 0 0, pv (vi 3) 0, pc (tu [ig 9, vi 15]) 0 9 [dg 0, vi 3] 7, pv (tu [ig 9, vi 15]) 1, pv (ig 9) 1, pv (vi 15) 1, pa 1 0], [2]⟩
def Bwr6_13 := [bb 25 (d3 0), bb 28 (i6 9)]
def Fwr6_14 := fs Fwr6_10 [(9, ps 2 0), (10, vi 22), (36, tu [ig 16, vi 22]), (37, dg 0), (38, vi 4), (39, tu [ig 16, vi 22]), (40, ig 16), (41, vi 22)]
def Bwr6_15 := [bb 25 (d3 0), bb 28 (i6 9), bb 28 o6]
def Rwr6_16 : Rg := ⟨7, 16, 2, Fwr6_10, Bwr6_15, [pl (dg 0) 0 0 0, pv (vi 4) 0, pc (tu [ig 16, vi 22]) 0 9 [dg 0, vi 4] 7, pv (tu [ig 16, vi 22]) 1, pv (ig 16) 1, pv (vi 22) 1, pa 2 0], [2]⟩
def Bwr6_17 := [bb 25 (d3 0), bb 28 (i6 9), bb 28 (i6 16)]
def Fwr6_18 := fs Fwr6_14 [(11, ps 3 0), (12, vi 29), (42, tu [ig 23, vi 29]), (43, dg 0), (44, vi 3), (45, tu [ig 23, vi 29]), (46, ig 23), (47, vi 29)]
def Bwr6_19 := [bb 25 (d3 0), bb 28 (i6 9), bb 28 (i6 16), bb 28 o6]
def Rwr6_20 : Rg := ⟨7, 23, 3, Fwr6_14, Bwr6_19, [pl (dg 0) 0 0 0, pv (vi 3) 0, pc (tu [ig 23, vi 29]) 0 14 [dg 0, vi 3] 7, pv (tu [ig 23, vi 29]) 1, pv (ig 23) 1, pv (vi 29) 1, pa 3 0], [2]⟩
def Bwr6_21 := [bb 25 (d3 0), bb 28 (i6 9), bb 28 (i6 16), bb 28 (i6 23)]
def Fwr6_22 := fs Fwr6_18 [(13, ps 4 0), (14, vi 36), (48, tu [ig 30, vi 36]), (49, dg 0), (50, vi 4), (51, tu [ig 30, vi 36]), (52, ig 30), (53, vi 36)]
def Bwr6_23 := [bb 25 (d3 0), bb 28 (i6 9), bb 28 (i6 16), bb 28 (i6 23), bb 28 o6]
def Rwr6_24 : Rg := ⟨7, 30, 4, Fwr6_18, Bwr6_23, [pl (dg 0) 0 0 0, pv (vi 4) 0, pc (tu [ig 30, vi 36]) 0 14 [dg 0, vi 4] 7, pv (tu [ig 30, vi 36]) 1, pv (ig 30) 1, pv (vi 36) 1, pa 4 0], [2]⟩
def Bwr6_25 := [bb 25 (d3 0), bb 28 (i6 9), bb 28 (i6 16), bb 28 (i6 23), bb 28 (i6 30)]
def Fwr6_26 := fs Fwr6_22 [(54, vi 15), (55, bo .neq (vi 15) (li 0)), (56, bo .neq (vi 15) (li 0)), (57, gd false (bo .neq (vi 15) (li 0)) (vi 22)), (58, gd false (bo .neq (vi 15) (li 0)) (bo .neq (vi 22) (li 0))), (59, pk (bo .neq (vi 15) (li 0)) (lb true) (bo .neq (vi 22) (li 0))), (60, pk (bo .neq (vi 15) (li 0)) (lb true) (bo .neq (vi 22) (li 0))), (61, gd false (pk (bo .neq (vi 15) (li 0)) (lb true) (bo .neq (vi 22) (li 0))) (vi 29)), (62, gd false (pk (bo .neq (vi 15) (li 0)) (lb true) (bo .neq (vi 22) (li 0))) (bo .neq (vi 29) (li 0))), (63, pk (pk (bo .neq (vi 15) (li 0)) (lb true) (bo .neq (vi 22) (li 0))) (lb true) (bo .neq (vi 29) (li 0))), (64, pk (pk (bo .neq (vi 15) (li 0)) (lb true) (bo .neq (vi 22) (li 0))) (lb true) (bo .neq (vi 29) (li 0))), (65, gd false (pk (pk (bo .neq (vi 15) (li 0)) (lb true) (bo .neq (vi 22) (li 0))) (lb true) (bo .neq (vi 29) (li 0))) (vi 36)), (66, gd false (pk (pk (bo .neq (vi 15) (li 0)) (lb true) (bo .neq (vi 22) (li 0))) (lb true) (bo .neq (vi 29) (li 0))) (bo .neq (vi 36) (li 0))), (67, pk (pk (pk (bo .neq (vi 15) (li 0)) (lb true) (bo .neq (vi 22) (li 0))) (lb true) (bo .neq (vi 29) (li 0))) (lb true) (bo .neq (vi 36) (li 0)))]
def Rwr6_27 : Rg := ⟨14, 37, 5, Fwr6_22, Bwr6_25, [pv (vi 15) 0, pv (bo .neq (vi 15) (li 0)) 0, pv (bo .neq (vi 15) (li 0)) 0, ⟨vi 22, 0, [], .val, gd false (bo .neq (vi 15) (li 0)) (vi 22)⟩, ⟨bo .neq (vi 22) (li 0), 0, [], .val, gd false (bo .neq (vi 15) (li 0)) (bo .neq (vi 22) (li 0))⟩, ⟨pk (bo .neq (vi 15) (li 0)) (lb true) (bo .neq (vi 22) (li 0)), 0, [], .pk, pk (bo .neq (vi 15) (li 0)) (lb true) (bo .neq (vi 22) (li 0))⟩, pv (pk (bo .neq (vi 15) (li 0)) (lb true) (bo .neq (vi 22) (li 0))) 0, ⟨vi 29, 0, [], .val, gd false (pk (bo .neq (vi 15) (li 0)) (lb true) (bo .neq (vi 22) (li 0))) (vi 29)⟩, ⟨bo .neq (vi 29) (li 0), 0, [], .val, gd false (pk (bo .neq (vi 15) (li 0)) (lb true) (bo .neq (vi 22) (li 0))) (bo .neq (vi 29) (li 0))⟩, ⟨pk (pk (bo .neq (vi 15) (li 0)) (lb true) (bo .neq (vi 22) (li 0))) (lb true) (bo .neq (vi 29) (li 0)), 0, [], .pk, pk (pk (bo .neq (vi 15) (li 0)) (lb true) (bo .neq (vi 22) (li 0))) (lb true) (bo .neq (vi 29) (li 0))⟩, pv (pk (pk (bo .neq (vi 15) (li 0)) (lb true) (bo .neq (vi 22) (li 0))) (lb true) (bo .neq (vi 29) (li 0))) 0, ⟨vi 36, 0, [], .val, gd false (pk (pk (bo .neq (vi 15) (li 0)) (lb true) (bo .neq (vi 22) (li 0))) (lb true) (bo .neq (vi 29) (li 0))) (vi 36)⟩, ⟨bo .neq (vi 36) (li 0), 0, [], .val, gd false (pk (pk (bo .neq (vi 15) (li 0)) (lb true) (bo .neq (vi 22) (li 0))) (lb true) (bo .neq (vi 29) (li 0))) (bo .neq (vi 36) (li 0))⟩, ⟨pk (pk (pk (bo .neq (vi 15) (li 0)) (lb true) (bo .neq (vi 22) (li 0))) (lb true) (bo .neq (vi 29) (li 0))) (lb true) (bo .neq (vi 36) (li 0)), 0, [], .pk, pk (pk (pk (bo .neq (vi 15) (li 0)) (lb true) (bo .neq (vi 22) (li 0))) (lb true) (bo .neq (vi 29) (li 0))) (lb true) (bo .neq (vi 36) (li 0))⟩], []⟩
def Fwr6_28 := fs Fwr6_26 [(6, pk (pk (bo .eql (vi 15) (vi 29)) (bo .eql (vi 22) (vi 36)) (lb false)) (lb true) (vb 37)), (68, vi 15), (69, vi 29), (70, bo .eql (vi 15) (vi 29)), (71, bo .eql (vi 15) (vi 29)), (72, gd true (bo .eql (vi 15) (vi 29)) (vi 22)), (73, gd true (bo .eql (vi 15) (vi 29)) (vi 36)), (74, gd true (bo .eql (vi 15) (vi 29)) (bo .eql (vi 22) (vi 36))), (75, pk (bo .eql (vi 15) (vi 29)) (bo .eql (vi 22) (vi 36)) (lb false)), (76, pk (bo .eql (vi 15) (vi 29)) (bo .eql (vi 22) (vi 36)) (lb false)), (77, gd false (pk (bo .eql (vi 15) (vi 29)) (bo .eql (vi 22) (vi 36)) (lb false)) (dg 0)), (78, gd false (pk (bo .eql (vi 15) (vi 29)) (bo .eql (vi 22) (vi 36)) (lb false)) (vb 37)), (79, pk (pk (bo .eql (vi 15) (vi 29)) (bo .eql (vi 22) (vi 36)) (lb false)) (lb true) (vb 37))]
def Rwr6_29 : Rg := ⟨13, 37, 5, Fwr6_26, Bwr6_25, [pv (vi 15) 0, pv (vi 29) 0, pv (bo .eql (vi 15) (vi 29)) 0, pv (bo .eql (vi 15) (vi 29)) 0, ⟨vi 22, 0, [], .val, gd true (bo .eql (vi 15) (vi 29)) (vi 22)⟩, ⟨vi 36, 0, [], .val, gd true (bo .eql (vi 15) (vi 29)) (vi 36)⟩, ⟨bo .eql (vi 22) (vi 36), 0, [], .val, gd true (bo .eql (vi 15) (vi 29)) (bo .eql (vi 22) (vi 36))⟩, ⟨pk (bo .eql (vi 15) (vi 29)) (bo .eql (vi 22) (vi 36)) (lb false), 0, [], .pk, pk (bo .eql (vi 15) (vi 29)) (bo .eql (vi 22) (vi 36)) (lb false)⟩, pv (pk (bo .eql (vi 15) (vi 29)) (bo .eql (vi 22) (vi 36)) (lb false)) 0, ⟨dg 0, 0, [], .ld 0 0, gd false (pk (bo .eql (vi 15) (vi 29)) (bo .eql (vi 22) (vi 36)) (lb false)) (dg 0)⟩, ⟨vb 37, 0, [], .cl 0 18 [dg 0] 1 [], gd false (pk (bo .eql (vi 15) (vi 29)) (bo .eql (vi 22) (vi 36)) (lb false)) (vb 37)⟩, ⟨pk (pk (bo .eql (vi 15) (vi 29)) (bo .eql (vi 22) (vi 36)) (lb false)) (lb true) (vb 37), 1, [], .pk, pk (pk (bo .eql (vi 15) (vi 29)) (bo .eql (vi 22) (vi 36)) (lb false)) (lb true) (vb 37)⟩, pv (pk (pk (bo .eql (vi 15) (vi 29)) (bo .eql (vi 22) (vi 36)) (lb false)) (lb true) (vb 37)) 1], [10]⟩
def Fwr6_30 := fs Fwr6_26 [(6, pk (pk (pk (pk (pk (vb 37) (vb 38) (lb false)) (vb 39) (lb false)) (vb 40) (lb false)) (vb 41) (lb false)) (vb 42) (lb false)), (80, ig 9), (81, ig 16), (82, vb 37), (83, vb 37), (84, gd true (vb 37) (ig 23)), (85, gd true (vb 37) (ig 30)), (86, gd true (vb 37) (vb 38)), (87, pk (vb 37) (vb 38) (lb false)), (88, pk (vb 37) (vb 38) (lb false)), (89, gd true (pk (vb 37) (vb 38) (lb false)) (ig 9)), (90, gd true (pk (vb 37) (vb 38) (lb false)) (vi 3)), (91, gd true (pk (vb 37) (vb 38) (lb false)) (vb 39)), (92, pk (pk (vb 37) (vb 38) (lb false)) (vb 39) (lb false)), (93, pk (pk (vb 37) (vb 38) (lb false)) (vb 39) (lb false)), (94, gd true (pk (pk (vb 37) (vb 38) (lb false)) (vb 39) (lb false)) (ig 16)), (95, gd true (pk (pk (vb 37) (vb 38) (lb false)) (vb 39) (lb false)) (vi 4)), (96, gd true (pk (pk (vb 37) (vb 38) (lb false)) (vb 39) (lb false)) (vb 40)), (97, pk (pk (pk (vb 37) (vb 38) (lb false)) (vb 39) (lb false)) (vb 40) (lb false)), (98, pk (pk (pk (vb 37) (vb 38) (lb false)) (vb 39) (lb false)) (vb 40) (lb false)), (99, gd true (pk (pk (pk (vb 37) (vb 38) (lb false)) (vb 39) (lb false)) (vb 40) (lb false)) (ig 23)), (100, gd true (pk (pk (pk (vb 37) (vb 38) (lb false)) (vb 39) (lb false)) (vb 40) (lb false)) (vi 3)), (101, gd true (pk (pk (pk (vb 37) (vb 38) (lb false)) (vb 39) (lb false)) (vb 40) (lb false)) (vb 41)), (102, pk (pk (pk (pk (vb 37) (vb 38) (lb false)) (vb 39) (lb false)) (vb 40) (lb false)) (vb 41) (lb false)), (103, pk (pk (pk (pk (vb 37) (vb 38) (lb false)) (vb 39) (lb false)) (vb 40) (lb false)) (vb 41) (lb false)), (104, gd true (pk (pk (pk (pk (vb 37) (vb 38) (lb false)) (vb 39) (lb false)) (vb 40) (lb false)) (vb 41) (lb false)) (ig 30)), (105, gd true (pk (pk (pk (pk (vb 37) (vb 38) (lb false)) (vb 39) (lb false)) (vb 40) (lb false)) (vb 41) (lb false)) (vi 4)), (106, gd true (pk (pk (pk (pk (vb 37) (vb 38) (lb false)) (vb 39) (lb false)) (vb 40) (lb false)) (vb 41) (lb false)) (vb 42)), (107, pk (pk (pk (pk (pk (vb 37) (vb 38) (lb false)) (vb 39) (lb false)) (vb 40) (lb false)) (vb 41) (lb false)) (vb 42) (lb false))]
def Rwr6_31 : Rg := ⟨29, 37, 5, Fwr6_26, Bwr6_25, [pl (ig 9) 0 1 0, pl (ig 16) 0 2 0, pc (vb 37) 0 23 [ig 9, ig 16] 1, pv (vb 37) 1, ⟨ig 23, 1, [], .ld 3 0, gd true (vb 37) (ig 23)⟩, ⟨ig 30, 1, [], .ld 4 0, gd true (vb 37) (ig 30)⟩, ⟨vb 38, 1, [], .cl 1 23 [ig 23, ig 30] 1 [], gd true (vb 37) (vb 38)⟩, ⟨pk (vb 37) (vb 38) (lb false), 2, [], .pk, pk (vb 37) (vb 38) (lb false)⟩, pv (pk (vb 37) (vb 38) (lb false)) 2, ⟨ig 9, 2, [], .ld 1 0, gd true (pk (vb 37) (vb 38) (lb false)) (ig 9)⟩, ⟨vi 3, 2, [], .val, gd true (pk (vb 37) (vb 38) (lb false)) (vi 3)⟩, ⟨vb 39, 2, [], .cl 2 28 [ig 9, vi 3] 1 [], gd true (pk (vb 37) (vb 38) (lb false)) (vb 39)⟩, ⟨pk (pk (vb 37) (vb 38) (lb false)) (vb 39) (lb false), 3, [], .pk, pk (pk (vb 37) (vb 38) (lb false)) (vb 39) (lb false)⟩, pv (pk (pk (vb 37) (vb 38) (lb false)) (vb 39) (lb false)) 3, ⟨ig 16, 3, [], .ld 2 0, gd true (pk (pk (vb 37) (vb 38) (lb false)) (vb 39) (lb false)) (ig 16)⟩, ⟨vi 4, 3, [], .val, gd true (pk (pk (vb 37) (vb 38) (lb false)) (vb 39) (lb false)) (vi 4)⟩, ⟨vb 40, 3, [], .cl 3 28 [ig 16, vi 4] 1 [], gd true (pk (pk (vb 37) (vb 38) (lb false)) (vb 39) (lb false)) (vb 40)⟩, ⟨pk (pk (pk (vb 37) (vb 38) (lb false)) (vb 39) (lb false)) (vb 40) (lb false), 4, [], .pk, pk (pk (pk (vb 37) (vb 38) (lb false)) (vb 39) (lb false)) (vb 40) (lb false)⟩, pv (pk (pk (pk (vb 37) (vb 38) (lb false)) (vb 39) (lb false)) (vb 40) (lb false)) 4, ⟨ig 23, 4, [], .ld 3 0, gd true (pk (pk (pk (vb 37) (vb 38) (lb false)) (vb 39) (lb false)) (vb 40) (lb false)) (ig 23)⟩, ⟨vi 3, 4, [], .val, gd true (pk (pk (pk (vb 37) (vb 38) (lb false)) (vb 39) (lb false)) (vb 40) (lb false)) (vi 3)⟩, ⟨vb 41, 4, [], .cl 4 28 [ig 23, vi 3] 1 [], gd true (pk (pk (pk (vb 37) (vb 38) (lb false)) (vb 39) (lb false)) (vb 40) (lb false)) (vb 41)⟩, ⟨pk (pk (pk (pk (vb 37) (vb 38) (lb false)) (vb 39) (lb false)) (vb 40) (lb false)) (vb 41) (lb false), 5, [], .pk, pk (pk (pk (pk (vb 37) (vb 38) (lb false)) (vb 39) (lb false)) (vb 40) (lb false)) (vb 41) (lb false)⟩, pv (pk (pk (pk (pk (vb 37) (vb 38) (lb false)) (vb 39) (lb false)) (vb 40) (lb false)) (vb 41) (lb false)) 5, ⟨ig 30, 5, [], .ld 4 0, gd true (pk (pk (pk (pk (vb 37) (vb 38) (lb false)) (vb 39) (lb false)) (vb 40) (lb false)) (vb 41) (lb false)) (ig 30)⟩, ⟨vi 4, 5, [], .val, gd true (pk (pk (pk (pk (vb 37) (vb 38) (lb false)) (vb 39) (lb false)) (vb 40) (lb false)) (vb 41) (lb false)) (vi 4)⟩, ⟨vb 42, 5, [], .cl 5 28 [ig 30, vi 4] 1 [], gd true (pk (pk (pk (pk (vb 37) (vb 38) (lb false)) (vb 39) (lb false)) (vb 40) (lb false)) (vb 41) (lb false)) (vb 42)⟩, ⟨pk (pk (pk (pk (pk (vb 37) (vb 38) (lb false)) (vb 39) (lb false)) (vb 40) (lb false)) (vb 41) (lb false)) (vb 42) (lb false), 6, [], .pk, pk (pk (pk (pk (pk (vb 37) (vb 38) (lb false)) (vb 39) (lb false)) (vb 40) (lb false)) (vb 41) (lb false)) (vb 42) (lb false)⟩, pv (pk (pk (pk (pk (pk (vb 37) (vb 38) (lb false)) (vb 39) (lb false)) (vb 40) (lb false)) (vb 41) (lb false)) (vb 42) (lb false)) 6], [2, 6, 11, 16, 21, 26]⟩
def clG (n : FuncId) (l : List Value) : Value := .func (.func n) l.toArray #[]
theorem bd_up {N i : Nat} {z e g : Int} (h : Bd N z e) (hi : e = g + i) (hg : -(N : Int) ≤ g) : Bd (3 * N) (z * 2 ^ i) g := by
 obtain ⟨h1, h2, h3⟩ := h
 refine ⟨?_, by omega, by omega⟩
 rw [Int.natAbs_mul, Int.natAbs_pow, show (2 : Int).natAbs = 2 from rfl]
 have k : 2 ^ i ≤ 2 ^ (2 * N) := Nat.pow_le_pow_right (by decide) (by omega)
 have k2 := Nat.mul_lt_mul_of_lt_of_le h1 k (Nat.two_pow_pos _)
 rw [← Nat.pow_add, show N + 2 * N = 3 * N by omega] at k2
 exact k2
theorem fit_bd {s : Bool} {m : Nat} {x : Int} (h : Fit m x = true) : Bd 65536 (sgn s m) x := by
 have := fit_bl h
 exact bd_of this.1 (by omega) (by omega)
theorem dv_up (z e g : Int) (i : Nat) (h : e = g + i) : Dv (z * 2 ^ i) g = Dv z e := by rw [h]; exact Dv_shift z g i
theorem sum_bd {K M : Nat} {y z g : Int} (h : Bd K y g) (h' : Bd K z g) (hM : K + 1 ≤ M) : Bd M (y + z) g := by
 obtain ⟨h1, h2, h3⟩ := h
 obtain ⟨k1, _, _⟩ := h'
 refine ⟨?_, by omega, by omega⟩
 have a := Int.natAbs_add_le y z
 have e : 2 ^ K + 2 ^ K ≤ 2 ^ M := by
  have : 2 ^ K + 2 ^ K = 2 ^ (K + 1) := by rw [Nat.pow_succ]; omega
  rw [this]
  exact Nat.pow_le_pow_right (by decide) hM
 omega
def Fws60_0 := [dg 0, dg 3, U, U, U, U, U, U, U, U, U, U, U, U, U, U, U, U, U, U, U, U, U, U, U, U, U, U, U, U, U, U, U, U, U, U, U, U, U, U, U, U, U, U, U, U, U, U, U, U, U, U, U, U, U, U, U]
def Fws60_1 := fs Fws60_0 [(2, ps 0 0), (3, ps 1 0), (4, ps 2 0)]
def Bws60_2 := [bb 25 (d3 0), bb 25 (d3 3), bb 25 o3]
def Rws60_3 : Rg := ⟨3, 6, 0, Fws60_0, Bws60_2, [pa 0 0, pa 1 0, pa 2 0], []⟩
def Fws60_4 := fs Fws60_1 [(8, dg 0), (9, dg 6), (10, dg 3), (11, dg 9)]
def Rws60_5 : Rg := ⟨4, 6, 3, Fws60_1, Bws60_2, [pl (dg 0) 0 0 0, pc (dg 6) 0 66 [dg 0] 3, pl (dg 3) 0 1 0, pc (dg 9) 1 66 [dg 3] 3], [1, 3]⟩
def Bws60_6 := [bb 25 (d3 6), bb 25 (d3 9), bb 25 o3]
def Fws60_7 := fs Fws60_4 [(12, vb 12), (13, dg 6), (14, vb 12)]
def Rws60_8 : Rg := ⟨3, 12, 3, Fws60_4, Bws60_6, [pl (dg 6) 0 0 0, pc (vb 12) 0 79 [dg 6] 1, pv (vb 12) 1], [1]⟩
def Fws60_9 := fs Fws60_7 [(15, dg 9)]
def Rws60_10 : Rg := ⟨1, 13, 3, Fws60_7, Bws60_6, [pl (dg 9) 0 1 0], []⟩
def Bws60_11 := [bb 25 (d3 6), bb 25 (d3 9), bb 25 (d3 9)]
def Fws60_12 := fs Fws60_7 [(16, vb 13), (17, dg 9), (18, vb 13)]
def Rws60_13 : Rg := ⟨3, 13, 3, Fws60_7, Bws60_6, [pl (dg 9) 0 1 0, pc (vb 13) 0 79 [dg 9] 1, pv (vb 13) 1], [1]⟩
def Fws60_14 := fs Fws60_12 [(19, dg 6)]
def Rws60_15 : Rg := ⟨1, 14, 3, Fws60_12, Bws60_6, [pl (dg 6) 0 0 0], []⟩
def Bws60_16 := [bb 25 (d3 6), bb 25 (d3 9), bb 25 (d3 6)]
def Fws60_17 := fs Fws60_12 [(5, vs 14), (6, vs 15), (7, vi 16), (20, tu [vs 14, vs 15, vi 16]), (21, dg 6), (22, dg 9), (23, tu [vs 14, vs 15, vi 16]), (24, vs 14), (25, vs 15), (26, vi 16)]
def Rws60_18 : Rg := ⟨10, 14, 3, Fws60_12, Bws60_6, [pl (dg 6) 0 0 0, pl (dg 9) 0 1 0, pc (tu [vs 14, vs 15, vi 16]) 0 101 [dg 6, dg 9] 3, pv (tu [vs 14, vs 15, vi 16]) 1, pv (vs 14) 1, pv (vs 15) 1, pv (vi 16) 1, pv (vs 14) 1, pv (vs 15) 1, pv (vi 16) 1], [2]⟩
def Fws60_19 := fs Fws60_17 [(27, ps 0 0), (28, vb 6), (29, ps 1 0), (30, vb 9), (31, bo .eql (vb 6) (vb 9))]
def Rws60_20 : Rg := ⟨5, 17, 3, Fws60_17, Bws60_6, [pv (ps 0 0) 0, pl (vb 6) 0 0 0, pv (ps 1 0) 0, pl (vb 9) 0 1 0, pv (bo .eql (vb 6) (vb 9)) 0], []⟩
def Fws60_21 := fs Fws60_19 [(32, ps 0 0), (33, vb 6), (34, vs 14), (35, vs 15), (36, vs 17), (37, vi 16), (38, dg 18)]
def Rws60_22 : Rg := ⟨7, 17, 3, Fws60_19, Bws60_6, [pv (ps 0 0) 0, pl (vb 6) 0 0 0, pv (vs 14) 0, pv (vs 15) 0, pc (vs 17) 0 103 [vs 14, vs 15] 1, pv (vi 16) 0, pc (dg 18) 1 102 [vb 6, vs 17, vi 16] 3], [4, 6]⟩
def Bws60_23 := [bb 25 (d3 6), bb 25 (d3 9), bb 25 (d3 18)]
def Fws60_24 := fs Fws60_19 [(39, vs 14), (40, vs 15), (41, vi 17), (42, bo .geq (vi 17) (li 0))]
def Rws60_25 : Rg := ⟨4, 17, 3, Fws60_19, Bws60_6, [pv (vs 14) 0, pv (vs 15) 0, pc (vi 17) 0 104 [vs 14, vs 15] 1, pv (bo .geq (vi 17) (li 0)) 1], [2]⟩
def Fws60_26 := fs Fws60_24 [(43, ps 0 0), (44, vb 6), (45, vs 14), (46, vs 15), (47, vs 18), (48, vi 16), (49, dg 19)]
def Rws60_27 : Rg := ⟨7, 18, 3, Fws60_24, Bws60_6, [pv (ps 0 0) 0, pl (vb 6) 0 0 0, pv (vs 14) 0, pv (vs 15) 0, pc (vs 18) 0 105 [vs 14, vs 15] 1, pv (vi 16) 0, pc (dg 19) 1 102 [vb 6, vs 18, vi 16] 3], [4, 6]⟩
def Bws60_28 := [bb 25 (d3 6), bb 25 (d3 9), bb 25 (d3 19)]
def Fws60_29 := fs Fws60_24 [(50, ps 1 0), (51, vb 9), (52, vs 15), (53, vs 14), (54, vs 18), (55, vi 16), (56, dg 19)]
def Rws60_30 : Rg := ⟨7, 18, 3, Fws60_24, Bws60_6, [pv (ps 1 0) 0, pl (vb 9) 0 1 0, pv (vs 15) 0, pv (vs 14) 0, pc (vs 18) 0 105 [vs 15, vs 14] 1, pv (vi 16) 0, pc (dg 19) 1 102 [vb 9, vs 18, vi 16] 3], [4, 6]⟩
theorem padd_g {u v : Value} {s s' : Bool} {m m' : Nat} {x x' : Int} {w : World} (h : ADy w u s m x) (h' : ADy w v s' m' x') (hf : Fit m x = true) (hf' : Fit m' x' = true) (hT : TB w) :
 Calls Tryz.prog 60 #[u, v] w fun en w' => ∃ v', en = .returned v' ∧ PQ w' w.heap.size v' (Dv (sgn s m) x + Dv (sgn s' m') x') 1000000 ∧ BL w w' := by
 obtain ⟨A0, n0, c0, rfl, h⟩ := h
 have h : ADy w (.agg #[.bool s, .slice A0 n0 c0, .int .i64 x]) s m x := ⟨_, _, _, rfl, h⟩
 obtain ⟨A9, n9, c9, rfl, h'⟩ := h'
 have h' : ADy w (.agg #[.bool s', .slice A9 n9 c9, .int .i64 x']) s' m' x' := ⟨_, _, _, rfl, h'⟩
 have fb := fit_bl hf
 have fb' := fit_bl hf'
 obtain ⟨g, i0, j0, hi0, hj0, hor⟩ := Dv_common x x'
 obtain ⟨y, ey⟩ : ∃ y, y = sgn s m * 2 ^ i0 := ⟨_, rfl⟩
 obtain ⟨z, ez⟩ : ∃ z, z = sgn s' m' * 2 ^ j0 := ⟨_, rfl⟩
 have hg : -((65536 : Nat) : Int) ≤ g := by omega
 obtain ⟨K, hKK⟩ : ∃ K : Nat, K = 3 * 65536 := ⟨_, rfl⟩
 have B1 : Bd K y g := by rw [ey, hKK]; exact bd_up (fit_bd hf) hi0 hg
 have B2 : Bd K z g := by rw [ez, hKK]; exact bd_up (fit_bd hf') hj0 hg
 have dy : Dv y g = Dv (sgn s m) x := by rw [ey]; exact dv_up _ _ _ _ hi0
 have dz : Dv z g = Dv (sgn s' m') x' := by rw [ez]; exact dv_up _ _ _ _ hj0
 have hK : K ≤ 134217728 := by omega
 have l1 := bd_lo B1; have l2 := bd_hi B1; have l3 := bd_lo B2; have l4 := bd_hi B2; have l5 := bd_len B1; have l6 := bd_len B2
 have K1 : bl (cman y) ≤ K := bl_le_iff.2 (bd_man B1)
 have K2 : bl (cman z) ≤ K := bl_le_iff.2 (bd_man B2)
 obtain ⟨E0, i, j, eE, hi, hj, e1, e2, m1, m2, m3, m4⟩ := yb_unit (x := cexp y g) (y := cexp z g) (K := 2 * K) (by omega) (by omega) (by omega) (by omega)
 have hb3 : bl (cman y * 2 ^ i) ≤ 671088641 := by have := bl_mul (b := 2 ^ i) K1 (yb_pow i); omega
 have hb4 : bl (cman z * 2 ^ j) ≤ 671088641 := by have := bl_mul (b := 2 ^ j) K2 (yb_pow j); omega
 have hb5 : bl (cman y * 2 ^ i + cman z * 2 ^ j) ≤ 671088642 := bl_add hb3 hb4
 have q9 := yb_at e1
 have q8 := yb_at e2
 have bdS : Bd 1000000 (y + z) g := sum_bd B1 B2 (by omega)
 refine fn_enter (u := 64) (fn := Tryz.f60) Tryz.func60 rfl Fws60_0 [.bool s, .slice A0 n0 c0, .int .i64 x, .bool s', .slice A9 n9 c9, .int .i64 x'] (by kernel_rfl) rfl (fun a0 S0 r0 => ?_)
 refine wp_seq (rk Rws60_3 [] Fws60_1 Bws60_2 S0 r0 ?_)
 intro _ _ _ r1 S1
 refine wp_seq (rk Rws60_5 [.st 0 0 (d3 6), .st 1 0 (d3 9)] Fws60_4 Bws60_6 S1 r1 ?_)
 intro _ _ r2 _
 refine (one_all (h.below r2.first) (by omega) (by omega) (by omega) (tb hT r2)).mono ?_
 rintro _ V1 ⟨v, rfl, h1, k1⟩
 obtain ⟨b1, A1, n1, c1, x1, rfl⟩ := h1.ex
 replace h1 := yb_as (h1.lower r2.fs) dy.symm
 refine ⟨[.bool b1, .slice A1 n1 c1, .int .i64 x1], rfl, rfl, rfl, k1, ?_⟩
 have hb1 := h1.cells.1
 intro _ _ r3 _
 refine (one_all (h'.below r3.first) (by omega) (by omega) (by omega) (tb hT r3)).mono ?_
 rintro _ V2 ⟨v, rfl, h2, k2⟩
 obtain ⟨b2, A2, n2, c2, x2, rfl⟩ := h2.ex
 replace h2 := yb_as (h2.lower r3.fs) dz.symm
 refine ⟨[.bool b2, .slice A2 n2 c2, .int .i64 x2], rfl, rfl, rfl, k2, ?_⟩
 have hb2 := h2.cells.1
 intro _ _ _ r4 S4
 refine wp_seq ?_
 refine wp_block ?_
 refine wp_seq (rk Rws60_8 [] Fws60_7 Bws60_6 S4 r4 ?_)
 intro _ _ r5 _
 refine (pzero_dy _ y g _ (h1.lat (r5.at_ 0 _ rfl)).c (by omega)).mono ?_
 rintro _ V3 ⟨rfl, k3⟩
 refine ⟨[.bool (decide (y = 0))], rfl, rfl, rfl, k3, ?_⟩
 intro _ _ _ r6 S6
 refine wp_cond_split (t := (decide (y = 0))) (S6.cnd (by kernel_rfl)) (fun q1 => ?_) (fun q1 => ?_)
 · refine wp_seq (rk Rws60_10 [.st 2 0 (d3 9)] Fws60_9 Bws60_11 S6 r6 ?_)
   intro _ g7 W7 r7 S7
   exact wp_ret (blk_ret (then_ret (ret_ok S7 [.agg #[.bool b2, .slice A2 n2 c2, .int .i64 x2]] (by kernel_rfl) (⟨_, rfl, ⟨_, g, by have q := (h2.lat (r7.at_ 1 _ rfl)); rw [show z = y + z by have := of_decide_eq_true q1; omega] at q; exact q, by rw [← Dv_add, dy, dz], bdS⟩, r7.first⟩))))
 · refine wp_seq (rk Rws60_13 [] Fws60_12 Bws60_6 S6 r6 ?_)
   intro W7 g7 r7 _
   refine (pzero_dy _ z g _ (h2.lat (r7.at_ 1 _ rfl)).c (by omega)).mono ?_
   rintro _ V4 ⟨rfl, k4⟩
   refine ⟨[.bool (decide (z = 0))], rfl, rfl, rfl, k4, ?_⟩
   intro _ _ _ r8 S8
   refine wp_cond_split (t := (decide (z = 0))) (S8.cnd (by kernel_rfl)) (fun q2 => ?_) (fun q2 => ?_)
   · refine wp_seq (rk Rws60_15 [.st 2 0 (d3 6)] Fws60_14 Bws60_16 S8 r8 ?_)
     intro _ g9 W9 r9 S9
     exact wp_ret (blk_ret (then_ret (ret_ok S9 [.agg #[.bool b1, .slice A1 n1 c1, .int .i64 x1]] (by kernel_rfl) (⟨_, rfl, ⟨_, g, by have q := (h1.lat (r9.at_ 0 _ rfl)); rw [show y = y + z by have := of_decide_eq_true q2; omega] at q; exact q, by rw [← Dv_add, dy, dz], bdS⟩, r9.first⟩))))
   · refine wp_skip ?_
     refine wp_seq (rk Rws60_18 [] Fws60_17 Bws60_6 S8 r8 ?_)
     intro W9 g9 r9 _
     refine (pamounts_dy _ _ y z g E0 i j _ (h1.lat (r9.at_ 0 _ rfl)).c (h2.lat (r9.at_ 1 _ rfl)).c eE hi hj (by omega) (by omega) (by omega) (by omega) (by omega) (by omega)).mono ?_
     rintro _ V5 ⟨v, u, rfl, h3, h4, k5⟩
     obtain ⟨A5, n5, c5, rfl⟩ := PL.ex h3
     obtain ⟨B5, m5, d5, rfl⟩ := PL.ex h4
     replace h3 : PN _ _ _ _ := PL.lower h3 r9.fs
     replace h4 : PN _ _ _ _ := PL.lower h4 r9.fs
     refine ⟨[.slice A5 n5 c5, .slice B5 m5 d5, .int .i64 E0], rfl, rfl, rfl, k5, ?_⟩
     intro _ _ _ r10 S10
     refine wp_seq ?_
     refine wp_seq (rk Rws60_20 [] Fws60_19 Bws60_6 S10 r10 ?_)
     intro _ _ _ r11 S11
     refine wp_cond_split (t := b1 == b2) (S11.cnd (by kernel_rfl)) (fun q3 => ?_) (fun q3 => ?_)
     · refine wp_seq (rk Rws60_22 [.st 2 0 (d3 18)] Fws60_21 Bws60_23 S11 r11 ?_)
       intro W12 g12 r12 _
       refine (add_n (h3.lat (r12.at_ 4 _ rfl)).c (h4.lat (r12.at_ 4 _ rfl)).c (by omega) (by omega)).mono ?_
       rintro _ V6 ⟨v, rfl, h5, k6⟩
       obtain ⟨A6, n6, c6, rfl⟩ := h5.ex
       replace h5 := h5.lower r12.fs
       refine ⟨[.slice A6 n6 c6], rfl, rfl, rfl, k6, ?_⟩
       intro W13 g13 r13 _
       refine (form_n b1 E0 (h5.lat (r13.at_ 5 _ rfl)).c (by omega) (by omega) (by omega) (tb hT r13)).mono ?_
       rintro _ V7 ⟨v, rfl, h6, k7⟩
       obtain ⟨b7, A7, n7, c7, x7, rfl⟩ := h6.ex
       replace h6 := h6.lower r13.fs
       refine ⟨[.bool b7, .slice A7 n7 c7, .int .i64 x7], rfl, rfl, rfl, k7, ?_⟩
       intro _ g14 W14 r14 S14
       exact wp_ret (then_ret (ret_ok S14 [.agg #[.bool b7, .slice A7 n7 c7, .int .i64 x7]] (by kernel_rfl) (⟨_, rfl, ⟨_, g, by have q := yb_as (y := y + z) (f := g) (h6.lat (r14.at_ 6 _ rfl)) (by rw [← Dv_add, q9, q8, Dv_add, hb1, ← (show cneg y = cneg z by rw [← hb1, ← hb2]; simpa using q3), sgn_add]); exact q, by rw [← Dv_add, dy, dz], bdS⟩, r14.first⟩)))
     · refine wp_skip ?_
       refine wp_seq ?_
       refine wp_seq (rk Rws60_25 [] Fws60_24 Bws60_6 S11 r11 ?_)
       intro W12 g12 r12 _
       refine (cmp_n (h3.lat (r12.at_ 4 _ rfl)).c (h4.lat (r12.at_ 4 _ rfl)).c (by omega) (by omega)).mono ?_
       rintro _ V8 ⟨rfl, k8⟩
       refine ⟨[.int .i64 (cmpN (cman y * 2 ^ i) (cman z * 2 ^ j))], rfl, rfl, rfl, k8, ?_⟩
       intro _ g13 W13 r13 S13
       refine wp_cond_split (t := decide ((cmpN (cman y * 2 ^ i) (cman z * 2 ^ j)) ≥ 0)) (S13.cnd (by kernel_rfl)) (fun q4 => ?_) (fun q4 => ?_)
       · have hle : cman z * 2 ^ j ≤ cman y * 2 ^ i := yb_ge (by simpa using q4)
         have hpos : 0 < cman y * 2 ^ i := Nat.mul_pos (Nat.pos_of_ne_zero (fun q => of_decide_eq_false q1 (cman_eq_zero.1 q))) (Nat.two_pow_pos i)
         refine wp_seq (rk Rws60_27 [.st 2 0 (d3 19)] Fws60_26 Bws60_28 S13 r13 ?_)
         intro W14 g14 r14 _
         refine (sub_n (h3.lat (r14.at_ 4 _ rfl)).c (h4.lat (r14.at_ 4 _ rfl)).c (by omega) hle hpos).mono ?_
         rintro _ V9 ⟨v, rfl, h5, k9⟩
         obtain ⟨A9, n9, c9, rfl⟩ := h5.ex
         replace h5 := h5.lower r14.fs
         refine ⟨[.slice A9 n9 c9], rfl, rfl, rfl, k9, ?_⟩
         intro W15 g15 r15 _
         refine (form_n b1 E0 (h5.lat (r15.at_ 6 _ rfl)).c (by have := bl_le_of (Nat.sub_le (cman y * 2 ^ i) (cman z * 2 ^ j)); omega) (by omega) (by omega) (tb hT r15)).mono ?_
         rintro _ V10 ⟨v, rfl, h6, k10⟩
         obtain ⟨b10, A10, n10, c10, x10, rfl⟩ := h6.ex
         replace h6 := h6.lower r15.fs
         refine ⟨[.bool b10, .slice A10 n10 c10, .int .i64 x10], rfl, rfl, rfl, k10, ?_⟩
         intro a16 g16 W16 r16 S16
         exact wp_ret (then_ret (ret_ok S16 [.agg #[.bool b10, .slice A10 n10 c10, .int .i64 x10]] (by kernel_rfl) (⟨_, rfl, ⟨_, g, by have q := yb_as (y := y + z) (f := g) (h6.lat (r16.at_ 7 _ rfl)) (by rw [← Dv_add, q9, q8, Dv_add, hb1, Limb.sgn_sub (show cneg y ≠ cneg z by rw [← hb1, ← hb2]; simpa using q3) hle]); exact q, by rw [← Dv_add, dy, dz], bdS⟩, r16.first⟩)))
       · have hle := yb_lt (show cmpN (cman y * 2 ^ i) (cman z * 2 ^ j) < 0 by simpa using q4)
         refine wp_skip ?_
         refine wp_seq (rk Rws60_30 [.st 2 0 (d3 19)] Fws60_29 Bws60_28 S13 r13 ?_)
         intro W14 g14 r14 _
         refine (sub_n (h4.lat (r14.at_ 4 _ rfl)).c (h3.lat (r14.at_ 4 _ rfl)).c (by omega) hle.1 hle.2).mono ?_
         rintro _ V11 ⟨v, rfl, h5, k11⟩
         obtain ⟨A11, n11, c11, rfl⟩ := h5.ex
         replace h5 := h5.lower r14.fs
         refine ⟨[.slice A11 n11 c11], rfl, rfl, rfl, k11, ?_⟩
         intro W15 g15 r15 _
         refine (form_n b2 E0 (h5.lat (r15.at_ 6 _ rfl)).c (by have := bl_le_of (Nat.sub_le (cman z * 2 ^ j) (cman y * 2 ^ i)); omega) (by omega) (by omega) (tb hT r15)).mono ?_
         rintro _ V12 ⟨v, rfl, h6, k12⟩
         obtain ⟨b12, A12, n12, c12, x12, rfl⟩ := h6.ex
         replace h6 := h6.lower r15.fs
         refine ⟨[.bool b12, .slice A12 n12 c12, .int .i64 x12], rfl, rfl, rfl, k12, ?_⟩
         intro a16 g16 W16 r16 S16
         exact rt S16 [.agg #[.bool b12, .slice A12 n12 c12, .int .i64 x12]] (⟨_, rfl, ⟨_, g, by have q := yb_as (y := y + z) (f := g) (h6.lat (r16.at_ 7 _ rfl)) (by rw [← Dv_add, q9, q8, Dv_add, hb2, Limb.sgn_sub (show cneg z ≠ cneg y by rw [← hb1, ← hb2]; exact fun e => absurd e.symm (by simpa using q3)) hle.1, Int.add_comm]); exact q, by rw [← Dv_add, dy, dz], bdS⟩, r16.first⟩)
theorem sgn_not (s : Bool) (m : Nat) : sgn (!s) m = -sgn s m := by cases s <;> simp [sgn]
theorem dv_not (s : Bool) (m : Nat) (x : Int) : Dv (sgn (!s) m) x = -Dv (sgn s m) x := by rw [sgn_not, Dv_neg]
def Fws106_0 := [dg 0, U, U, U, U, U, U, U, U, U, U]
def Fws106_1 := fs Fws106_0 [(1, ps 0 0), (2, ps 1 0)]
def Bws106_2 := [bb 25 (d3 0), bb 25 o3]
def Rws106_3 : Rg := ⟨2, 3, 0, Fws106_0, Bws106_2, [pa 0 0, pa 1 0], []⟩
def Fws106_4 := fs Fws106_1 [(3, ps 0 0), (4, vb 0), (5, f1 noF (vb 0)), (6, ps 0 1), (7, vs 1), (8, ps 0 2), (9, vi 2), (10, dg 3)]
def Rws106_5 : Rg := ⟨8, 3, 2, Fws106_1, Bws106_2, [pv (ps 0 0) 0, pl (vb 0) 0 0 0, pv (f1 noF (vb 0)) 0, pv (ps 0 1) 0, pl (vs 1) 0 0 1, pv (ps 0 2) 0, pl (vi 2) 0 0 2, pc (dg 3) 0 102 [f1 noF (vb 0), vs 1, vi 2] 3], [7]⟩
def Bws106_6 := [bb 25 (d3 0), bb 25 (d3 3)]
theorem pneg_g {v : Value} {s : Bool} {m : Nat} {x : Int} {w : World} (h : ADy w v s m x) (hf : Fit m x = true) (hT : TB w) :
 Calls Tryz.prog 106 #[v] w fun en w' => ∃ v', en = .returned v' ∧ PQ w' w.heap.size v' (-Dv (sgn s m) x) 1000000 ∧ BL w w' := by
 obtain ⟨A0, n0, c0, rfl, h⟩ := h
 have h : ADy w (.agg #[.bool s, .slice A0 n0 c0, .int .i64 x]) s m x := ⟨_, _, _, rfl, h⟩
 have fb := fit_bl hf
 refine fn_enter (u := 64) (fn := Tryz.f106) Tryz.func106 rfl Fws106_0 [.bool s, .slice A0 n0 c0, .int .i64 x] (by kernel_rfl) rfl (fun a0 S0 r0 => ?_)
 refine wp_seq (rk Rws106_3 [] Fws106_1 Bws106_2 S0 r0 ?_)
 intro _ _ _ r1 S1
 refine wp_seq (rk Rws106_5 [.st 1 0 (d3 3)] Fws106_4 Bws106_6 S1 r1 ?_)
 intro W2 _ r2 _
 show Calls Tryz.prog 102 #[.bool (!s), .slice A0 n0 c0, .int .i64 x] W2 _
 refine (form_all (!s) x (h.below r2.first).n (by omega) (by omega) (by omega) (tb hT r2)).mono ?_
 rintro _ V1 ⟨v, rfl, h1, k1⟩
 obtain ⟨b1, A1, n1, c1, x1, rfl⟩ := h1.ex
 replace h1 := h1.lower r2.fs
 refine ⟨[.bool b1, .slice A1 n1 c1, .int .i64 x1], rfl, rfl, rfl, k1, ?_⟩
 intro _ _ _ r3 S3
 exact rt S3 [.agg #[.bool b1, .slice A1 n1 c1, .int .i64 x1]] (⟨_, rfl, ⟨_, _, (h1.lat (r3.at_ 0 _ rfl)), (dv_not _ _ _).symm, (fit_bd hf).more (by decide)⟩, r3.first⟩)
def Fws99_0 := [dg 0, U, U, U, U]
def Fws99_1 := fs Fws99_0 [(1, ps 0 0), (2, lb false)]
def Bws99_2 := [bb 71 (d3 0)]
def Rws99_3 : Rg := ⟨2, 3, 0, Fws99_0, Bws99_2, [pa 0 0, pv (lb false) 0], []⟩
def Fws99_4 := fs Fws99_1 [(2, vb 3), (3, dg 0), (4, vb 3)]
def Rws99_5 : Rg := ⟨3, 3, 1, Fws99_1, Bws99_2, [pl (dg 0) 0 0 0, pc (vb 3) 0 65 [dg 0] 1, pv (vb 3) 1], [1]⟩
theorem dnright {v : Value} {s : Bool} {m : Nat} {x : Int} {w : World} (h : ADy w v s m x) :
 Calls Tryz.prog 99 #[v] w fun en w' => en = .returned (.bool (Fit m x)) ∧ BL w w' := by
 obtain ⟨A0, n0, c0, rfl, h⟩ := h
 have h : ADy w (.agg #[.bool s, .slice A0 n0 c0, .int .i64 x]) s m x := ⟨_, _, _, rfl, h⟩
 refine fn_enter (u := 64) (fn := Tryz.f99) Tryz.func99 rfl Fws99_0 [.bool s, .slice A0 n0 c0, .int .i64 x] (by kernel_rfl) rfl (fun a0 S0 r0 => ?_)
 refine wp_seq (rk Rws99_3 [] Fws99_1 Bws99_2 S0 r0 ?_)
 intro _ _ _ r1 S1
 refine wp_seq (rk Rws99_5 [] Fws99_4 Bws99_2 S1 r1 ?_)
 intro _ _ r2 _
 refine (fits_all (h.below r2.first)).mono ?_
 rintro _ V1 ⟨rfl, k1⟩
 refine ⟨[.bool (Fit m x)], rfl, rfl, rfl, k1, ?_⟩
 intro _ _ _ r3 S3
 exact rt S3 [.bool (Fit m x)] (⟨rfl, r3.first⟩)
def Fws61_0 := [dg 0, U, U, U, U]
def Fws61_1 := fs Fws61_0 [(1, ps 0 0), (2, ps 1 0)]
def Bws61_2 := [bb 71 (d3 0), bb 25 o3]
def Rws61_3 : Rg := ⟨2, 3, 0, Fws61_0, Bws61_2, [pa 0 0, pa 1 0], []⟩
def Fws61_4 := fs Fws61_1 [(3, dg 0), (4, dg 3)]
def Rws61_5 : Rg := ⟨2, 3, 2, Fws61_1, Bws61_2, [pl (dg 0) 0 0 0, pc (dg 3) 0 106 [dg 0] 3], [1]⟩
def Bws61_6 := [bb 71 (d3 0), bb 25 (d3 3)]
theorem dnturn {v : Value} {s : Bool} {m : Nat} {x : Int} {w : World} (h : ADy w v s m x) (hf : Fit m x = true) (hT : TB w) :
 Calls Tryz.prog 61 #[v] w fun en w' => ∃ v', en = .returned v' ∧ PQ w' w.heap.size v' (-Dv (sgn s m) x) 1000000 ∧ BL w w' := by
 obtain ⟨A0, n0, c0, rfl, h⟩ := h
 have h : ADy w (.agg #[.bool s, .slice A0 n0 c0, .int .i64 x]) s m x := ⟨_, _, _, rfl, h⟩
 refine fn_enter (u := 64) (fn := Tryz.f61) Tryz.func61 rfl Fws61_0 [.bool s, .slice A0 n0 c0, .int .i64 x] (by kernel_rfl) rfl (fun a0 S0 r0 => ?_)
 refine wp_seq (rk Rws61_3 [] Fws61_1 Bws61_2 S0 r0 ?_)
 intro _ _ _ r1 S1
 refine wp_seq (rk Rws61_5 [.st 1 0 (d3 3)] Fws61_4 Bws61_6 S1 r1 ?_)
 intro _ _ r2 _
 refine (pneg_g (h.below r2.first) hf (tb hT r2)).mono ?_
 rintro _ V1 ⟨v, rfl, h1, k1⟩
 obtain ⟨b1, A1, n1, c1, x1, rfl⟩ := h1.ex
 replace h1 := h1.lower r2.fs
 refine ⟨[.bool b1, .slice A1 n1 c1, .int .i64 x1], rfl, rfl, rfl, k1, ?_⟩
 intro _ _ _ r3 S3
 exact rt S3 [.agg #[.bool b1, .slice A1 n1 c1, .int .i64 x1]] (⟨_, rfl, (h1.lat (r3.at_ 0 _ rfl)), r3.first⟩)
def Fws98_0 := [dg 0, U, U, U, U, U]
def Fws98_1 := fs Fws98_0 [(1, ps 0 0), (2, lb false)]
def Bws98_2 := [bb 25 (d3 0)]
def Rws98_3 : Rg := ⟨2, 3, 0, Fws98_0, Bws98_2, [pa 0 0, pv (lb false) 0], []⟩
def Fws98_4 := fs Fws98_1 [(2, f1 noF (vb 3)), (3, dg 0), (4, vb 3), (5, f1 noF (vb 3))]
def Rws98_5 : Rg := ⟨4, 3, 1, Fws98_1, Bws98_2, [pl (dg 0) 0 0 0, pc (vb 3) 0 99 [dg 0] 1, pv (f1 noF (vb 3)) 1, pv (f1 noF (vb 3)) 1], [1]⟩
theorem dnot {v : Value} {s : Bool} {m : Nat} {x : Int} {w : World} (h : ADy w v s m x) (hf : Fit m x = true) :
 Calls Tryz.prog 98 #[v] w fun en w' => en = .returned (.bool false) ∧ BL w w' := by
 obtain ⟨A0, n0, c0, rfl, h⟩ := h
 have h : ADy w (.agg #[.bool s, .slice A0 n0 c0, .int .i64 x]) s m x := ⟨_, _, _, rfl, h⟩
 refine fn_enter (u := 64) (fn := Tryz.f98) Tryz.func98 rfl Fws98_0 [.bool s, .slice A0 n0 c0, .int .i64 x] (by kernel_rfl) rfl (fun a0 S0 r0 => ?_)
 refine wp_seq (rk Rws98_3 [] Fws98_1 Bws98_2 S0 r0 ?_)
 intro _ _ _ r1 S1
 refine wp_seq (rk Rws98_5 [] Fws98_4 Bws98_2 S1 r1 ?_)
 intro _ _ r2 _
 refine (dnright (h.below r2.first)).mono ?_
 rintro _ V1 ⟨rfl, k1⟩
 refine ⟨[.bool (Fit m x)], rfl, rfl, rfl, k1, ?_⟩
 intro _ _ _ r3 S3
 exact rt S3 [.bool (!(Fit m x))] (⟨by rw [hf]; rfl, r3.first⟩)
def Room (w : World) (b : Nat) (v : Value) (q : Rat) (why : Int) : Prop := (why = 0 ∧ PQ w b v q 1000000 ∧ FitQ q) ∨ (why = 3 ∧ v = .agg #[.bool false, .slice none 0 0, .int .i64 0] ∧ ¬ FitQ q)
theorem Room.ex3 {w' : World} {b : Nat} {v : Value} {q : Rat} {why : Int} (h : Room w' b v q why) : ∃ b A n c x, v = .agg #[.bool b, .slice A n c, .int .i64 x] := by
 rcases h with ⟨_, h, _⟩ | ⟨_, rfl, _⟩
 · exact h.ex
 · exact ⟨_, _, _, _, _, rfl⟩
theorem Room.lat {w w1 : World} {b : Nat} {v : Value} {q : Rat} {why : Int} (h : Room w b v q why) (hb : Lat 64 w w1) : Room w1 b v q why := by
 rcases h with ⟨h1, h2, h3⟩ | h
 · exact .inl ⟨h1, h2.lat hb, h3⟩
 · exact .inr h
theorem Room.lower {w : World} {b b' : Nat} {v : Value} {q : Rat} {why : Int} (h : Room w b v q why) (hb : b' ≤ b) : Room w b' v q why := by
 rcases h with ⟨h1, h2, h3⟩ | h
 · exact .inl ⟨h1, h2.lower hb, h3⟩
 · exact .inr h
def Fws100_0 := [dg 0, U, U, U, U, U, U, U, U]
def Fws100_1 := fs Fws100_0 [(1, ps 0 0), (2, ps 1 0), (3, li 0)]
def Bws100_2 := [bb 25 (d3 0), bb 25 o3]
def Rws100_3 : Rg := ⟨3, 3, 0, Fws100_0, Bws100_2, [pa 0 0, pa 1 0, pv (li 0) 0], []⟩
def Fws100_4 := fs Fws100_1 [(4, dg 0), (5, vb 3), (6, f1 noF (vb 3))]
def Rws100_5 : Rg := ⟨3, 3, 2, Fws100_1, Bws100_2, [pl (dg 0) 0 0 0, pc (vb 3) 0 65 [dg 0] 1, pv (f1 noF (vb 3)) 1], [1]⟩
def Fws100_6 := fs Fws100_4 [(3, li 3), (7, ag o3)]
def Rws100_7 : Rg := ⟨1, 4, 2, Fws100_4, Bws100_2, [pv (ag o3) 0], []⟩
def Fws100_8 := fs Fws100_4 [(8, dg 0)]
def Rws100_9 : Rg := ⟨1, 4, 2, Fws100_4, Bws100_2, [pl (dg 0) 0 0 0], []⟩
def Bws100_10 := [bb 25 (d3 0), bb 25 (d3 0)]
theorem droom {v : Value} {q : Rat} {b : Nat} {w : World} (h : PQ w b v q 1000000) :
 Calls Tryz.prog 100 #[v] w fun en w' => ∃ v' why, en = .returned (.tuple #[v', .int .i64 why]) ∧ Room w' b v' q why ∧ BL w w' := by
 obtain ⟨b0, A0, n0, c0, x0, rfl⟩ := h.ex
 refine fn_enter (u := 64) (fn := Tryz.f100) Tryz.func100 rfl Fws100_0 [.bool b0, .slice A0 n0 c0, .int .i64 x0] (by kernel_rfl) rfl (fun a0 S0 r0 => ?_)
 refine wp_seq (rk Rws100_3 [] Fws100_1 Bws100_2 S0 r0 ?_)
 intro _ _ _ r1 S1
 refine wp_seq ?_
 refine wp_seq (rk Rws100_5 [] Fws100_4 Bws100_2 S1 r1 ?_)
 intro _ _ r2 _
 refine (fits_q (h.below r2.first).c).mono ?_
 rintro _ V1 ⟨r, rfl, hr, k1⟩
 refine ⟨[.bool r], rfl, rfl, rfl, k1, ?_⟩
 intro _ _ _ r3 S3
 refine wp_cond_split (t := !r) (S3.cnd (by kernel_rfl)) (fun q1 => ?_) (fun q1 => ?_)
 · refine wp_seq (rk Rws100_7 [.st 1 0 o3, .mv (li 3)] Fws100_6 Bws100_2 S3 r3 ?_)
   intro a4 g4 W4 r4 S4
   exact wp_ret (then_ret (ret_ok S4 [.agg #[.bool false, .slice none 0 0, .int .i64 0], .int .i64 3] (by kernel_rfl) (⟨_, _, rfl, .inr ⟨rfl, rfl, fun hq => by rw [hr.2 hq] at q1; cases q1⟩, r4.first⟩)))
 · refine wp_skip ?_
   refine wp_seq (rk Rws100_9 [.st 1 0 (d3 0), .mv (li 0)] Fws100_8 Bws100_10 S3 r3 ?_)
   intro a4 g4 W4 r4 S4
   exact rt S4 [.agg #[.bool b0, .slice A0 n0 c0, .int .i64 x0], .int .i64 0] (⟨_, _, rfl, .inl ⟨rfl, (h.below r4.first), hr.1 (by simpa using q1)⟩, r4.first⟩)
theorem heap_lt {w : World} {g : Nat} {o : Obj} (h : w.heap[g]? = some o) : g < w.heap.size := by
 have := Array.getElem?_eq_some_iff.1 h; exact this.1
def Fws1_130_0 : List Sy := [osl (ps 0 0) 1, .lit (.func (.func 98) #[] #[]), U, U, U, U, U, U, U, U, U, U, U, U, U, U, U, U, U]
def Fws1_130_1 := fs Fws1_130_0 [(4, li 0)]
def Bws1_130_2 := [rb 25 (d3 0)]
def Rws1_130_3 : Rg := ⟨1, 3, 1, Fws1_130_0, Bws1_130_2, [pv (li 0) 0], []⟩
def Fws1_130_4 := fs Fws1_130_1 [(6, osl (ps 0 0) 1), (7, li 1), (8, li 0)]
def Rws1_130_5 : Rg := ⟨3, 3, 1, Fws1_130_1, Bws1_130_2, [pv (osl (ps 0 0) 1) 0, pv (li 1) 0, pv (li 0) 0], []⟩
def Lws1_130_6 (jj1 : List Value) : List Sy := [osl (ps 0 0) 1, .lit (.func (.func 98) #[] #[]), U, U, jw jj1 0, jw jj1 1, osl (ps 0 0) 1, li 1, li 0, jw jj1 2, jw jj1 3, jw jj1 4, jw jj1 5, jw jj1 6, jw jj1 7, jw jj1 8, jw jj1 9, jw jj1 10, jw jj1 11]
def Lws1_130_7 (jj1 : List Value) := fs (Lws1_130_6 jj1) [(8, li 1)]
def Jws1_130_8 : List Nat := [4, 5, 9, 10, 11, 12, 13, 14, 15, 16, 17, 18]
def Fws1_130_9 (jj1 : List Value) := fs (Lws1_130_6 jj1) [(9, lb true)]
def Rws1_130_10 (jj1 : List Value) : Rg := ⟨1, 3, 1, (Lws1_130_6 jj1), Bws1_130_2, [pv (lb true) 0], []⟩
def Fws1_130_11 (jj1 : List Value) := fs (Fws1_130_9 jj1) [(5, li 0), (10, li 0)]
def Rws1_130_12 (jj1 : List Value) : Rg := ⟨2, 3, 1, (Fws1_130_9 jj1), Bws1_130_2, [pv (li 0) 0, pv (li 0) 0], []⟩
def Fws1_130_13 (jj1 : List Value) := fs (Fws1_130_11 jj1) [(11, .lit (.func (.func 98) #[] #[])), (12, osl (ps 0 0) 1), (13, li 0), (14, ps 0 0), (15, dg 0), (16, vb 3)]
def Rws1_130_14 (jj1 : List Value) : Rg := ⟨6, 3, 1, (Fws1_130_11 jj1), Bws1_130_2, [pv (.lit (.func (.func 98) #[] #[])) 0, pv (osl (ps 0 0) 1) 0, pv (li 0) 0, pv (ps 0 0) 0, pl (dg 0) 0 0 0, pc (vb 3) 0 98 [dg 0] 1], [5]⟩
def Fws1_130_15 (jj1 : List Value) := fs (Fws1_130_13 jj1) [(8, li 1), (18, li 1)]
def Rws1_130_16 (jj1 : List Value) : Rg := ⟨1, 4, 1, (Fws1_130_13 jj1), Bws1_130_2, [pv (li 1) 0], []⟩
def Fws1_130_17 (jj1 : List Value) := fs (Lws1_130_7 jj1) [(9, lb false)]
def Rws1_130_18 (jj1 : List Value) : Rg := ⟨1, 3, 1, (Lws1_130_7 jj1), Bws1_130_2, [pv (lb false) 0], []⟩
def Fws1_130_19 (jj1 : List Value) := fs (Fws1_130_17 jj1) [(4, li (-1))]
def Rws1_130_20 (jj1 : List Value) : Rg := ⟨1, 3, 1, (Fws1_130_17 jj1), Bws1_130_2, [pv (li (-1)) 0], []⟩
theorem dindex_1 {s0 : Bool} {Ap0 : Option Addr} {np0 cp0 m0 : Nat} {x0 : Int} {g0 : Nat} {w : World} (hrow : w.heap[g0]? = some (.cells #[.bool s0, .slice Ap0 np0 cp0, .int .i64 x0] 25 (0, 0))) (h0 : ADy w (.agg #[.bool s0, .slice Ap0 np0 cp0, .int .i64 x0]) s0 m0 x0) (f0 : Fit m0 x0 = true) :
 Calls Tryz.prog 130 #[.slice (some ⟨g0, 0, none⟩) 1 1, .func (.func 98) #[] #[]] w fun en' w' => en' = .returned (.int .i64 (-1)) ∧ BL w w' := by
 refine fn_enter2 (u := 64) (fn := Tryz.f130) Tryz.func130 rfl Fws1_130_0 [rb 25 (d3 0)] [.bool s0, .slice Ap0 np0 cp0, .int .i64 x0] (fun _ => g0) (by kernel_rfl) rfl rfl (by
  intro b x hx
  match b, hx with
  | 0, hx => injection hx with hx; subst hx; exact hrow
  | b + 1, hx => simp at hx) (fun a0 S0 r0 => ?_)
 refine wp_seq (rk Rws1_130_3 [] Fws1_130_1 Bws1_130_2 S0 r0 ?_)
 intro _ _ _ r1 S1
 refine wp_seq ?_
 refine wp_seq (rk Rws1_130_5 [] Fws1_130_4 Bws1_130_2 S1 r1 ?_)
 intro _ _ _ r2 S2
 refine wp_block ?_
 refine wp_loop_n (fun n a W => match n with | 1 => ∃ (jj1 : List Value) (g : Nat → Nat), BL w W ∧ St w (Lws1_130_6 jj1) Bws1_130_2 [.bool s0, .slice Ap0 np0 cp0, .int .i64 x0] g a W | 0 => ∃ (jj1 : List Value) (g : Nat → Nat), BL w W ∧ St w (Lws1_130_7 jj1) Bws1_130_2 [.bool s0, .slice Ap0 np0 cp0, .int .i64 x0] g a W | _ => False) (n := 1) ⟨jv S2 Jws1_130_8, _, r2.first, St.to S2 [0] (by kernel_rfl) (by kernel_rfl) (by decide) rfl⟩ ?_
 intro n a W hI
 match n, hI with
 | 1, hI =>
   obtain ⟨jj1, g3, b3, S3⟩ := hI
   have r3 : Reach 64 w [W] W := .of_below b3
   refine wp_seq (rk (Rws1_130_10 jj1) [] (Fws1_130_9 jj1) Bws1_130_2 S3 r3 ?_)
   intro a4 g4 W4 r4 S4
   refine wp_seq ?_
   refine wp_cond_true (S4.cnd (by kernel_rfl)) ?_
   refine wp_skip ?_
   refine wp_seq ?_
   refine wp_block ?_
   refine wp_seq (rk (Rws1_130_12 jj1) [] (Fws1_130_11 jj1) Bws1_130_2 S4 r4 ?_)
   intro a5 g5 W5 r5 S5
   refine wp_seq (rk (Rws1_130_14 jj1) [] (Fws1_130_13 jj1) Bws1_130_2 S5 r5 ?_)
   intro _ _ r6 _
   refine (dnot (h0.below r6.first) f0).mono ?_
   rintro _ V1 ⟨rfl, k1⟩
   refine ⟨[.bool false], rfl, rfl, rfl, k1, ?_⟩
   intro _ _ _ r7 S7
   refine wp_cond_split (t := false) (S7.cnd (by kernel_rfl)) (fun q1 => ?_) (fun q1 => ?_)
   · cases q1
   · refine wp_skip ?_
     refine rk (Rws1_130_16 jj1) [.mv (li 1)] (Fws1_130_15 jj1) Bws1_130_2 S7 r7 ?_
     intro _ _ _ r8 S8
     exact ⟨0, by omega, jv S8 Jws1_130_8, _, r8.first, St.to S8 [0] (by kernel_rfl) (by kernel_rfl) (by decide) rfl⟩
 | 0, hI =>
   obtain ⟨jj1, g3, b3, S3⟩ := hI
   have r3 : Reach 64 w [W] W := .of_below b3
   refine wp_seq (rk (Rws1_130_18 jj1) [] (Fws1_130_17 jj1) Bws1_130_2 S3 r3 ?_)
   intro a4 g4 W4 r4 S4
   refine wp_seq ?_
   refine wp_cond_false (S4.cnd (by kernel_rfl)) ?_
   refine wp_exit (then_exit (then_exit (exit_in ?_)))
   refine wp_seq (rk (Rws1_130_20 jj1) [] (Fws1_130_19 jj1) Bws1_130_2 S4 r4 ?_)
   intro a5 g5 W5 r5 S5
   exact rt S5 [.int .i64 (-1)] (⟨rfl, r5.first⟩)
def Fws1_97_0 : List Sy := [osl (ps 0 0) 1, .lit (.func (.func 98) #[] #[]), U, U, U, U, U, U, U]
def Fws1_97_1 := fs Fws1_97_0 [(4, lb false)]
def Bws1_97_2 := [rb 25 (d3 0)]
def Rws1_97_3 : Rg := ⟨1, 3, 1, Fws1_97_0, Bws1_97_2, [pv (lb false) 0], []⟩
def Fws1_97_4 := fs Fws1_97_1 [(4, bo .geq (vi 3) (li 0)), (5, osl (ps 0 0) 1), (6, .lit (.func (.func 98) #[] #[])), (7, vi 3), (8, bo .geq (vi 3) (li 0))]
def Rws1_97_5 : Rg := ⟨5, 3, 1, Fws1_97_1, Bws1_97_2, [pv (osl (ps 0 0) 1) 0, pv (.lit (.func (.func 98) #[] #[])) 0, ⟨vi 3, 0, [], .cl 0 130 [osl (ps 0 0) 1, .lit (.func (.func 98) #[] #[])] 1 [0], vi 3⟩, pv (bo .geq (vi 3) (li 0)) 1, pv (bo .geq (vi 3) (li 0)) 1], [2]⟩
theorem dhas_1 {s0 : Bool} {Ap0 : Option Addr} {np0 cp0 m0 : Nat} {x0 : Int} {g0 : Nat} {w : World} (hrow : w.heap[g0]? = some (.cells #[.bool s0, .slice Ap0 np0 cp0, .int .i64 x0] 25 (0, 0))) (h0 : ADy w (.agg #[.bool s0, .slice Ap0 np0 cp0, .int .i64 x0]) s0 m0 x0) (f0 : Fit m0 x0 = true) :
 Calls Tryz.prog 97 #[.slice (some ⟨g0, 0, none⟩) 1 1, .func (.func 98) #[] #[]] w fun en' w' => en' = .returned (.bool false) ∧ BL w w' := by
 refine fn_enter2 (u := 64) (fn := Tryz.f97) Tryz.func97 rfl Fws1_97_0 [rb 25 (d3 0)] [.bool s0, .slice Ap0 np0 cp0, .int .i64 x0] (fun _ => g0) (by kernel_rfl) rfl rfl (by
  intro b x hx
  match b, hx with
  | 0, hx => injection hx with hx; subst hx; exact hrow
  | b + 1, hx => simp at hx) (fun a0 S0 r0 => ?_)
 refine wp_seq (rk Rws1_97_3 [] Fws1_97_1 Bws1_97_2 S0 r0 ?_)
 intro _ _ _ r1 S1
 refine wp_seq (rk Rws1_97_5 [] Fws1_97_4 Bws1_97_2 S1 r1 ?_)
 intro W2 g2 r2 q2
 refine (dindex_1 (g0 := g2 0) (q2 0 (by decide) _ rfl) (h0.below r2.first) f0).mono ?_
 rintro _ V1 ⟨rfl, k1⟩
 refine ⟨[.int .i64 (-1 : Int)], rfl, rfl, rfl, k1, ?_⟩
 intro _ _ _ r3 S3
 exact rt S3 [.bool (decide ((-1 : Int) ≥ 0))] (⟨rfl, r3.first⟩)
def Fws2_130_0 : List Sy := [osl (ps 0 0) 2, .lit (.func (.func 98) #[] #[]), U, U, U, U, U, U, U, U, U, U, U, U, U, U, U, U, U]
def Fws2_130_1 := fs Fws2_130_0 [(4, li 0)]
def Bws2_130_2 := [rb 25 (i6 0)]
def Rws2_130_3 : Rg := ⟨1, 6, 1, Fws2_130_0, Bws2_130_2, [pv (li 0) 0], []⟩
def Fws2_130_4 := fs Fws2_130_1 [(6, osl (ps 0 0) 2), (7, li 2), (8, li 0)]
def Rws2_130_5 : Rg := ⟨3, 6, 1, Fws2_130_1, Bws2_130_2, [pv (osl (ps 0 0) 2) 0, pv (li 2) 0, pv (li 0) 0], []⟩
def Lws2_130_6 (jj1 : List Value) : List Sy := [osl (ps 0 0) 2, .lit (.func (.func 98) #[] #[]), U, U, jw jj1 0, jw jj1 1, osl (ps 0 0) 2, li 2, li 0, jw jj1 2, jw jj1 3, jw jj1 4, jw jj1 5, jw jj1 6, jw jj1 7, jw jj1 8, jw jj1 9, jw jj1 10, jw jj1 11]
def Lws2_130_7 (jj1 : List Value) := fs (Lws2_130_6 jj1) [(8, li 1)]
def Lws2_130_8 (jj1 : List Value) := fs (Lws2_130_6 jj1) [(8, li 2)]
def Jws2_130_9 : List Nat := [4, 5, 9, 10, 11, 12, 13, 14, 15, 16, 17, 18]
def Fws2_130_10 (jj1 : List Value) := fs (Lws2_130_6 jj1) [(9, lb true)]
def Rws2_130_11 (jj1 : List Value) : Rg := ⟨1, 6, 1, (Lws2_130_6 jj1), Bws2_130_2, [pv (lb true) 0], []⟩
def Fws2_130_12 (jj1 : List Value) := fs (Fws2_130_10 jj1) [(5, li 0), (10, li 0)]
def Rws2_130_13 (jj1 : List Value) : Rg := ⟨2, 6, 1, (Fws2_130_10 jj1), Bws2_130_2, [pv (li 0) 0, pv (li 0) 0], []⟩
def Fws2_130_14 (jj1 : List Value) := fs (Fws2_130_12 jj1) [(11, .lit (.func (.func 98) #[] #[])), (12, osl (ps 0 0) 2), (13, li 0), (14, ps 0 0), (15, dg 0), (16, vb 6)]
def Rws2_130_15 (jj1 : List Value) : Rg := ⟨6, 6, 1, (Fws2_130_12 jj1), Bws2_130_2, [pv (.lit (.func (.func 98) #[] #[])) 0, pv (osl (ps 0 0) 2) 0, pv (li 0) 0, pv (ps 0 0) 0, pl (dg 0) 0 0 0, pc (vb 6) 0 98 [dg 0] 1], [5]⟩
def Fws2_130_16 (jj1 : List Value) := fs (Fws2_130_14 jj1) [(8, li 1), (18, li 1)]
def Rws2_130_17 (jj1 : List Value) : Rg := ⟨1, 7, 1, (Fws2_130_14 jj1), Bws2_130_2, [pv (li 1) 0], []⟩
def Fws2_130_18 (jj1 : List Value) := fs (Lws2_130_7 jj1) [(9, lb true)]
def Rws2_130_19 (jj1 : List Value) : Rg := ⟨1, 6, 1, (Lws2_130_7 jj1), Bws2_130_2, [pv (lb true) 0], []⟩
def Fws2_130_20 (jj1 : List Value) := fs (Fws2_130_18 jj1) [(5, li 1), (10, li 1)]
def Rws2_130_21 (jj1 : List Value) : Rg := ⟨2, 6, 1, (Fws2_130_18 jj1), Bws2_130_2, [pv (li 1) 0, pv (li 1) 0], []⟩
def Fws2_130_22 (jj1 : List Value) := fs (Fws2_130_20 jj1) [(11, .lit (.func (.func 98) #[] #[])), (12, osl (ps 0 0) 2), (13, li 1), (14, ps 0 3), (15, dg 3), (16, vb 6)]
def Rws2_130_23 (jj1 : List Value) : Rg := ⟨6, 6, 1, (Fws2_130_20 jj1), Bws2_130_2, [pv (.lit (.func (.func 98) #[] #[])) 0, pv (osl (ps 0 0) 2) 0, pv (li 1) 0, pv (ps 0 3) 0, pl (dg 3) 0 0 3, pc (vb 6) 0 98 [dg 3] 1], [5]⟩
def Fws2_130_24 (jj1 : List Value) := fs (Fws2_130_22 jj1) [(8, li 2), (18, li 2)]
def Rws2_130_25 (jj1 : List Value) : Rg := ⟨1, 7, 1, (Fws2_130_22 jj1), Bws2_130_2, [pv (li 2) 0], []⟩
def Fws2_130_26 (jj1 : List Value) := fs (Lws2_130_8 jj1) [(9, lb false)]
def Rws2_130_27 (jj1 : List Value) : Rg := ⟨1, 6, 1, (Lws2_130_8 jj1), Bws2_130_2, [pv (lb false) 0], []⟩
def Fws2_130_28 (jj1 : List Value) := fs (Fws2_130_26 jj1) [(4, li (-1))]
def Rws2_130_29 (jj1 : List Value) : Rg := ⟨1, 6, 1, (Fws2_130_26 jj1), Bws2_130_2, [pv (li (-1)) 0], []⟩
theorem dindex_2 {s0 : Bool} {Ap0 : Option Addr} {np0 cp0 m0 : Nat} {x0 : Int} {s1 : Bool} {Ap1 : Option Addr} {np1 cp1 m1 : Nat} {x1 : Int} {g0 : Nat} {w : World} (hrow : w.heap[g0]? = some (.cells #[.bool s0, .slice Ap0 np0 cp0, .int .i64 x0, .bool s1, .slice Ap1 np1 cp1, .int .i64 x1] 25 (0, 0))) (h0 : ADy w (.agg #[.bool s0, .slice Ap0 np0 cp0, .int .i64 x0]) s0 m0 x0) (f0 : Fit m0 x0 = true) (h1 : ADy w (.agg #[.bool s1, .slice Ap1 np1 cp1, .int .i64 x1]) s1 m1 x1) (f1 : Fit m1 x1 = true) :
 Calls Tryz.prog 130 #[.slice (some ⟨g0, 0, none⟩) 2 2, .func (.func 98) #[] #[]] w fun en' w' => en' = .returned (.int .i64 (-1)) ∧ BL w w' := by
 refine fn_enter2 (u := 64) (fn := Tryz.f130) Tryz.func130 rfl Fws2_130_0 [rb 25 (i6 0)] [.bool s0, .slice Ap0 np0 cp0, .int .i64 x0, .bool s1, .slice Ap1 np1 cp1, .int .i64 x1] (fun _ => g0) (by kernel_rfl) rfl rfl (by
  intro b x hx
  match b, hx with
  | 0, hx => injection hx with hx; subst hx; exact hrow
  | b + 1, hx => simp at hx) (fun a0 S0 r0 => ?_)
 refine wp_seq (rk Rws2_130_3 [] Fws2_130_1 Bws2_130_2 S0 r0 ?_)
 intro _ _ _ r1 S1
 refine wp_seq ?_
 refine wp_seq (rk Rws2_130_5 [] Fws2_130_4 Bws2_130_2 S1 r1 ?_)
 intro _ _ _ r2 S2
 refine wp_block ?_
 refine wp_loop_n (fun n a W => match n with | 2 => ∃ (jj1 : List Value) (g : Nat → Nat), BL w W ∧ St w (Lws2_130_6 jj1) Bws2_130_2 [.bool s0, .slice Ap0 np0 cp0, .int .i64 x0, .bool s1, .slice Ap1 np1 cp1, .int .i64 x1] g a W | 1 => ∃ (jj1 : List Value) (g : Nat → Nat), BL w W ∧ St w (Lws2_130_7 jj1) Bws2_130_2 [.bool s0, .slice Ap0 np0 cp0, .int .i64 x0, .bool s1, .slice Ap1 np1 cp1, .int .i64 x1] g a W | 0 => ∃ (jj1 : List Value) (g : Nat → Nat), BL w W ∧ St w (Lws2_130_8 jj1) Bws2_130_2 [.bool s0, .slice Ap0 np0 cp0, .int .i64 x0, .bool s1, .slice Ap1 np1 cp1, .int .i64 x1] g a W | _ => False) (n := 2) ⟨jv S2 Jws2_130_9, _, r2.first, St.to S2 [0] (by kernel_rfl) (by kernel_rfl) (by decide) rfl⟩ ?_
 intro n a W hI
 match n, hI with
 | 2, hI =>
   obtain ⟨jj1, g3, b3, S3⟩ := hI
   have r3 : Reach 64 w [W] W := .of_below b3
   refine wp_seq (rk (Rws2_130_11 jj1) [] (Fws2_130_10 jj1) Bws2_130_2 S3 r3 ?_)
   intro a4 g4 W4 r4 S4
   refine wp_seq ?_
   refine wp_cond_true (S4.cnd (by kernel_rfl)) ?_
   refine wp_skip ?_
   refine wp_seq ?_
   refine wp_block ?_
   refine wp_seq (rk (Rws2_130_13 jj1) [] (Fws2_130_12 jj1) Bws2_130_2 S4 r4 ?_)
   intro a5 g5 W5 r5 S5
   refine wp_seq (rk (Rws2_130_15 jj1) [] (Fws2_130_14 jj1) Bws2_130_2 S5 r5 ?_)
   intro W6 g6 r6 _
   refine (dnot (h0.below r6.first) f0).mono ?_
   rintro _ V1 ⟨rfl, k1⟩
   refine ⟨[.bool false], rfl, rfl, rfl, k1, ?_⟩
   intro a7 g7 W7 r7 S7
   refine wp_cond_split (t := false) (S7.cnd (by kernel_rfl)) (fun q1 => ?_) (fun q1 => ?_)
   · cases q1
   · refine wp_skip ?_
     refine rk (Rws2_130_17 jj1) [.mv (li 1)] (Fws2_130_16 jj1) Bws2_130_2 S7 r7 ?_
     intro a8 g8 W8 r8 S8
     exact ⟨1, by omega, jv S8 Jws2_130_9, _, r8.first, St.to S8 [0] (by kernel_rfl) (by kernel_rfl) (by decide) rfl⟩
 | 1, hI =>
   obtain ⟨jj1, g3, b3, S3⟩ := hI
   have r3 : Reach 64 w [W] W := .of_below b3
   refine wp_seq (rk (Rws2_130_19 jj1) [] (Fws2_130_18 jj1) Bws2_130_2 S3 r3 ?_)
   intro a4 g4 W4 r4 S4
   refine wp_seq ?_
   refine wp_cond_true (S4.cnd (by kernel_rfl)) ?_
   refine wp_skip ?_
   refine wp_seq ?_
   refine wp_block ?_
   refine wp_seq (rk (Rws2_130_21 jj1) [] (Fws2_130_20 jj1) Bws2_130_2 S4 r4 ?_)
   intro a5 g5 W5 r5 S5
   refine wp_seq (rk (Rws2_130_23 jj1) [] (Fws2_130_22 jj1) Bws2_130_2 S5 r5 ?_)
   intro W6 g6 r6 _
   refine (dnot (h1.below r6.first) f1).mono ?_
   rintro _ V2 ⟨rfl, k2⟩
   refine ⟨[.bool false], rfl, rfl, rfl, k2, ?_⟩
   intro a7 g7 W7 r7 S7
   refine wp_cond_split (t := false) (S7.cnd (by kernel_rfl)) (fun q1 => ?_) (fun q1 => ?_)
   · cases q1
   · refine wp_skip ?_
     refine rk (Rws2_130_25 jj1) [.mv (li 2)] (Fws2_130_24 jj1) Bws2_130_2 S7 r7 ?_
     intro a8 g8 W8 r8 S8
     exact ⟨0, by omega, jv S8 Jws2_130_9, _, r8.first, St.to S8 [0] (by kernel_rfl) (by kernel_rfl) (by decide) rfl⟩
 | 0, hI =>
   obtain ⟨jj1, g3, b3, S3⟩ := hI
   have r3 : Reach 64 w [W] W := .of_below b3
   refine wp_seq (rk (Rws2_130_27 jj1) [] (Fws2_130_26 jj1) Bws2_130_2 S3 r3 ?_)
   intro a4 g4 W4 r4 S4
   refine wp_seq ?_
   refine wp_cond_false (S4.cnd (by kernel_rfl)) ?_
   refine wp_exit (then_exit (then_exit (exit_in ?_)))
   refine wp_seq (rk (Rws2_130_29 jj1) [] (Fws2_130_28 jj1) Bws2_130_2 S4 r4 ?_)
   intro a5 g5 W5 r5 S5
   exact rt S5 [.int .i64 (-1)] (⟨rfl, r5.first⟩)
def Fws2_97_0 : List Sy := [osl (ps 0 0) 2, .lit (.func (.func 98) #[] #[]), U, U, U, U, U, U, U]
def Fws2_97_1 := fs Fws2_97_0 [(4, lb false)]
def Bws2_97_2 := [rb 25 (i6 0)]
def Rws2_97_3 : Rg := ⟨1, 6, 1, Fws2_97_0, Bws2_97_2, [pv (lb false) 0], []⟩
def Fws2_97_4 := fs Fws2_97_1 [(4, bo .geq (vi 6) (li 0)), (5, osl (ps 0 0) 2), (6, .lit (.func (.func 98) #[] #[])), (7, vi 6), (8, bo .geq (vi 6) (li 0))]
def Rws2_97_5 : Rg := ⟨5, 6, 1, Fws2_97_1, Bws2_97_2, [pv (osl (ps 0 0) 2) 0, pv (.lit (.func (.func 98) #[] #[])) 0, ⟨vi 6, 0, [], .cl 0 130 [osl (ps 0 0) 2, .lit (.func (.func 98) #[] #[])] 1 [0], vi 6⟩, pv (bo .geq (vi 6) (li 0)) 1, pv (bo .geq (vi 6) (li 0)) 1], [2]⟩
theorem dhas_2 {s0 : Bool} {Ap0 : Option Addr} {np0 cp0 m0 : Nat} {x0 : Int} {s1 : Bool} {Ap1 : Option Addr} {np1 cp1 m1 : Nat} {x1 : Int} {g0 : Nat} {w : World} (hrow : w.heap[g0]? = some (.cells #[.bool s0, .slice Ap0 np0 cp0, .int .i64 x0, .bool s1, .slice Ap1 np1 cp1, .int .i64 x1] 25 (0, 0))) (h0 : ADy w (.agg #[.bool s0, .slice Ap0 np0 cp0, .int .i64 x0]) s0 m0 x0) (f0 : Fit m0 x0 = true) (h1 : ADy w (.agg #[.bool s1, .slice Ap1 np1 cp1, .int .i64 x1]) s1 m1 x1) (f1 : Fit m1 x1 = true) :
 Calls Tryz.prog 97 #[.slice (some ⟨g0, 0, none⟩) 2 2, .func (.func 98) #[] #[]] w fun en' w' => en' = .returned (.bool false) ∧ BL w w' := by
 refine fn_enter2 (u := 64) (fn := Tryz.f97) Tryz.func97 rfl Fws2_97_0 [rb 25 (i6 0)] [.bool s0, .slice Ap0 np0 cp0, .int .i64 x0, .bool s1, .slice Ap1 np1 cp1, .int .i64 x1] (fun _ => g0) (by kernel_rfl) rfl rfl (by
  intro b x hx
  match b, hx with
  | 0, hx => injection hx with hx; subst hx; exact hrow
  | b + 1, hx => simp at hx) (fun a0 S0 r0 => ?_)
 refine wp_seq (rk Rws2_97_3 [] Fws2_97_1 Bws2_97_2 S0 r0 ?_)
 intro _ _ _ r1 S1
 refine wp_seq (rk Rws2_97_5 [] Fws2_97_4 Bws2_97_2 S1 r1 ?_)
 intro W2 g2 r2 q2
 refine (dindex_2 (g0 := g2 0) (q2 0 (by decide) _ rfl) (h0.below r2.first) f0 (h1.below r2.first) f1).mono ?_
 rintro _ V1 ⟨rfl, k1⟩
 refine ⟨[.int .i64 (-1 : Int)], rfl, rfl, rfl, k1, ?_⟩
 intro _ _ _ r3 S3
 exact rt S3 [.bool (decide ((-1 : Int) ≥ 0))] (⟨rfl, r3.first⟩)
def Fwo1_58_0 (fm : Nat) : List Sy := [.fn (clG fm) [dg 3], osl (ps 0 0) 1, U, U, U, U, U, U, U, U, U, U, U, U]
def Fwo1_58_1 (fm : Nat) : List Sy := fs (Fwo1_58_0 fm) [(4, ps 1 0), (5, li 0)]
def Bwo1_58_2 := [rb 25 (d3 0), bb 25 o3]
def Rwo1_58_3 (fm : Nat) : Rg := ⟨2, 6, 1, (Fwo1_58_0 fm), Bwo1_58_2, [pa 1 0, pv (li 0) 0], []⟩
def Fwo1_58_4 (fm : Nat) : List Sy := fs (Fwo1_58_1 fm) [(6, osl (ps 0 0) 1), (7, vb 6)]
def Rwo1_58_5 (fm : Nat) : Rg := ⟨2, 6, 2, (Fwo1_58_1 fm), Bwo1_58_2, [pv (osl (ps 0 0) 1) 0, ⟨vb 6, 0, [], .cl 0 97 [osl (ps 0 0) 1, .lit (.func (.func 98) #[] #[])] 1 [0], vb 6⟩], [1]⟩
def Fwo1_58_6 (fm : Nat) : List Sy := fs (Fwo1_58_4 fm) [(5, vi 13), (9, .fn (clG fm) [dg 3]), (10, dg 7), (11, tu [dg 10, vi 13]), (12, dg 10), (13, vi 13)]
def Rwo1_58_7 (fm : Nat) : Rg := ⟨5, 7, 2, (Fwo1_58_4 fm), Bwo1_58_2, [pv (.fn (clG fm) [dg 3]) 0, pc (dg 7) 0 fm [dg 3] 3, pc (tu [dg 10, vi 13]) 1 100 [dg 7] 4, pv (dg 10) 2, pv (vi 13) 2], [1, 2]⟩
def Bwo1_58_8 := [rb 25 (d3 0), bb 25 (d3 10)]
theorem dof_1 {fm : Nat} {sb : Bool} {Ab : Option Addr} {nb cb : Nat} {xb : Int} {s0 : Bool} {Ap0 : Option Addr} {np0 cp0 m0 : Nat} {x0 : Int} {g0 : Nat} {q : Rat} {w : World} (hrow : w.heap[g0]? = some (.cells #[.bool s0, .slice Ap0 np0 cp0, .int .i64 x0] 25 (0, 0))) (h0 : ADy w (.agg #[.bool s0, .slice Ap0 np0 cp0, .int .i64 x0]) s0 m0 x0) (f0 : Fit m0 x0 = true)
 (hent : Go.Proofs.Enters Tryz.prog fm) (hn : ∀ W, BL w W → Calls Tryz.prog fm #[.agg #[.bool sb, .slice Ab nb cb, .int .i64 xb]] W fun e W' => ∃ v', e = .returned v' ∧ PQ W' W.heap.size v' q 1000000 ∧ BL W W') :
 Calls Tryz.prog 58 #[.func (.func fm) #[.agg #[.bool sb, .slice Ab nb cb, .int .i64 xb]] #[], .slice (some ⟨g0, 0, none⟩) 1 1] w fun en' w' => ∃ v' why, en' = .returned (.tuple #[v', .int .i64 why]) ∧ Room w' w.heap.size v' q why ∧ BL w w' := by
 refine fn_enter2 (u := 64) (fn := Tryz.f58) Tryz.func58 rfl (Fwo1_58_0 fm) [rb 25 (d3 0)] [.bool s0, .slice Ap0 np0 cp0, .int .i64 x0, .bool sb, .slice Ab nb cb, .int .i64 xb] (fun _ => g0) (by kernel_rfl) rfl rfl (by
  intro b x hx
  match b, hx with
  | 0, hx => injection hx with hx; subst hx; exact hrow
  | b + 1, hx => simp at hx) (fun a0 S0 r0 => ?_)
 refine wp_seq (rk (Rwo1_58_3 fm) [] (Fwo1_58_1 fm) Bwo1_58_2 S0 r0 ?_)
 intro _ _ _ r1 S1
 refine wp_seq ?_
 refine wp_seq (rk (Rwo1_58_5 fm) [] (Fwo1_58_4 fm) Bwo1_58_2 S1 r1 ?_)
 intro W2 g2 r2 q2
 refine (dhas_1 (g0 := g2 0) (q2 0 (.head _) _ rfl) (h0.below r2.first) f0).mono ?_
 rintro _ V1 ⟨rfl, k1⟩
 refine ⟨[.bool false], rfl, rfl, rfl, k1, ?_⟩
 intro _ _ _ r3 S3
 refine wp_cond_split (t := false) (S3.cnd (by kernel_rfl)) (fun q1 => ?_) (fun q1 => ?_)
 · cases q1
 · refine wp_skip ?_
   refine wp_seq ?_
   refine region_ok (Rwo1_58_7 fm) [.st 1 0 (d3 10), .mv (vi 13)] (Fwo1_58_6 fm) Bwo1_58_8 mx (by kernel_rfl) (ents_of [fm, 100] (by kernel_rfl) ⟨hent, entB_ok (by kernel_rfl), trivial⟩) (fun E g => by kernel_rfl) (by kernel_rfl) S3 (by kernel_rfl) r3 ?_
   intro _ _ r4 _
   refine (hn _ r4.first).mono ?_
   rintro _ V2 ⟨v, rfl, hq, k2⟩
   obtain ⟨b2, A2, n2, c2, x2, rfl⟩ := hq.ex
   replace hq := hq.lower r4.fs
   refine ⟨[.bool b2, .slice A2 n2 c2, .int .i64 x2], rfl, rfl, rfl, k2, ?_⟩
   intro _ _ r5 _
   refine (droom (hq.lat (r5.at_ 1 _ rfl))).mono ?_
   rintro _ V3 ⟨v, why, rfl, hr, k3⟩
   obtain ⟨b3, A3, n3, c3, x3, rfl⟩ := hr.ex3
   replace hr := hr.lower (Nat.le_refl _)
   refine ⟨[.bool b3, .slice A3 n3 c3, .int .i64 x3, .int .i64 why], rfl, rfl, rfl, k3, ?_⟩
   intro _ _ _ r6 S6
   exact rt S6 [.agg #[.bool b3, .slice A3 n3 c3, .int .i64 x3], .int .i64 why] (⟨_, _, rfl, (hr.lat (r6.at_ 2 _ rfl)), r6.first⟩)
def Fwo2_58_0 (fm : Nat) (kp1 : Value) (kp2 : Value) : List Sy := [.fn (clF fm) [.lit (kp1), .lit (kp2)], osl (ps 0 0) 2, U, U, U, U, U, U, U, U, U, U, U, U]
def Fwo2_58_1 (fm : Nat) (kp1 : Value) (kp2 : Value) : List Sy := fs (Fwo2_58_0 fm kp1 kp2) [(4, ps 1 0), (5, li 0)]
def Bwo2_58_2 := [rb 25 (i6 0), bb 25 o3]
def Rwo2_58_3 (fm : Nat) (kp1 : Value) (kp2 : Value) : Rg := ⟨2, 6, 1, (Fwo2_58_0 fm kp1 kp2), Bwo2_58_2, [pa 1 0, pv (li 0) 0], []⟩
def Fwo2_58_4 (fm : Nat) (kp1 : Value) (kp2 : Value) : List Sy := fs (Fwo2_58_1 fm kp1 kp2) [(6, osl (ps 0 0) 2), (7, vb 6)]
def Rwo2_58_5 (fm : Nat) (kp1 : Value) (kp2 : Value) : Rg := ⟨2, 6, 2, (Fwo2_58_1 fm kp1 kp2), Bwo2_58_2, [pv (osl (ps 0 0) 2) 0, ⟨vb 6, 0, [], .cl 0 97 [osl (ps 0 0) 2, .lit (.func (.func 98) #[] #[])] 1 [0], vb 6⟩], [1]⟩
def Fwo2_58_6 (fm : Nat) (kp1 : Value) (kp2 : Value) : List Sy := fs (Fwo2_58_4 fm kp1 kp2) [(5, vi 13), (9, .fn (clF fm) [.lit (kp1), .lit (kp2)]), (10, dg 7), (11, tu [dg 10, vi 13]), (12, dg 10), (13, vi 13)]
def Rwo2_58_7 (fm : Nat) (kp1 : Value) (kp2 : Value) : Rg := ⟨5, 7, 2, (Fwo2_58_4 fm kp1 kp2), Bwo2_58_2, [pv (.fn (clF fm) [.lit (kp1), .lit (kp2)]) 0, pc (dg 7) 0 fm [.lit (kp1), .lit (kp2)] 3, pc (tu [dg 10, vi 13]) 1 100 [dg 7] 4, pv (dg 10) 2, pv (vi 13) 2], [1, 2]⟩
def Bwo2_58_8 := [rb 25 (i6 0), bb 25 (d3 10)]
theorem dof_2 {fm : Nat} {kp1 kp2 : Value} {s0 : Bool} {Ap0 : Option Addr} {np0 cp0 m0 : Nat} {x0 : Int} {s1 : Bool} {Ap1 : Option Addr} {np1 cp1 m1 : Nat} {x1 : Int} {g0 : Nat} {q : Rat} {w : World} (hrow : w.heap[g0]? = some (.cells #[.bool s0, .slice Ap0 np0 cp0, .int .i64 x0, .bool s1, .slice Ap1 np1 cp1, .int .i64 x1] 25 (0, 0))) (h0 : ADy w (.agg #[.bool s0, .slice Ap0 np0 cp0, .int .i64 x0]) s0 m0 x0) (f0 : Fit m0 x0 = true) (h1 : ADy w (.agg #[.bool s1, .slice Ap1 np1 cp1, .int .i64 x1]) s1 m1 x1) (f1 : Fit m1 x1 = true)
 (hent : Go.Proofs.Enters Tryz.prog fm) (hn : ∀ W, BL w W → Calls Tryz.prog fm #[kp1, kp2] W fun e W' => ∃ v', e = .returned v' ∧ PQ W' W.heap.size v' q 1000000 ∧ BL W W') :
 Calls Tryz.prog 58 #[.func (.func fm) #[] #[kp1, kp2], .slice (some ⟨g0, 0, none⟩) 2 2] w fun en' w' => ∃ v' why, en' = .returned (.tuple #[v', .int .i64 why]) ∧ Room w' w.heap.size v' q why ∧ BL w w' := by
 refine fn_enter2 (u := 64) (fn := Tryz.f58) Tryz.func58 rfl (Fwo2_58_0 fm kp1 kp2) [rb 25 (i6 0)] [.bool s0, .slice Ap0 np0 cp0, .int .i64 x0, .bool s1, .slice Ap1 np1 cp1, .int .i64 x1] (fun _ => g0) (by kernel_rfl) rfl rfl (by
  intro b x hx
  match b, hx with
  | 0, hx => injection hx with hx; subst hx; exact hrow
  | b + 1, hx => simp at hx) (fun a0 S0 r0 => ?_)
 refine wp_seq (rk (Rwo2_58_3 fm kp1 kp2) [] (Fwo2_58_1 fm kp1 kp2) Bwo2_58_2 S0 r0 ?_)
 intro _ _ _ r1 S1
 refine wp_seq ?_
 refine wp_seq (rk (Rwo2_58_5 fm kp1 kp2) [] (Fwo2_58_4 fm kp1 kp2) Bwo2_58_2 S1 r1 ?_)
 intro W2 g2 r2 q2
 refine (dhas_2 (g0 := g2 0) (q2 0 (.head _) _ rfl) (h0.below r2.first) f0 (h1.below r2.first) f1).mono ?_
 rintro _ V1 ⟨rfl, k1⟩
 refine ⟨[.bool false], rfl, rfl, rfl, k1, ?_⟩
 intro _ _ _ r3 S3
 refine wp_cond_split (t := false) (S3.cnd (by kernel_rfl)) (fun q1 => ?_) (fun q1 => ?_)
 · cases q1
 · refine wp_skip ?_
   refine wp_seq ?_
   refine region_ok (Rwo2_58_7 fm kp1 kp2) [.st 1 0 (d3 10), .mv (vi 13)] (Fwo2_58_6 fm kp1 kp2) Bwo2_58_8 mx (by kernel_rfl) (ents_of [fm, 100] (by kernel_rfl) ⟨hent, entB_ok (by kernel_rfl), trivial⟩) (fun E g => by kernel_rfl) (by kernel_rfl) S3 (by kernel_rfl) r3 ?_
   intro _ _ r4 _
   refine (hn _ r4.first).mono ?_
   rintro _ V2 ⟨v, rfl, hq, k2⟩
   obtain ⟨b2, A2, n2, c2, x2, rfl⟩ := hq.ex
   replace hq := hq.lower r4.fs
   refine ⟨[.bool b2, .slice A2 n2 c2, .int .i64 x2], rfl, rfl, rfl, k2, ?_⟩
   intro _ _ r5 _
   refine (droom (hq.lat (r5.at_ 1 _ rfl))).mono ?_
   rintro _ V3 ⟨v, why, rfl, hr, k3⟩
   obtain ⟨b3, A3, n3, c3, x3, rfl⟩ := hr.ex3
   replace hr := hr.lower (Nat.le_refl _)
   refine ⟨[.bool b3, .slice A3 n3 c3, .int .i64 x3, .int .i64 why], rfl, rfl, rfl, k3, ?_⟩
   intro _ _ _ r6 S6
   exact rt S6 [.agg #[.bool b3, .slice A3 n3 c3, .int .i64 x3], .int .i64 why] (⟨_, _, rfl, (hr.lat (r6.at_ 2 _ rfl)), r6.first⟩)
def Fwt59_0 := [ps 0 0, ps 1 0, U, U, U, U]
def Fwt59_1 := fs Fwt59_0 [(2, ps 2 0)]
def Bwt59_2 := [rb 25 (d3 0), rb 25 (d3 3), bb 25 o3]
def Rwt59_3 : Rg := ⟨1, 6, 2, Fwt59_0, Bwt59_2, [pa 2 0], []⟩
def Fwt59_4 := fs Fwt59_1 [(3, dg 0), (4, dg 3), (5, dg 6)]
def Rwt59_5 : Rg := ⟨3, 6, 3, Fwt59_1, Bwt59_2, [pl (dg 0) 0 0 0, pl (dg 3) 0 1 0, pc (dg 6) 0 60 [dg 0, dg 3] 3], [2]⟩
def Bwt59_6 := [rb 25 (d3 0), rb 25 (d3 3), bb 25 (d3 6)]
theorem dadd_1 {w W : World} {ga gb : Nat} {s s' : Bool} {A0 A9 : Option Addr} {n0 c0 n9 c9 m m' : Nat} {x x' : Int} (hb : BL w W) (b0 : w.heap[ga]? = some (.cells #[.bool s, .slice A0 n0 c0, .int .i64 x] 25 (0, 0))) (b1 : w.heap[gb]? = some (.cells #[.bool s', .slice A9 n9 c9, .int .i64 x'] 25 (0, 0)))
 (h : ADy W (.agg #[.bool s, .slice A0 n0 c0, .int .i64 x]) s m x) (h' : ADy W (.agg #[.bool s', .slice A9 n9 c9, .int .i64 x']) s' m' x') (hf : Fit m x = true) (hf' : Fit m' x' = true) (hT : TB W) :
 Calls Tryz.prog 59 #[.pointer (some ⟨ga, 0, none⟩), .pointer (some ⟨gb, 0, none⟩)] W fun e W' => ∃ v', e = .returned v' ∧ PQ W' W.heap.size v' (Dv (sgn s m) x + Dv (sgn s' m') x') 1000000 ∧ BL W W' := by
 have e0 := (hb.block _ (heap_lt b0)).trans b0
 have e1 := (hb.block _ (heap_lt b1)).trans b1
 refine fn_enter2 (u := 64) (fn := Tryz.f59) Tryz.func59 rfl Fwt59_0 [rb 25 (d3 0), rb 25 (d3 3)] [.bool s, .slice A0 n0 c0, .int .i64 x, .bool s', .slice A9 n9 c9, .int .i64 x'] (fun b => match b with | 0 => ga | _ => gb) (by kernel_rfl) rfl rfl (by
  intro b x hx
  match b, hx with
  | 0, hx => injection hx with hx; subst hx; exact e0
  | 1, hx => injection hx with hx; subst hx; exact e1
  | b + 2, hx => simp at hx) (fun a0 S0 r0 => ?_)
 refine wp_seq (rk Rwt59_3 [] Fwt59_1 Bwt59_2 S0 r0 ?_)
 intro _ _ _ r1 S1
 refine wp_seq (rk Rwt59_5 [.st 2 0 (d3 6)] Fwt59_4 Bwt59_6 S1 r1 ?_)
 intro _ _ r2 _
 refine (padd_g (h.below r2.first) (h'.below r2.first) hf hf' (tb hT r2)).mono ?_
 rintro _ V1 ⟨v, rfl, h3, k1⟩
 obtain ⟨b1, A1, n1, c1, x1, rfl⟩ := h3.ex
 replace h3 := h3.lower r2.fs
 refine ⟨[.bool b1, .slice A1 n1 c1, .int .i64 x1], rfl, rfl, rfl, k1, ?_⟩
 intro _ _ _ r3 S3
 exact rt S3 [.agg #[.bool b1, .slice A1 n1 c1, .int .i64 x1]] (⟨_, rfl, (h3.lat (r3.at_ 0 _ rfl)), r3.first⟩)
def Fws29_0 := [dg 0, dg 3, U, U, U, U, U, U, U, U, U, U, U]
def Fws29_1 := fs Fws29_0 [(2, ps 0 0), (3, ps 1 0), (4, ps 2 0), (5, li 0)]
def Bws29_2 := [bb 25 (d3 0), bb 25 (d3 3), bb 25 o3]
def Rws29_3 : Rg := ⟨4, 6, 0, Fws29_0, Bws29_2, [pa 0 0, pa 1 0, pa 2 0, pv (li 0) 0], []⟩
def Fws29_4 := fs Fws29_1 [(5, vi 9), (6, .fn (clF 59) [ps 0 0, ps 1 0]), (7, dg 0), (8, dg 3), (9, osl (ps 3 0) 2), (10, tu [dg 6, vi 9]), (11, dg 6), (12, vi 9)]
def Bws29_5 := [bb 25 (d3 0), bb 25 (d3 3), bb 25 o3, bb 25 (i6 0)]
def Rws29_6 : Rg := ⟨7, 6, 3, Fws29_1, Bws29_5, [pv (.fn (clF 59) [ps 0 0, ps 1 0]) 0, pl (dg 0) 0 0 0, pl (dg 3) 0 1 0, ⟨osl (ps 3 0) 2, 0, [3], .al 3, osl (ps 3 0) 2⟩, ⟨tu [dg 6, vi 9], 0, [], .cl 0 58 [.fn (clF 59) [ps 0 0, ps 1 0], osl (ps 3 0) 2] 4 [0, 1, 3], tu [dg 6, vi 9]⟩, pv (dg 6) 1, pv (vi 9) 1], [4]⟩
def Bws29_7 := [bb 25 (d3 0), bb 25 (d3 3), bb 25 (d3 6), bb 25 (i6 0)]
theorem dadd_g {u v : Value} {s s' : Bool} {m m' : Nat} {x x' : Int} {w : World} (h : ADy w u s m x) (h' : ADy w v s' m' x') (hf : Fit m x = true) (hf' : Fit m' x' = true) (hT : TB w) :
 Calls Tryz.prog 29 #[u, v] w fun en w' => ∃ v' why, en = .returned (.tuple #[v', .int .i64 why]) ∧ Room w' w.heap.size v' (Dv (sgn s m) x + Dv (sgn s' m') x') why ∧ BL w w' := by
 obtain ⟨A0, n0, c0, rfl, h⟩ := h
 have h : ADy w (.agg #[.bool s, .slice A0 n0 c0, .int .i64 x]) s m x := ⟨_, _, _, rfl, h⟩
 obtain ⟨A9, n9, c9, rfl, h'⟩ := h'
 have h' : ADy w (.agg #[.bool s', .slice A9 n9 c9, .int .i64 x']) s' m' x' := ⟨_, _, _, rfl, h'⟩
 refine fn_enter (u := 64) (fn := Tryz.f29) Tryz.func29 rfl Fws29_0 [.bool s, .slice A0 n0 c0, .int .i64 x, .bool s', .slice A9 n9 c9, .int .i64 x'] (by kernel_rfl) rfl (fun a0 S0 r0 => ?_)
 refine wp_seq (rk Rws29_3 [] Fws29_1 Bws29_2 S0 r0 ?_)
 intro _ _ _ r1 S1
 refine wp_seq (rk Rws29_6 [.st 2 0 (d3 6), .mv (vi 9)] Fws29_4 Bws29_7 S1 r1 ?_)
 intro W2 g2 r2 q2
 refine (dof_2 (g0 := g2 3) (q2 3 (by decide) _ rfl) (h.below r2.first) hf (h'.below r2.first) hf' (entB_ok (by kernel_rfl)) (fun W hb => dadd_1 hb (q2 0 (by decide) _ rfl) (q2 1 (by decide) _ rfl) ((h.below r2.first).below hb) ((h'.below r2.first).below hb) hf hf' (tab_below (tb hT r2) hb))).mono ?_
 rintro _ V1 ⟨v, why, rfl, hr, k1⟩
 obtain ⟨b1, A1, n1, c1, x1, rfl⟩ := hr.ex3
 replace hr := hr.lower r2.fs
 refine ⟨[.bool b1, .slice A1 n1 c1, .int .i64 x1, .int .i64 why], rfl, rfl, rfl, k1, ?_⟩
 intro _ _ _ r3 S3
 exact rt S3 [.agg #[.bool b1, .slice A1 n1 c1, .int .i64 x1], .int .i64 why] (⟨_, _, rfl, (hr.lat (r3.at_ 0 _ rfl)), r3.first⟩)
def Fws30_0 := [dg 0, U, U, U, U, U, U, U, U, U, U]
def Fws30_1 := fs Fws30_0 [(1, ps 0 0), (2, ps 1 0), (3, li 0)]
def Bws30_2 := [bb 25 (d3 0), bb 25 o3]
def Rws30_3 : Rg := ⟨3, 3, 0, Fws30_0, Bws30_2, [pa 0 0, pa 1 0, pv (li 0) 0], []⟩
def Fws30_4 := fs Fws30_1 [(3, vi 6), (4, dg 0), (5, .fn (clG 61) [dg 0]), (6, dg 0), (7, osl (ps 2 0) 1), (8, tu [dg 3, vi 6]), (9, dg 3), (10, vi 6)]
def Bws30_5 := [bb 25 (d3 0), bb 25 o3, bb 25 (d3 0)]
def Rws30_6 : Rg := ⟨7, 3, 2, Fws30_1, Bws30_5, [pl (dg 0) 0 0 0, pv (.fn (clG 61) [dg 0]) 0, pl (dg 0) 0 0 0, ⟨osl (ps 2 0) 1, 0, [2], .al 2, osl (ps 2 0) 1⟩, ⟨tu [dg 3, vi 6], 0, [], .cl 0 58 [.fn (clG 61) [dg 0], osl (ps 2 0) 1] 4 [2], tu [dg 3, vi 6]⟩, pv (dg 3) 1, pv (vi 6) 1], [4]⟩
def Bws30_7 := [bb 25 (d3 0), bb 25 (d3 3), bb 25 (d3 0)]
theorem dneg_g {v : Value} {s : Bool} {m : Nat} {x : Int} {w : World} (h : ADy w v s m x) (hf : Fit m x = true) (hT : TB w) :
 Calls Tryz.prog 30 #[v] w fun en w' => ∃ v' why, en = .returned (.tuple #[v', .int .i64 why]) ∧ Room w' w.heap.size v' (-Dv (sgn s m) x) why ∧ BL w w' := by
 obtain ⟨A0, n0, c0, rfl, h⟩ := h
 have h : ADy w (.agg #[.bool s, .slice A0 n0 c0, .int .i64 x]) s m x := ⟨_, _, _, rfl, h⟩
 refine fn_enter (u := 64) (fn := Tryz.f30) Tryz.func30 rfl Fws30_0 [.bool s, .slice A0 n0 c0, .int .i64 x] (by kernel_rfl) rfl (fun a0 S0 r0 => ?_)
 refine wp_seq (rk Rws30_3 [] Fws30_1 Bws30_2 S0 r0 ?_)
 intro _ _ _ r1 S1
 refine wp_seq (rk Rws30_6 [.st 1 0 (d3 3), .mv (vi 6)] Fws30_4 Bws30_7 S1 r1 ?_)
 intro W2 g2 r2 q2
 refine (dof_1 (g0 := g2 2) (q2 2 (by decide) _ rfl) (h.below r2.first) hf (entB_ok (by kernel_rfl)) (fun W hb => dnturn ((h.below r2.first).below hb) hf (tab_below (tb hT r2) hb))).mono ?_
 rintro _ V1 ⟨v, why, rfl, hr, k1⟩
 obtain ⟨b1, A1, n1, c1, x1, rfl⟩ := hr.ex3
 replace hr := hr.lower r2.fs
 refine ⟨[.bool b1, .slice A1 n1 c1, .int .i64 x1, .int .i64 why], rfl, rfl, rfl, k1, ?_⟩
 intro _ _ _ r3 S3
 exact rt S3 [.agg #[.bool b1, .slice A1 n1 c1, .int .i64 x1], .int .i64 why] (⟨_, _, rfl, (hr.lat (r3.at_ 0 _ rfl)), r3.first⟩)
open Go Go.RowKit Go.Proofs.YtkdicconchobfaaGreatDoorW.PrintWords Limb
theorem cgo {P : Program} {f : FuncId} {a l : Array Value} {W : World} {K : Ending → World → Prop} (h : a = l) (k : Calls P f l W K) : Calls P f a W K := h ▸ k
theorem yvk {v : Value} {b w : Bool} (h : v = .bool b) (c : yieldsV v = some w) : b = w := by rw [h] at c; exact yv c
theorem ynk {v : Value} {b w : Bool} (h : v = .bool b) (c : yieldsV v ≠ some w) : b = !w := by rw [h] at c; exact yn c
end Go.Proofs.YtkdicconchobfaaGreatDoor
