/- Part 6 of the library of this claim: what the program and the document compute, as contracts of their functions. -/
import Derived.Test.YtkdicconchobfaaGreatDoorZ5
import Derived.Test.YtkdicconchobfaaGreatDoorRows
import Derived.WalkKit
import Derived.ProofKit
import Derived.Deep.Slices
set_option maxRecDepth 100000
set_option maxHeartbeats 8000000
namespace Go.Proofs.YtkdicconchobfaaGreatDoor
open Go Go.RowKit Go.Proofs.YtkdicconchobfaaGreatDoorW.PrintWords Limb Exq
set_option linter.unusedVariables false
set_option linter.unusedSimpArgs false
def FaultP (fits : Prop) (p : Int) (q : Rat) (why : Int) : Prop :=
 (why = 2 ∧ ¬ (fits ∧ 8 ≤ p ∧ p ≤ 4096)) ∨ ((fits ∧ 8 ≤ p ∧ p ≤ 4096) ∧ ((why = 3 ∧ 16384 < ab q) ∨ (why = 0 ∧ ab q ≤ 16384)))
def DAsk (w' : World) (b : Nat) (fits : Prop) (p : Int) (q : Rat) (Sp : Nat → Rat → Rat → Rat → Prop) (v : Value) (why : Int) : Prop :=
 (why = 2 ∧ v = zI ∧ ¬ (fits ∧ 8 ≤ p ∧ p ≤ 4096)) ∨ ((fits ∧ 8 ≤ p ∧ p ≤ 4096) ∧ ((why = 3 ∧ v = zI ∧ 16384 < ab q) ∨ (why = 0 ∧ ab q ≤ 16384 ∧ ∃ l u, PI w' b v l u 1000000 ∧ Sp p.toNat q l u)))
theorem FaultP.no {fits : Prop} {p : Int} {q : Rat} {why : Int} {Sp : Nat → Rat → Rat → Rat → Prop} {w : World} {b : Nat} (h : FaultP fits p q why) (hw : (why != 0) = true) : DAsk w b fits p q Sp zI why := by
 rcases h with ⟨h1, h2⟩ | ⟨h0, ⟨h1, h2⟩ | ⟨h1, h2⟩⟩
 · exact .inl ⟨h1, rfl, h2⟩
 · exact .inr ⟨h0, .inl ⟨h1, rfl, h2⟩⟩
 · subst h1; cases hw
theorem FaultP.yes {fits : Prop} {p : Int} {q : Rat} {why : Int} (h : FaultP fits p q why) (hw : (why != 0) = false) : (fits ∧ 8 ≤ p ∧ p ≤ 4096) ∧ ab q ≤ 16384 := by
 rcases h with ⟨h1, h2⟩ | ⟨h0, ⟨h1, h2⟩ | ⟨h1, h2⟩⟩
 · subst h1; cases hw
 · subst h1; cases hw
 · exact ⟨h0, h2⟩
def Fuj34_0 := [dg 0, vi 3, U, U, U, U, U, U, U, U, U, U, U, U, U, U, U, U, U, U, U, U, U, U]
def Fuj34_1 := fs Fuj34_0 [(2, ps 0 0), (4, li 0)]
def Buj34_2 := [bb 25 (d3 0)]
def Ruj34_3 : Rg := ⟨2, 4, 0, Fuj34_0, Buj34_2, [pa 0 0, pv (li 0) 0], []⟩
def Fuj34_4 := fs Fuj34_1 [(6, dg 0), (7, vb 4), (8, f1 noF (vb 4)), (9, f1 noF (vb 4)), (10, gd false (f1 noF (vb 4)) (vi 3)), (11, gd false (f1 noF (vb 4)) (bo .lss (vi 3) (li 8))), (12, pk (f1 noF (vb 4)) (lb true) (bo .lss (vi 3) (li 8))), (13, pk (f1 noF (vb 4)) (lb true) (bo .lss (vi 3) (li 8))), (14, gd false (pk (f1 noF (vb 4)) (lb true) (bo .lss (vi 3) (li 8))) (vi 3)), (15, gd false (pk (f1 noF (vb 4)) (lb true) (bo .lss (vi 3) (li 8))) (bo .gtr (vi 3) (li 4096))), (16, pk (pk (f1 noF (vb 4)) (lb true) (bo .lss (vi 3) (li 8))) (lb true) (bo .gtr (vi 3) (li 4096)))]
def Ruj34_5 : Rg := ⟨11, 4, 1, Fuj34_1, Buj34_2, [pl (dg 0) 0 0 0, pc (vb 4) 0 17 [dg 0] 1, pv (f1 noF (vb 4)) 1, pv (f1 noF (vb 4)) 1, ⟨vi 3, 1, [], .val, gd false (f1 noF (vb 4)) (vi 3)⟩, ⟨bo .lss (vi 3) (li 8), 1, [], .val, gd false (f1 noF (vb 4)) (bo .lss (vi 3) (li 8))⟩, ⟨pk (f1 noF (vb 4)) (lb true) (bo .lss (vi 3) (li 8)), 1, [], .pk, pk (f1 noF (vb 4)) (lb true) (bo .lss (vi 3) (li 8))⟩, pv (pk (f1 noF (vb 4)) (lb true) (bo .lss (vi 3) (li 8))) 1, ⟨vi 3, 1, [], .val, gd false (pk (f1 noF (vb 4)) (lb true) (bo .lss (vi 3) (li 8))) (vi 3)⟩, ⟨bo .gtr (vi 3) (li 4096), 1, [], .val, gd false (pk (f1 noF (vb 4)) (lb true) (bo .lss (vi 3) (li 8))) (bo .gtr (vi 3) (li 4096))⟩, ⟨pk (pk (f1 noF (vb 4)) (lb true) (bo .lss (vi 3) (li 8))) (lb true) (bo .gtr (vi 3) (li 4096)), 1, [], .pk, pk (pk (f1 noF (vb 4)) (lb true) (bo .lss (vi 3) (li 8))) (lb true) (bo .gtr (vi 3) (li 4096))⟩], [1]⟩
def Fuj34_6 := fs Fuj34_4 [(4, li 2)]
def Ruj34_7 : Rg := ⟨1, 5, 1, Fuj34_4, Buj34_2, [pv (li 2) 0], []⟩
def Fuj34_8 := fs Fuj34_4 [(5, ps 1 0), (17, dg 0), (18, dg 5)]
def Buj34_9 := [bb 25 (d3 0), bb 25 o3]
def Ruj34_10 : Rg := ⟨3, 5, 1, Fuj34_4, Buj34_9, [pl (dg 0) 0 0 0, pc (dg 5) 0 44 [dg 0] 3, pa 1 0], [1]⟩
def Buj34_11 := [bb 25 (d3 0), bb 25 (d3 5)]
def Fuj34_12 := fs Fuj34_8 [(19, ps 1 0)]
def Ruj34_13 : Rg := ⟨1, 8, 2, Fuj34_8, Buj34_11, [pv (ps 1 0) 0], []⟩
def Buj34_14 := [bb 25 (d3 0), bb 25 [lb false, vs 6, vi 7]]
def Fuj34_15 := fs Fuj34_12 [(20, ag [lb false, vs 6, vi 7]), (21, dg 8), (22, vi 11), (23, bo .gtr (vi 11) (li 0))]
def Ruj34_16 : Rg := ⟨4, 8, 2, Fuj34_12, Buj34_14, [pl (ag [lb false, vs 6, vi 7]) 0 1 0, pc (dg 8) 0 21 [li 16384] 3, pc (vi 11) 1 26 [ag [lb false, vs 6, vi 7], dg 8] 1, pv (bo .gtr (vi 11) (li 0)) 2], [1, 2]⟩
def Fuj34_17 := fs Fuj34_15 [(4, li 3)]
def Ruj34_18 : Rg := ⟨1, 12, 2, Fuj34_15, Buj34_14, [pv (li 3) 0], []⟩
def Ruj34_19 : Rg := ⟨1, 12, 2, Fuj34_15, Buj34_14, [pv (li 0) 0], []⟩
theorem dfault_q {v : Value} {s : Bool} {m : Nat} {x p : Int} {w : World} (h : ADy w v s m x) (hT : TB w) :
 Calls Tryz.prog 34 #[v, .int .i64 p] w fun en w' => ∃ why, en = .returned (.int .i64 why) ∧ FaultP (Fit m x = true) p (Dv (sgn s m) x) why ∧ BL w w' := by
 obtain ⟨A0, n0, c0, rfl, h⟩ := h
 have h : ADy w (.agg #[.bool s, .slice A0 n0 c0, .int .i64 x]) s m x := ⟨_, _, _, rfl, h⟩
 refine fn_enter (u := 64) (fn := Tryz.f34) Tryz.func34 rfl Fuj34_0 [.bool s, .slice A0 n0 c0, .int .i64 x, .int .i64 p] (by kernel_rfl) rfl (fun a0 S0 r0 => ?_)
 refine wp_seq (rk Ruj34_3 [] Fuj34_1 Buj34_2 S0 r0 ?_)
 intro _ _ _ r1 S1
 refine wp_seq ?_
 refine wp_seq (rk Ruj34_5 [] Fuj34_4 Buj34_2 S1 r1 ?_)
 intro _ _ r2 _
 refine (dright_all (h.below r2.first)).mono ?_
 rintro _ V1 ⟨rfl, k1⟩
 refine ⟨[.bool (Fit m x)], rfl, rfl, rfl, k1, ?_⟩
 intro _ _ _ r3 S3
 refine wp_cond_split (t := if if !(Fit m x) then true else decide (p < 8) then true else decide (p > 4096)) (S3.cnd (by kernel_rfl)) (fun q1 => ?_) (fun q1 => ?_)
 · refine wp_seq (rk Ruj34_7 [] Fuj34_6 Buj34_2 S3 r3 ?_)
   intro _ g4 W4 r4 S4
   exact wp_ret (then_ret (ret_ok S4 [.int .i64 2] (by kernel_rfl) (⟨_, rfl, .inl ⟨rfl, ask_if.1 q1⟩, r4.first⟩)))
 · have hok : Fit m x = true ∧ 8 ≤ p ∧ p ≤ 4096 := Classical.byContradiction fun hc => by rw [ask_if.2 hc] at q1; cases q1
   obtain ⟨hfit, hp8, hp4⟩ := hok
   obtain ⟨hbl, hx1, hx2⟩ := fit_bl hfit
   refine wp_skip ?_
   refine wp_seq (rk Ruj34_10 [.st 1 0 (d3 5)] Fuj34_8 Buj34_11 S3 r3 ?_)
   intro W4 g4 r4 _
   refine (done_all (h.below r4.first) (by omega) (by omega) (by omega)).mono ?_
   rintro _ V2 ⟨v, rfl, h1, k2⟩
   obtain ⟨b2, A2, n2, c2, x2, rfl⟩ := h1.ex
   replace h1 := h1.lower r4.fs
   refine ⟨[.bool b2, .slice A2 n2 c2, .int .i64 x2], rfl, rfl, rfl, k2, ?_⟩
   have hB : Bd 65536 (sgn s m) x := bd_of hbl (by omega) (by omega)
   have hpz := h1.posq hB
   intro _ _ _ r5 S5
   refine wp_seq (rk Ruj34_13 [.st 1 0 [lb false]] Fuj34_12 Buj34_14 S5 r5 ?_)
   intro _ _ _ r6 S6
   refine wp_seq ?_
   refine wp_seq (rk Ruj34_16 [] Fuj34_15 Buj34_14 S6 r6 ?_)
   intro _ _ r7 _
   refine (dint_q 16384 _ (by decide) (by decide)).mono ?_
   rintro _ V3 ⟨v, rfl, h2, k3⟩
   obtain ⟨b3, A3, n3, c3, x3, rfl⟩ := h2.ex
   replace h2 := h2.lower r7.fs
   refine ⟨[.bool b3, .slice A3 n3 c3, .int .i64 x3], rfl, rfl, rfl, k3, ?_⟩
   intro _ _ r8 _
   refine (dorder_q (hpz.lat (r8.at_ 1 _ rfl)).c (h2.lat (r8.at_ 2 _ rfl)).c (by decide) (tb hT r8)).mono ?_
   rintro _ V4 ⟨rfl, k4⟩
   refine ⟨[.int .i64 (cmpQ (ab (Dv (sgn s m) x)) ((16384 : Int) : Rat))], rfl, rfl, rfl, k4, ?_⟩
   intro _ _ _ r9 S9
   refine wp_cond_split (t := decide ((cmpQ (ab (Dv (sgn s m) x)) ((16384 : Int) : Rat)) > 0)) (S9.cnd (by kernel_rfl)) (fun q2 => ?_) (fun q2 => ?_)
   · refine wp_seq (rk Ruj34_18 [] Fuj34_17 Buj34_14 S9 r9 ?_)
     intro a10 g10 W10 r10 S10
     exact wp_ret (then_ret (ret_ok S10 [.int .i64 3] (by kernel_rfl) (⟨_, rfl, .inr ⟨⟨hfit, hp8, hp4⟩, .inl ⟨rfl, by rw [cmp_gt] at q2; exact of_decide_eq_true q2⟩⟩, r10.first⟩)))
   · refine wp_skip ?_
     refine wp_seq (rk Ruj34_19 [] Fuj34_15 Buj34_14 S9 r9 ?_)
     intro a10 g10 W10 r10 S10
     exact rt S10 [.int .i64 0] (⟨_, rfl, .inr ⟨⟨hfit, hp8, hp4⟩, .inr ⟨rfl, by rw [cmp_gt] at q2; exact Rat.not_lt.1 (of_decide_eq_false q2)⟩⟩, r10.first⟩)
def Fuj10_0 := [dg 0, vi 3, U, U, U, U, U, U, U, U, U, U, U, U, U, U, U]
def Fuj10_1 := fs Fuj10_0 [(2, ps 0 0), (4, ps 1 0), (5, li 0)]
def Buj10_2 := [bb 25 (d3 0), bb 28 o6]
def Ruj10_3 : Rg := ⟨3, 4, 0, Fuj10_0, Buj10_2, [pa 0 0, pa 1 0, pv (li 0) 0], []⟩
def Fuj10_4 := fs Fuj10_1 [(6, vi 4), (7, dg 0), (8, vi 3), (9, vi 4)]
def Ruj10_5 : Rg := ⟨4, 4, 2, Fuj10_1, Buj10_2, [pl (dg 0) 0 0 0, pv (vi 3) 0, pc (vi 4) 0 34 [dg 0, vi 3] 1, pv (vi 4) 1], [2]⟩
def Fuj10_6 := fs Fuj10_4 [(10, vi 4), (11, bo .neq (vi 4) (li 0))]
def Ruj10_7 : Rg := ⟨2, 5, 2, Fuj10_4, Buj10_2, [pv (vi 4) 0, pv (bo .neq (vi 4) (li 0)) 0], []⟩
def Fuj10_8 := fs Fuj10_6 [(5, vi 4), (12, ag o6), (13, vi 4)]
def Ruj10_9 : Rg := ⟨2, 5, 2, Fuj10_6, Buj10_2, [pv (ag o6) 0, pv (vi 4) 0], []⟩
def Fuj10_10 := fs Fuj10_6 [(14, dg 0), (15, vi 3), (16, ig 5)]
def Ruj10_11 : Rg := ⟨3, 5, 2, Fuj10_6, Buj10_2, [pl (dg 0) 0 0 0, pv (vi 3) 0, pc (ig 5) 0 35 [dg 0, vi 3] 6], [2]⟩
def Buj10_12 := [bb 25 (d3 0), bb 28 (i6 5)]
theorem dexp_q {v : Value} {s : Bool} {m : Nat} {x p : Int} {w : World} (h : ADy w v s m x) (hT : TB w) :
 Calls Tryz.prog 10 #[v, .int .i64 p] w fun en w' => ∃ v' why, en = .returned (.tuple #[v', .int .i64 why]) ∧ DAsk w' w.heap.size (Fit m x = true) p (Dv (sgn s m) x) SpE v' why ∧ BL w w' := by
 obtain ⟨A0, n0, c0, rfl, h⟩ := h
 have h : ADy w (.agg #[.bool s, .slice A0 n0 c0, .int .i64 x]) s m x := ⟨_, _, _, rfl, h⟩
 refine fn_enter (u := 64) (fn := Tryz.f10) Tryz.func10 rfl Fuj10_0 [.bool s, .slice A0 n0 c0, .int .i64 x, .int .i64 p] (by kernel_rfl) rfl (fun a0 S0 r0 => ?_)
 refine wp_seq (rk Ruj10_3 [] Fuj10_1 Buj10_2 S0 r0 ?_)
 intro _ _ _ r1 S1
 refine wp_seq (rk Ruj10_5 [] Fuj10_4 Buj10_2 S1 r1 ?_)
 intro _ _ r2 _
 refine (dfault_q (p := p) (h.below r2.first) (tb hT r2)).mono ?_
 rintro _ V1 ⟨why, rfl, hf, k1⟩
 refine ⟨[.int .i64 why], rfl, rfl, rfl, k1, ?_⟩
 intro _ _ _ r3 S3
 refine wp_seq ?_
 refine wp_seq (rk Ruj10_7 [] Fuj10_6 Buj10_2 S3 r3 ?_)
 intro _ _ _ r4 S4
 refine wp_cond_split (t := why != 0) (S4.cnd (by kernel_rfl)) (fun q1 => ?_) (fun q1 => ?_)
 · refine wp_seq (rk Ruj10_9 [.st 1 0 o6, .mv (vi 4)] Fuj10_8 Buj10_2 S4 r4 ?_)
   intro _ g5 W5 r5 S5
   exact wp_ret (then_ret (ret_ok S5 [.agg #[.bool false, .slice none 0 0, .int .i64 0, .bool false, .slice none 0 0, .int .i64 0], .int .i64 why] (by kernel_rfl) (⟨_, _, rfl, hf.no q1, r5.first⟩)))
 · obtain ⟨hok, hab⟩ := hf.yes q1
   obtain ⟨hfit, hp8, hp4⟩ := hok
   have hok : Fit m x = true ∧ 8 ≤ p ∧ p ≤ 4096 := ⟨hfit, hp8, hp4⟩
   obtain ⟨hbl, hx1, hx2⟩ := fit_bl hfit
   obtain ⟨P, hP⟩ : ∃ P : Nat, p = (P : Int) := ⟨p.toNat, by omega⟩
   have hPn : p.toNat = P := by omega
   obtain ⟨hb1, hb2⟩ := ab_bounds hab
   refine wp_skip ?_
   refine wp_seq (rk Ruj10_11 [.st 1 0 (i6 5), .mv (li 0)] Fuj10_10 Buj10_12 S4 r4 ?_)
   intro W5 g5 r5 _
   have cw := dany_q (p := P) (h.below r5.first) (by omega) (by omega) (by omega) hb1 hb2 (by omega) (by omega) (tb hT r5)
   rw [← hP] at cw
   refine (cw).mono ?_
   rintro _ V2 ⟨v, l, u, rfl, h2, hs2, k2⟩
   obtain ⟨b2, A2, n2, c2, x2, d2, B2, m2, e2, y2, rfl⟩ := h2.ex
   replace h2 := h2.lower r5.fs
   refine ⟨[.bool b2, .slice A2 n2 c2, .int .i64 x2, .bool d2, .slice B2 m2 e2, .int .i64 y2], rfl, rfl, rfl, k2, ?_⟩
   intro _ _ _ r6 S6
   exact rt S6 [.agg #[.bool b2, .slice A2 n2 c2, .int .i64 x2, .bool d2, .slice B2 m2 e2, .int .i64 y2], .int .i64 0] (⟨_, _, rfl, .inr ⟨hok, .inr ⟨rfl, hab, l, u, (h2.lat (r6.at_ 1 _ rfl)).more (by decide), by rw [hPn]; exact hs2⟩⟩, r6.first⟩)
def Fuj15_0 := [dg 0, vi 3, U, U, U, U, U, U, U, U, U, U, U, U, U, U, U]
def Fuj15_1 := fs Fuj15_0 [(2, ps 0 0), (4, ps 1 0), (5, li 0)]
def Buj15_2 := [bb 25 (d3 0), bb 28 o6]
def Ruj15_3 : Rg := ⟨3, 4, 0, Fuj15_0, Buj15_2, [pa 0 0, pa 1 0, pv (li 0) 0], []⟩
def Fuj15_4 := fs Fuj15_1 [(6, vi 4), (7, dg 0), (8, vi 3), (9, vi 4)]
def Ruj15_5 : Rg := ⟨4, 4, 2, Fuj15_1, Buj15_2, [pl (dg 0) 0 0 0, pv (vi 3) 0, pc (vi 4) 0 34 [dg 0, vi 3] 1, pv (vi 4) 1], [2]⟩
def Fuj15_6 := fs Fuj15_4 [(10, vi 4), (11, bo .neq (vi 4) (li 0))]
def Ruj15_7 : Rg := ⟨2, 5, 2, Fuj15_4, Buj15_2, [pv (vi 4) 0, pv (bo .neq (vi 4) (li 0)) 0], []⟩
def Fuj15_8 := fs Fuj15_6 [(5, vi 4), (12, ag o6), (13, vi 4)]
def Ruj15_9 : Rg := ⟨2, 5, 2, Fuj15_6, Buj15_2, [pv (ag o6) 0, pv (vi 4) 0], []⟩
def Fuj15_10 := fs Fuj15_6 [(14, dg 0), (15, vi 3), (16, ig 5)]
def Ruj15_11 : Rg := ⟨3, 5, 2, Fuj15_6, Buj15_2, [pl (dg 0) 0 0 0, pv (vi 3) 0, pc (ig 5) 0 40 [dg 0, vi 3] 6], [2]⟩
def Buj15_12 := [bb 25 (d3 0), bb 28 (i6 5)]
theorem far_if {T : Int} : (if decide (T < -16384) = true then true else decide (T > 16384)) = decide (T < -16384 ∨ T > 16384) := by
 by_cases h : T < -16384
 · simp [h]
 · simp [h]
def Fuj18_0 := [dg 0, U, U, U, U, U, U, U, U, U, U, U, U, U, U]
def Fuj18_1 := fs Fuj18_0 [(1, ps 0 0), (2, lb false)]
def Buj18_2 := [bb 25 (d3 0)]
def Ruj18_3 : Rg := ⟨2, 3, 0, Fuj18_0, Buj18_2, [pa 0 0, pv (lb false) 0], []⟩
def Fuj18_4 := fs Fuj18_1 [(4, dg 0), (5, vb 3)]
def Ruj18_5 : Rg := ⟨2, 3, 1, Fuj18_1, Buj18_2, [pl (dg 0) 0 0 0, pc (vb 3) 0 42 [dg 0] 1], [1]⟩
def Ruj18_6 : Rg := ⟨1, 4, 1, Fuj18_4, Buj18_2, [pv (lb false) 0], []⟩
def Fuj18_7 := fs Fuj18_4 [(3, vi 7), (6, dg 0), (7, dg 4), (8, vi 7)]
def Ruj18_8 : Rg := ⟨4, 4, 1, Fuj18_4, Buj18_2, [pl (dg 0) 0 0 0, pc (dg 4) 0 44 [dg 0] 3, pc (vi 7) 1 43 [dg 4] 1, pv (vi 7) 2], [1, 2]⟩
def Fuj18_9 := fs Fuj18_7 [(2, pk (bo .lss (vi 7) (li (-16384))) (lb true) (bo .gtr (vi 7) (li 16384))), (9, vi 7), (10, bo .lss (vi 7) (li (-16384))), (11, bo .lss (vi 7) (li (-16384))), (12, gd false (bo .lss (vi 7) (li (-16384))) (vi 7)), (13, gd false (bo .lss (vi 7) (li (-16384))) (bo .gtr (vi 7) (li 16384))), (14, pk (bo .lss (vi 7) (li (-16384))) (lb true) (bo .gtr (vi 7) (li 16384)))]
def Ruj18_10 : Rg := ⟨7, 8, 1, Fuj18_7, Buj18_2, [pv (vi 7) 0, pv (bo .lss (vi 7) (li (-16384))) 0, pv (bo .lss (vi 7) (li (-16384))) 0, ⟨vi 7, 0, [], .val, gd false (bo .lss (vi 7) (li (-16384))) (vi 7)⟩, ⟨bo .gtr (vi 7) (li 16384), 0, [], .val, gd false (bo .lss (vi 7) (li (-16384))) (bo .gtr (vi 7) (li 16384))⟩, ⟨pk (bo .lss (vi 7) (li (-16384))) (lb true) (bo .gtr (vi 7) (li 16384)), 0, [], .pk, pk (bo .lss (vi 7) (li (-16384))) (lb true) (bo .gtr (vi 7) (li 16384))⟩, pv (pk (bo .lss (vi 7) (li (-16384))) (lb true) (bo .gtr (vi 7) (li 16384))) 0], []⟩
theorem dfar_q {v : Value} {s : Bool} {m : Nat} {x : Int} {w : World} (h : ADy w v s m x) (hfit : Fit m x = true) (hT : TB w) :
 Calls Tryz.prog 18 #[v] w fun en w' => ∃ r : Bool, en = .returned (.bool r) ∧ (r = false → Dv (sgn s m) x ≠ 0 → (2 : Rat) ^ (-16384 : Int) ≤ ab (Dv (sgn s m) x)) ∧ BL w w' := by
 obtain ⟨A0, n0, c0, rfl, h⟩ := h
 have h : ADy w (.agg #[.bool s, .slice A0 n0 c0, .int .i64 x]) s m x := ⟨_, _, _, rfl, h⟩
 obtain ⟨hbl, hx1, hx2⟩ := fit_bl hfit
 refine fn_enter (u := 64) (fn := Tryz.f18) Tryz.func18 rfl Fuj18_0 [.bool s, .slice A0 n0 c0, .int .i64 x] (by kernel_rfl) rfl (fun a0 S0 r0 => ?_)
 refine wp_seq (rk Ruj18_3 [] Fuj18_1 Buj18_2 S0 r0 ?_)
 intro _ _ _ r1 S1
 refine wp_seq ?_
 refine wp_seq (rk Ruj18_5 [] Fuj18_4 Buj18_2 S1 r1 ?_)
 intro _ _ r2 _
 refine (dzero_all (h.below r2.first) (by omega)).mono ?_
 rintro _ V1 ⟨rfl, k1⟩
 refine ⟨[.bool (decide (m = 0))], rfl, rfl, rfl, k1, ?_⟩
 intro _ _ _ r3 S3
 refine wp_cond_split (t := (decide (m = 0))) (S3.cnd (by kernel_rfl)) (fun q1 => ?_) (fun q1 => ?_)
 · refine wp_seq (rk Ruj18_6 [] Fuj18_4 Buj18_2 S3 r3 ?_)
   intro _ g4 W4 r4 S4
   exact wp_ret (then_ret (ret_ok S4 [.bool false] (by kernel_rfl) (⟨_, rfl, fun _ h0 => absurd (by rw [of_decide_eq_true q1, sgn_zero, Dv_zero]) h0, r4.first⟩)))
 · refine wp_skip ?_
   refine wp_seq (rk Ruj18_8 [] Fuj18_7 Buj18_2 S3 r3 ?_)
   intro W4 g4 r4 _
   refine (done_all (h.below r4.first) (by omega) (by omega) (by omega)).mono ?_
   rintro _ V2 ⟨v, rfl, h1, k2⟩
   obtain ⟨b2, A2, n2, c2, x2, rfl⟩ := h1.ex
   replace h1 := h1.lower r4.fs
   refine ⟨[.bool b2, .slice A2 n2 c2, .int .i64 x2], rfl, rfl, rfl, k2, ?_⟩
   have hB : Bd 65536 (sgn s m) x := bd_of hbl (by omega) (by omega)
   have ho : PQ _ w.heap.size _ (Dv (sgn s m) x) 65536 := ⟨_, _, h1, rfl, hB⟩
   intro _ _ r5 _
   refine (dtop_q (ho.lat (r5.at_ 1 _ rfl)).c (by omega)).mono ?_
   rintro _ V3 ⟨T, rfl, t0, t3, t4, k3⟩
   refine ⟨[.int .i64 T], rfl, rfl, rfl, k3, ?_⟩
   intro _ _ _ r6 S6
   refine wp_seq (rk Ruj18_10 [] Fuj18_9 Buj18_2 S6 r6 ?_)
   intro _ _ _ r7 S7
   exact rt S7 [.bool (if decide (T < (-16384)) then true else decide (T > 16384))] (⟨_, rfl, fun hr h0 => by rw [far_if] at hr; have := of_decide_eq_false hr; exact Rat.le_trans (pw_mono (by omega)) (t0 h0).1, r7.first⟩)
def Fuk37_0 := [ig 0, ig 6, vi 12, U, U, U, U, U, U, U, U, U, U, U, U, U, U, U, U, U, U, U, U, U, U, U, U, U, U, U, U, U, U, U, U, U]
def Fuk37_1 := fs Fuk37_0 [(3, ps 0 0), (4, ps 1 0), (6, lb false)]
def Buk37_2 := [bb 28 (i6 0), bb 28 (i6 6)]
def Ruk37_3 : Rg := ⟨3, 13, 0, Fuk37_0, Buk37_2, [pa 0 0, pa 1 0, pv (lb false) 0], []⟩
def Fuk37_4 := fs Fuk37_1 [(6, pk (pk (pk (pk (vb 13) (vb 20) (lb false)) (vb 21) (lb false)) (bo .leq (vi 22) (li 0)) (lb false)) (bo .leq (vi 23) (li 0)) (lb false)), (7, ig 0), (8, vb 13), (9, vb 13), (10, gd true (vb 13) (ig 0)), (11, gd true (vb 13) (ig 0)), (12, gd true (vb 13) (ig 14)), (13, gd true (vb 13) (vb 20)), (14, pk (vb 13) (vb 20) (lb false)), (15, pk (vb 13) (vb 20) (lb false)), (16, gd true (pk (vb 13) (vb 20) (lb false)) (ig 0)), (17, gd true (pk (vb 13) (vb 20) (lb false)) (vi 12)), (18, gd true (pk (vb 13) (vb 20) (lb false)) (vb 21)), (19, pk (pk (vb 13) (vb 20) (lb false)) (vb 21) (lb false)), (20, pk (pk (vb 13) (vb 20) (lb false)) (vb 21) (lb false)), (21, gd true (pk (pk (vb 13) (vb 20) (lb false)) (vb 21) (lb false)) (ps 0 0)), (22, gd true (pk (pk (vb 13) (vb 20) (lb false)) (vb 21) (lb false)) (dg 0)), (23, gd true (pk (pk (vb 13) (vb 20) (lb false)) (vb 21) (lb false)) (ps 1 3)), (24, gd true (pk (pk (vb 13) (vb 20) (lb false)) (vb 21) (lb false)) (dg 9)), (25, gd true (pk (pk (vb 13) (vb 20) (lb false)) (vb 21) (lb false)) (vi 22)), (26, gd true (pk (pk (vb 13) (vb 20) (lb false)) (vb 21) (lb false)) (bo .leq (vi 22) (li 0))), (27, pk (pk (pk (vb 13) (vb 20) (lb false)) (vb 21) (lb false)) (bo .leq (vi 22) (li 0)) (lb false)), (28, pk (pk (pk (vb 13) (vb 20) (lb false)) (vb 21) (lb false)) (bo .leq (vi 22) (li 0)) (lb false)), (29, gd true (pk (pk (pk (vb 13) (vb 20) (lb false)) (vb 21) (lb false)) (bo .leq (vi 22) (li 0)) (lb false)) (ps 1 0)), (30, gd true (pk (pk (pk (vb 13) (vb 20) (lb false)) (vb 21) (lb false)) (bo .leq (vi 22) (li 0)) (lb false)) (dg 6)), (31, gd true (pk (pk (pk (vb 13) (vb 20) (lb false)) (vb 21) (lb false)) (bo .leq (vi 22) (li 0)) (lb false)) (ps 0 3)), (32, gd true (pk (pk (pk (vb 13) (vb 20) (lb false)) (vb 21) (lb false)) (bo .leq (vi 22) (li 0)) (lb false)) (dg 3)), (33, gd true (pk (pk (pk (vb 13) (vb 20) (lb false)) (vb 21) (lb false)) (bo .leq (vi 22) (li 0)) (lb false)) (vi 23)), (34, gd true (pk (pk (pk (vb 13) (vb 20) (lb false)) (vb 21) (lb false)) (bo .leq (vi 22) (li 0)) (lb false)) (bo .leq (vi 23) (li 0))), (35, pk (pk (pk (pk (vb 13) (vb 20) (lb false)) (vb 21) (lb false)) (bo .leq (vi 22) (li 0)) (lb false)) (bo .leq (vi 23) (li 0)) (lb false))]
def Ruk37_5 : Rg := ⟨30, 13, 2, Fuk37_1, Buk37_2, [pl (ig 0) 0 0 0, pc (vb 13) 0 45 [ig 0] 1, pv (vb 13) 1, ⟨ig 0, 1, [], .ld 0 0, gd true (vb 13) (ig 0)⟩, ⟨ig 0, 1, [], .ld 0 0, gd true (vb 13) (ig 0)⟩, ⟨ig 14, 1, [], .cl 1 77 [ig 0] 6 [], gd true (vb 13) (ig 14)⟩, ⟨vb 20, 2, [], .cl 2 36 [ig 0, ig 14] 1 [], gd true (vb 13) (vb 20)⟩, ⟨pk (vb 13) (vb 20) (lb false), 3, [], .pk, pk (vb 13) (vb 20) (lb false)⟩, pv (pk (vb 13) (vb 20) (lb false)) 3, ⟨ig 0, 3, [], .ld 0 0, gd true (pk (vb 13) (vb 20) (lb false)) (ig 0)⟩, ⟨vi 12, 3, [], .val, gd true (pk (vb 13) (vb 20) (lb false)) (vi 12)⟩, ⟨vb 21, 3, [], .cl 3 78 [ig 0, vi 12] 1 [], gd true (pk (vb 13) (vb 20) (lb false)) (vb 21)⟩, ⟨pk (pk (vb 13) (vb 20) (lb false)) (vb 21) (lb false), 4, [], .pk, pk (pk (vb 13) (vb 20) (lb false)) (vb 21) (lb false)⟩, pv (pk (pk (vb 13) (vb 20) (lb false)) (vb 21) (lb false)) 4, ⟨ps 0 0, 4, [], .val, gd true (pk (pk (vb 13) (vb 20) (lb false)) (vb 21) (lb false)) (ps 0 0)⟩, ⟨dg 0, 4, [], .ld 0 0, gd true (pk (pk (vb 13) (vb 20) (lb false)) (vb 21) (lb false)) (dg 0)⟩, ⟨ps 1 3, 4, [], .val, gd true (pk (pk (vb 13) (vb 20) (lb false)) (vb 21) (lb false)) (ps 1 3)⟩, ⟨dg 9, 4, [], .ld 1 3, gd true (pk (pk (vb 13) (vb 20) (lb false)) (vb 21) (lb false)) (dg 9)⟩, ⟨vi 22, 4, [], .cl 4 26 [dg 0, dg 9] 1 [], gd true (pk (pk (vb 13) (vb 20) (lb false)) (vb 21) (lb false)) (vi 22)⟩, ⟨bo .leq (vi 22) (li 0), 5, [], .val, gd true (pk (pk (vb 13) (vb 20) (lb false)) (vb 21) (lb false)) (bo .leq (vi 22) (li 0))⟩, ⟨pk (pk (pk (vb 13) (vb 20) (lb false)) (vb 21) (lb false)) (bo .leq (vi 22) (li 0)) (lb false), 5, [], .pk, pk (pk (pk (vb 13) (vb 20) (lb false)) (vb 21) (lb false)) (bo .leq (vi 22) (li 0)) (lb false)⟩, pv (pk (pk (pk (vb 13) (vb 20) (lb false)) (vb 21) (lb false)) (bo .leq (vi 22) (li 0)) (lb false)) 5, ⟨ps 1 0, 5, [], .val, gd true (pk (pk (pk (vb 13) (vb 20) (lb false)) (vb 21) (lb false)) (bo .leq (vi 22) (li 0)) (lb false)) (ps 1 0)⟩, ⟨dg 6, 5, [], .ld 1 0, gd true (pk (pk (pk (vb 13) (vb 20) (lb false)) (vb 21) (lb false)) (bo .leq (vi 22) (li 0)) (lb false)) (dg 6)⟩, ⟨ps 0 3, 5, [], .val, gd true (pk (pk (pk (vb 13) (vb 20) (lb false)) (vb 21) (lb false)) (bo .leq (vi 22) (li 0)) (lb false)) (ps 0 3)⟩, ⟨dg 3, 5, [], .ld 0 3, gd true (pk (pk (pk (vb 13) (vb 20) (lb false)) (vb 21) (lb false)) (bo .leq (vi 22) (li 0)) (lb false)) (dg 3)⟩, ⟨vi 23, 5, [], .cl 5 26 [dg 6, dg 3] 1 [], gd true (pk (pk (pk (vb 13) (vb 20) (lb false)) (vb 21) (lb false)) (bo .leq (vi 22) (li 0)) (lb false)) (vi 23)⟩, ⟨bo .leq (vi 23) (li 0), 6, [], .val, gd true (pk (pk (pk (vb 13) (vb 20) (lb false)) (vb 21) (lb false)) (bo .leq (vi 22) (li 0)) (lb false)) (bo .leq (vi 23) (li 0))⟩, ⟨pk (pk (pk (pk (vb 13) (vb 20) (lb false)) (vb 21) (lb false)) (bo .leq (vi 22) (li 0)) (lb false)) (bo .leq (vi 23) (li 0)) (lb false), 6, [], .pk, pk (pk (pk (pk (vb 13) (vb 20) (lb false)) (vb 21) (lb false)) (bo .leq (vi 22) (li 0)) (lb false)) (bo .leq (vi 23) (li 0)) (lb false)⟩, pv (pk (pk (pk (pk (vb 13) (vb 20) (lb false)) (vb 21) (lb false)) (bo .leq (vi 22) (li 0)) (lb false)) (bo .leq (vi 23) (li 0)) (lb false)) 6], [1, 5, 6, 11, 18, 26]⟩
theorem dencl_q {u v : Value} {a b c d : Rat} {N M p : Nat} {w : World} (h : CI w u a b N) (h' : CI w v c d M) (ha : FitQ a) (hb : FitQ b) (hab : a ≤ b) (hn : NarQ p a b) (had : a ≤ d) (hcb : c ≤ b) (hN : N ≤ 1000001) (hM : M ≤ 1000001) (hp : p ≤ 100000) (hT : TB w) :
 Calls Tryz.prog 37 #[u, v, .int .i64 (p : Int)] w fun en w' => en = .returned (.bool true) ∧ BL w w' := by
 obtain ⟨b0, A0, n0, c0, x0, d0, B0, m0, e0, y0, rfl⟩ := h.ex
 obtain ⟨b9, A9, n9, c9, x9, d9, B9, m9, e9, y9, rfl⟩ := h'.ex
 refine fn_enter (u := 64) (fn := Tryz.f37) Tryz.func37 rfl Fuk37_0 [.bool b0, .slice A0 n0 c0, .int .i64 x0, .bool d0, .slice B0 m0 e0, .int .i64 y0, .bool b9, .slice A9 n9 c9, .int .i64 x9, .bool d9, .slice B9 m9 e9, .int .i64 y9, .int .i64 (p : Int)] (by kernel_rfl) rfl (fun a0 S0 r0 => ?_)
 refine wp_seq (rk Ruk37_3 [] Fuk37_1 Buk37_2 S0 r0 ?_)
 intro _ _ _ r1 S1
 refine wp_seq (rk Ruk37_5 [] Fuk37_4 Buk37_2 S1 r1 ?_)
 intro _ _ r2 _
 refine (dright_i (h.below r2.first) (by omega) (tb hT r2)).mono ?_
 rintro _ V1 ⟨r, rfl, hr, k1⟩
 obtain rfl : r = true := hr.2 ⟨ha, hb, hab⟩
 refine ⟨[.bool true], rfl, rfl, rfl, k1, ?_⟩
 refine ⟨fun c3 => ?_, fun c3 => ?_⟩
 · replace c3 := yv (b := true) c3
   intro _ _ r4 _
   refine (done_i (h.below r4.first) (by omega) (tb hT r4)).mono ?_
   rintro _ V2 ⟨v, rfl, h2, k2⟩
   obtain ⟨b2, A2, n2, c2, x2, d2, B2, m2, e2, y2, rfl⟩ := h2.ex
   replace h2 := h2.lower r4.fs
   refine ⟨[.bool b2, .slice A2 n2 c2, .int .i64 x2, .bool d2, .slice B2 m2 e2, .int .i64 y2], rfl, rfl, rfl, k2, ?_⟩
   refine ⟨fun c5 => ?_, fun c5 => ?_⟩
   · replace c5 := yv (b := true) c5
     intro _ _ r6 _
     refine (dsame_i (h.below r6.first) (h2.lat (r6.at_ 1 _ rfl)).c (by omega) (tb hT r6)).mono ?_
     rintro _ V3 ⟨r, rfl, hr, k3⟩
     obtain rfl : r = true := hr.2 ⟨rfl, rfl⟩
     refine ⟨[.bool true], rfl, rfl, rfl, k3, ?_⟩
     refine ⟨fun c7 => ?_, fun c7 => ?_⟩
     · replace c7 := yv (b := if true then true else false) c7
       intro _ _ r8 _
       refine (dnarrow_i (h.below r8.first) ha hb hab hn hN hp (tb hT r8)).mono ?_
       rintro _ V4 ⟨rfl, k4⟩
       refine ⟨[.bool true], rfl, rfl, rfl, k4, ?_⟩
       refine ⟨fun c9 => ?_, fun c9 => ?_⟩
       · replace c9 := yv (b := if if true then true else false then true else false) c9
         intro _ _ r10 _
         refine (dorder_q (h.below r10.first).lo (h'.below r10.first).hi (by omega) (tb hT r10)).mono ?_
         rintro _ V5 ⟨rfl, k5⟩
         refine ⟨[.int .i64 (cmpQ a d)], rfl, rfl, rfl, k5, ?_⟩
         refine ⟨fun c11 => ?_, fun c11 => ?_⟩
         · replace c11 := yv (b := if if if true then true else false then true else false then decide ((cmpQ a d) ≤ 0) else false) c11
           intro _ _ r12 _
           refine (dorder_q (h'.below r12.first).lo (h.below r12.first).hi (by omega) (tb hT r12)).mono ?_
           rintro _ V6 ⟨rfl, k6⟩
           refine ⟨[.int .i64 (cmpQ c b)], rfl, rfl, rfl, k6, ?_⟩
           intro _ _ _ r13 S13
           exact rt S13 [.bool (if if if if true then true else false then true else false then decide ((cmpQ a d) ≤ 0) else false then decide ((cmpQ c b) ≤ 0) else false)] (⟨by simp only [cmp_le hcb, cmp_le had, if_pos]; rfl, r13.first⟩)
         · replace c11 := yn (b := if if if true then true else false then true else false then decide ((cmpQ a d) ≤ 0) else false) c11
           simp [cmp_le had] at c11
       · replace c9 := yn (b := if if true then true else false then true else false) c9
         simp at c9
     · replace c7 := yn (b := if true then true else false) c7
       simp at c7
   · replace c5 := yn (b := true) c5
     simp at c5
 · replace c3 := yn (b := true) c3
   simp at c3
theorem fit_of {P M : Nat} {q : Rat} (h : Short P q) (hP : P ≤ 8000) (hM : M ≤ 24700) (h0 : (((2 ^ M : Nat) : Rat))⁻¹ ≤ ab q) (h1 : ab q ≤ ((2 ^ M : Nat) : Rat)) : FitQ q := by
 obtain ⟨y, f, rfl, hy⟩ := h
 refine fitq_iff.2 ?_
 have hc : cman y ≤ 2 ^ P := Nat.le_trans (Nat.div_le_self _ _) hy
 have b1 : bl (cman y) ≤ P + 1 := bl_le_iff.2 (Nat.lt_of_le_of_lt hc (Nat.pow_lt_pow_right (by decide) (by omega)))
 have hl : (limbs (cman y)).length ≤ 1024 := len_le (by omega)
 have hu : (0 : Rat) < (((2 ^ M : Nat) : Rat))⁻¹ := Rat.inv_pos.2 (upos (Nat.two_pow_pos M))
 rw [ab_Dv] at h0 h1
 have hpos : 0 < (y.natAbs : Int) := Dv_pos.1 (show 0 < Dv (y.natAbs : Int) f by grind)
 obtain ⟨t1, t2⟩ := top_pure (e := f) hpos
 rw [cman_ab, cexp_ab] at t1 t2
 rw [inv_pow] at h0
 rw [← two_w] at h1
 have a1 := pw_le (Rat.le_trans t1 h1)
 have t3 : (2 : Rat) ^ (-(M : Int)) < (2 : Rat) ^ (cexp y f + (bl (cman y) : Int) - 1 + 1) := by grind
 have a2 := pw_lt t3
 have b1 : bl (cman y) ≤ P + 1 := bl_le_iff.2 (Nat.lt_of_le_of_lt hc (Nat.pow_lt_pow_right (by decide) (by omega)))
 exact decide_eq_true ⟨hl, by omega, by omega⟩
theorem fit_zero : FitQ 0 := ⟨0, 0, (Dv_zero 0).symm, by rw [cman_zero, cexp_zero]; exact decide_eq_true ⟨by simp [limbs], by omega, by omega⟩⟩
structure LawSp (Sp : Nat → Rat → Rat → Rat → Prop) (far : Bool) : Prop where
 ok : ∀ P q l u l' u', 8 ≤ P → P ≤ 4096 → ab q ≤ 16384 → Sp P q l u → CutOf false l l' (ep (P + 8)) → CutOf true u u' (ep (P + 8)) → l' ≤ u' ∧ NarQ P l' u'
 fit : ∀ P q l u l' u', 8 ≤ P → P ≤ 4096 → ab q ≤ 16384 → Sp P q l u → CutOf false l l' (ep (P + 8)) → CutOf true u u' (ep (P + 8)) → Short (P + 8) l' → Short (P + 8) u' → (far = true → q = 0 ∨ (2 : Rat) ^ (-16384 : Int) ≤ ab q) → FitQ l' ∧ FitQ u'
 meet : ∀ P q l u l' u' c d, ab q ≤ 16384 → Sp P q l u → CutOf false l l' (ep (P + 8)) → CutOf true u u' (ep (P + 8)) → Sp P q c d → l' ≤ d ∧ c ≤ u'
theorem cut_err {P : Nat} {d : Rat} (h : d ≤ ep (P + 30)) : d + 5 * ep (P + 8) ≤ ep (P + 1) := by
 have h1 := ep_six (a := P + 30) (b := P + 8) (k := P + 5) (by omega) (by omega)
 have h2 := ep_le (p := P + 1) (q := P + 5) (by omega)
 grind
theorem nar_pow {lo hi d : Rat} {P : Nat} (h : Nar lo hi d) (hd : d ≤ ep (P + 1)) : (hi - lo) * (2 : Rat) ^ (P : Int) ≤ lo := by
 rw [two_w]; exact h.narrow hd
theorem nar_two {lo hi d : Rat} {P : Nat} (h : Nar lo hi d) (hd : d ≤ ep (P + 1)) : hi ≤ lo * 2 := by
 have e := ep_small (p := P + 1) (by omega)
 have := Rat.mul_le_mul_of_nonneg_left (Rat.le_trans hd e) (Rat.le_of_lt h.1)
 have := h.2
 grind
theorem ab_le' {q M : Rat} (h : ab q ≤ M) : -M ≤ q ∧ q ≤ M := by
 unfold ab at h
 split at h <;> constructor <;> grind
theorem lawE : LawSp SpE false := by
 have cut : ∀ {P q l u l' u'}, 8 ≤ P → SpE P q l u → CutOf false l l' (ep (P + 8)) → CutOf true u u' (ep (P + 8)) → Enc l' u' q (ep (P + 1)) := by
  intro P q l u l' u' hP h c1 c2
  have h := Enc.cut (show Enc l u q (ep (P + 49)) from h) c1 c2 (Rat.le_of_lt (ep_pos _)) (ep_small (by omega)) (Rat.le_of_lt (ep_pos _)) (ep8 (by omega))
  exact ⟨h.1, h.2.more (cut_err (ep_le (by omega)))⟩
 refine ⟨?_, ?_, ?_⟩
 · intro P q l u l' u' h8 h40 hq h c1 c2
   have e := cut h8 h c1 c2
   exact ⟨e.1.2.1, .inr (.inl ⟨e.1.1, nar_pow e.2 Rat.le_refl⟩)⟩
 · intro P q l u l' u' h8 h40 hq h c1 c2 s1 s2 _
   have e := cut h8 h c1 c2
   obtain ⟨n, hn⟩ : ∃ n, n = 8192 := ⟨_, rfl⟩
   obtain ⟨b1, b2⟩ := ab_le' hq
   obtain ⟨q1, q2⟩ := enc_size hn e (by omega) b1 b2
   have p1 := e.1.1
   have p2 := e.1.2.1
   have a1 : ab l' = l' := ab_of (Rat.le_of_lt p1)
   have a2 : ab u' = u' := ab_of (by grind)
   exact ⟨fit_of s1 (by omega) (M := 3 * n + 1) (by omega) (by rw [a1]; exact q1) (by rw [a1]; exact Rat.le_trans p2 q2), fit_of s2 (by omega) (M := 3 * n + 1) (by omega) (by rw [a2]; exact Rat.le_trans q1 p2) (by rw [a2]; exact q2)⟩
 · intro P q l u l' u' c d hq h c1 c2 h'
   have m := Exs.meet (show Enc l u q (ep (P + 49)) from h).1 (show Enc c d q (ep (P + 49)) from h').1
   exact ⟨Rat.le_trans c1.le m.1, Rat.le_trans m.2 c2.ge⟩
theorem cut_zero {up : Bool} {c e : Rat} (h : CutOf up 0 c e) : c = 0 := by
 have h1 := h.1 Rat.le_refl
 cases up
 · have := h1.1; have := h1.2; grind
 · have := h1.1; have := h1.2; grind
theorem le1_cut {P : Nat} {q l u l' u' : Rat} (hP : 8 ≤ P) (h : Le1 (P + 30) q l u) (hq : q ≠ 0) (c1 : CutOf false l l' (ep (P + 8))) (c2 : CutOf true u u' (ep (P + 8))) : (0 < q ∧ Nar l' u' (ep (P + 1))) ∨ (q < 0 ∧ Nar (-u') (-l') (ep (P + 1))) := by
 obtain ⟨a, b, e1, e2, e3⟩ := h.encl
 have hab := e1.2.1
 have hlu : l ≤ u := by grind
 by_cases hp : 0 < q
 · have n := h.pos hp
   have l0 := n.1
   have d1 := c1.1 (Rat.le_of_lt l0)
   have d2 := c2.1 (Rat.le_trans (Rat.le_of_lt l0) hlu)
   exact .inl ⟨hp, (Nar.cut n d1 d2 (Rat.le_of_lt (ep_pos _)) (ep_small (by omega)) (Rat.le_of_lt (ep_pos _)) (ep8 (by omega))).more (cut_err Rat.le_refl)⟩
 · have hn : q < 0 := by grind
   have n := h.neg hn
   have u0 := n.1
   have d1 := c1.2 (by grind)
   have d2 := c2.2 (by grind)
   exact .inr ⟨hn, (Nar.cut n d2 d1 (Rat.le_of_lt (ep_pos _)) (ep_small (by omega)) (Rat.le_of_lt (ep_pos _)) (ep8 (by omega))).more (cut_err Rat.le_refl)⟩
theorem lawL : LawSp SpL true := by
 refine ⟨?_, ?_, ?_⟩
 · intro P q l u l' u' h8 h40 hq h c1 c2
   rcases h with ⟨rfl, rfl, rfl⟩ | ⟨hne, h⟩
   · rw [cut_zero c1, cut_zero c2]
     exact ⟨Rat.le_refl, .inl ⟨rfl, rfl⟩⟩
   · obtain ⟨a, b, e1, e2, e3⟩ := h.encl
     have hab := e1.2.1
     have o1 := c1.le
     have o2 := c2.ge
     refine ⟨by grind, ?_⟩
     rcases le1_cut h8 h hne c1 c2 with ⟨hp, n⟩ | ⟨hn, n⟩
     · exact .inr (.inl ⟨n.1, nar_pow n Rat.le_refl⟩)
     · refine .inr (.inr ⟨by have := n.1; grind, ?_⟩)
       have := nar_pow n Rat.le_refl
       rw [show u' - l' = -l' - -u' by grind]; exact this
 · intro P q l u l' u' h8 h40 hq h c1 c2 s1 s2 hfar
   rcases h with ⟨rfl, rfl, rfl⟩ | ⟨hne, h⟩
   · rw [cut_zero c1, cut_zero c2]
     exact ⟨fit_zero, fit_zero⟩
   · have hbig := (hfar rfl).resolve_left hne
     obtain ⟨a, b, e1, e2, e3⟩ := h.encl
     obtain ⟨b1, b2⟩ := ab_le' hq
     have o1 := c1.le
     have o2 := c2.ge
     have hM : ((2 ^ 24580 : Nat) : Rat) = ((2 ^ 24580 : Nat) : Rat) := rfl
     obtain ⟨n, hn⟩ : ∃ n, n = 8192 := ⟨_, rfl⟩
     have e16 : ((2 * n : Nat) : Rat) = 16384 := by rw [hn]; decide +kernel
     obtain ⟨G, hG⟩ : ∃ G : Rat, G = (2 : Rat) ^ (-16384 : Int) := ⟨_, rfl⟩
     rw [← hG] at hbig
     have hG0 : 0 < G := by rw [hG]; exact Dv_pow_pos _
     have hG4 : (((2 ^ (3 * n + 4) : Nat) : Rat))⁻¹ ≤ G * (1 / 4) := by
      rw [inv_pow, hG, show (1 / 4 : Rat) = (2 : Rat) ^ (-2 : Int) by decide +kernel, ← Rat.zpow_add two_ne]
      exact pw_mono (by omega)
     obtain ⟨B, hB⟩ : ∃ B : Rat, B = ((2 ^ (3 * n) : Nat) : Rat) := ⟨_, rfl⟩
     have hB4 : ((2 ^ (3 * n + 4) : Nat) : Rat) = B * 16 := by rw [Nat.pow_add, Rat.natCast_mul, hB]; rfl
     have hB1 : 1 ≤ B := by rw [hB]; exact Rat.natCast_le_natCast.2 (Nat.one_le_two_pow)
     have fin : ∀ {y : Rat}, Short (P + 8) y → G * (1 / 4) ≤ ab y → ab y ≤ B * 16 → FitQ y := by
      intro y hs h1 h2
      exact fit_of hs (by omega) (M := 3 * n + 4) (by omega) (Rat.le_trans hG4 h1) (by rw [hB4]; exact h2)
     rcases le1_cut h8 h hne c1 c2 with ⟨hp, nn⟩ | ⟨hng, nn⟩
     · have g1 := e1.ge_add
       have hq0 : ab q = q := ab_of (Rat.le_of_lt hp)
       have ha := Ex.le_big (n := n) (Rat.le_of_lt hp) (by rw [e16]; exact b2) (e1.pos (Rat.le_of_lt hp))
       rw [← hB] at ha
       have l0 := nn.1
       have t := nar_two nn Rat.le_refl
       have x1 : ab l' = l' := ab_of (Rat.le_of_lt l0)
       have x2 : ab u' = u' := ab_of (by grind)
       rw [hq0] at hbig
       exact ⟨fin s1 (by rw [x1]; grind) (by rw [x1]; grind), fin s2 (by rw [x2]; grind) (by rw [x2]; grind)⟩
     · have g1 := e1.neg.ge_add
       have a0 := e1.1
       have hab := e1.2.1
       have hai : a * a⁻¹ = 1 := Rat.mul_inv_cancel _ (by grind)
       have hq0 : ab q = -q := ab_neg (Rat.le_of_lt hng)
       rw [hq0] at hbig
       have u0 := nn.1
       have t := nar_two nn Rat.le_refl
       have x1 : ab l' = -l' := ab_neg (by grind)
       have x2 : ab u' = -u' := ab_neg (by grind)
       -- 1 - a is at least G / 2
       have k1 : a * (1 + -q) ≤ 1 := by
        have := Rat.mul_le_mul_of_nonneg_left g1 (Rat.le_of_lt a0)
        rw [hai] at this; exact this
       have hG1 : G ≤ 1 := by
        rw [hG]
        have := pw_mono (a := -16384) (b := 0) (by omega)
        rwa [Rat.zpow_zero] at this
       have k2 : a * (1 + G) ≤ 1 := by
        have := Rat.mul_le_mul_of_nonneg_left (show 1 + G ≤ 1 + -q by grind) (Rat.le_of_lt a0)
        grind
       have k3 : G * (1 / 2) ≤ 1 - a := by
        refine Classical.byContradiction fun hc => ?_
        have hc : 1 - a < G * (1 / 2) := Rat.not_le.1 hc
        have h1 : 1 - G * (1 / 2) < a := by grind
        have h2 := Rat.mul_lt_mul_of_pos_right h1 (show 0 < 1 + G by grind)
        have h3 : 1 ≤ (1 - G * (1 / 2)) * (1 + G) := by
         have : (1 - G * (1 / 2)) * (1 + G) = 1 + G * (1 / 2) * (1 - G) := by grind
         rw [this]
         have := Rat.mul_nonneg (show 0 ≤ G * (1 / 2) by grind) (show 0 ≤ 1 - G by grind)
         grind
        grind
       have k4 : -u' < 1 := by grind
       exact ⟨fin s1 (by rw [x1]; grind) (by rw [x1]; grind), fin s2 (by rw [x2]; grind) (by rw [x2]; grind)⟩
 · intro P q l u l' u' c d hq h c1 c2 h'
   have o1 := c1.le
   have o2 := c2.ge
   rcases h with ⟨h0, rfl, rfl⟩ | ⟨hne, h⟩
   · rcases h' with ⟨_, rfl, rfl⟩ | ⟨hne, _⟩
     · exact ⟨o1, o2⟩
     · exact absurd h0 hne
   · rcases h' with ⟨h0, _, _⟩ | ⟨_, h'⟩
     · exact absurd h0 hne
     · obtain ⟨a, b, e1, e2, e3⟩ := h.encl
       obtain ⟨a', b', f1, f2, f3⟩ := h'.encl
       have m := Exs.meet e1 f1
       exact ⟨by grind, by grind⟩
theorem DAsk.ex6 {w' : World} {b : Nat} {fits : Prop} {p : Int} {q : Rat} {Sp : Nat → Rat → Rat → Rat → Prop} {v : Value} {why : Int} (h : DAsk w' b fits p q Sp v why) : ∃ b A n c x d B m e y, v = .agg #[.bool b, .slice A n c, .int .i64 x, .bool d, .slice B m e, .int .i64 y] := by
 rcases h with ⟨_, rfl, _⟩ | ⟨_, ⟨_, rfl, _⟩ | ⟨_, _, l, u, h, _⟩⟩
 · exact ⟨_, _, _, _, _, _, _, _, _, _, rfl⟩
 · exact ⟨_, _, _, _, _, _, _, _, _, _, rfl⟩
 · exact h.ex
theorem DAsk.imp {w1 w2 : World} {b1 b2 : Nat} {fits : Prop} {p : Int} {q : Rat} {Sp : Nat → Rat → Rat → Rat → Prop} {v : Value} {why : Int} (h : DAsk w1 b1 fits p q Sp v why) (hp : ∀ l u, PI w1 b1 v l u 1000000 → PI w2 b2 v l u 1000000) : DAsk w2 b2 fits p q Sp v why := by
 rcases h with h | ⟨h0, h | ⟨h1, h2, l, u, h3, h4⟩⟩
 · exact .inl h
 · exact .inr ⟨h0, .inl h⟩
 · exact .inr ⟨h0, .inr ⟨h1, h2, l, u, hp _ _ h3, h4⟩⟩
theorem DAsk.lat {w1 w2 : World} {b : Nat} {fits : Prop} {p : Int} {q : Rat} {Sp : Nat → Rat → Rat → Rat → Prop} {v : Value} {why : Int} (h : DAsk w1 b fits p q Sp v why) (hb : Lat 64 w1 w2) : DAsk w2 b fits p q Sp v why := h.imp fun _ _ q => q.lat hb
theorem DAsk.lower {w1 : World} {b b' : Nat} {fits : Prop} {p : Int} {q : Rat} {Sp : Nat → Rat → Rat → Rat → Prop} {v : Value} {why : Int} (h : DAsk w1 b fits p q Sp v why) (hb : b' ≤ b) : DAsk w1 b' fits p q Sp v why := h.imp fun _ _ q => q.lower hb
theorem zi_c (w : World) : CI w zI 0 0 64 := (PI.mk (k := 0) ⟨0, 0, .zero0 _ _ _, (Dv_zero 0).symm, bd_zero _⟩ ⟨0, 0, .zero0 _ _ _, (Dv_zero 0).symm, bd_zero _⟩).c
def Fulk2_0 := [dg 0, ig 3, li 2, ig 9, li 2, vi 15, U, U, U, U, U, U, U, U, U, U, U, U, U, U, U, U, U, U, U, U, U, U, U, U, U, U, U, U, U, U, U, U]
def Fulk2_1 := fs Fulk2_0 [(6, ps 0 0), (7, ps 1 0), (9, ps 2 0), (12, lb false)]
def Bulk2_2 := [bb 25 (d3 0), bb 28 (i6 3), bb 28 (i6 9)]
def Rulk2_3 : Rg := ⟨4, 16, 0, Fulk2_0, Bulk2_2, [pa 0 0, pa 1 0, pa 2 0, pv (lb false) 0], []⟩
def Fulk2_4 := fs Fulk2_1 [(13, li 2), (14, lb false), (15, lb false), (16, gd true (lb false) (li 2)), (17, gd true (lb false) (lb false)), (18, pk (lb false) (lb false) (lb false)), (19, pk (lb false) (lb false) (lb false)), (20, gd true (pk (lb false) (lb false) (lb false)) (dg 0)), (21, gd true (pk (lb false) (lb false) (lb false)) (vb 16)), (22, pk (pk (lb false) (lb false) (lb false)) (vb 16) (lb false))]
def Rulk2_5 : Rg := ⟨10, 16, 3, Fulk2_1, Bulk2_2, [pv (li 2) 0, pv (lb false) 0, pv (lb false) 0, ⟨li 2, 0, [], .val, gd true (lb false) (li 2)⟩, ⟨lb false, 0, [], .val, gd true (lb false) (lb false)⟩, ⟨pk (lb false) (lb false) (lb false), 0, [], .pk, pk (lb false) (lb false) (lb false)⟩, pv (pk (lb false) (lb false) (lb false)) 0, ⟨dg 0, 0, [], .ld 0 0, gd true (pk (lb false) (lb false) (lb false)) (dg 0)⟩, ⟨vb 16, 0, [], .cl 0 18 [dg 0] 1 [], gd true (pk (lb false) (lb false) (lb false)) (vb 16)⟩, ⟨pk (pk (lb false) (lb false) (lb false)) (vb 16) (lb false), 1, [], .pk, pk (pk (lb false) (lb false) (lb false)) (vb 16) (lb false)⟩], [8]⟩
def Fulk2_6 := fs Fulk2_4 [(26, li 2), (27, li 2), (28, lb false)]
def Rulk2_7 : Rg := ⟨3, 17, 3, Fulk2_4, Bulk2_2, [pv (li 2) 0, pv (li 2) 0, pv (lb false) 0], []⟩
def Fulk2_8 := fs Fulk2_6 [(29, li 2), (30, lb true)]
def Rulk2_9 : Rg := ⟨2, 17, 3, Fulk2_6, Bulk2_2, [pv (li 2) 0, pv (lb true) 0], []⟩
def Fulk2_10 := fs Fulk2_8 [(12, vb 17), (31, ig 3), (32, ag o6), (33, vb 17)]
def Rulk2_11 : Rg := ⟨4, 17, 3, Fulk2_8, Bulk2_2, [pl (ig 3) 0 1 0, pv (ag o6) 0, pc (vb 17) 0 36 [ig 3, ag o6] 1, pv (vb 17) 1], [2]⟩
theorem right_k2 {t : Value} {s : Bool} {m : Nat} {x p : Int} {w : World} (h : ADy w t s m x) (hT : TB w) :
 Calls Tryz.prog 11 #[t, zI, .int .i64 2, zI, .int .i64 2, .int .i64 p] w fun en w' => en = .returned (.bool true) ∧ BL w w' := by
 obtain ⟨A0, n0, c0, rfl, h⟩ := h
 have h : ADy w (.agg #[.bool s, .slice A0 n0 c0, .int .i64 x]) s m x := ⟨_, _, _, rfl, h⟩
 refine fn_enter (u := 64) (fn := Tryz.f11) Tryz.func11 rfl Fulk2_0 [.bool s, .slice A0 n0 c0, .int .i64 x, .bool false, .slice none 0 0, .int .i64 0, .bool false, .slice none 0 0, .int .i64 0, .bool false, .slice none 0 0, .int .i64 0, .bool false, .slice none 0 0, .int .i64 0, .int .i64 p] (by kernel_rfl) rfl (fun a0 S0 r0 => ?_)
 refine wp_seq (rk Rulk2_3 [] Fulk2_1 Bulk2_2 S0 r0 ?_)
 intro _ _ _ r1 S1
 refine wp_seq ?_
 refine wp_seq (rk Rulk2_5 [] Fulk2_4 Bulk2_2 S1 r1 ?_)
 refine ⟨fun c2 => ?_, fun c2 => ?_⟩
 · replace c2 := yv (b := if false then false else false) c2
   simp at c2
 · replace c2 := yn (b := if false then false else false) c2
   intro _ _ _ r3 S3
   refine wp_cond_split (t := if if false then false else false then false else false) (S3.cnd (by kernel_rfl)) (fun q1 => ?_) (fun q1 => ?_)
   · simp at q1
   · refine wp_skip ?_
     refine wp_seq ?_
     refine wp_seq (rk Rulk2_7 [] Fulk2_6 Bulk2_2 S3 r3 ?_)
     intro _ _ _ r4 S4
     refine wp_cond_false (S4.cnd (by kernel_rfl)) ?_
     refine wp_skip ?_
     refine wp_seq ?_
     refine wp_seq (rk Rulk2_9 [] Fulk2_8 Bulk2_2 S4 r4 ?_)
     intro _ _ _ r5 S5
     refine wp_cond_true (S5.cnd (by kernel_rfl)) ?_
     refine wp_seq (rk Rulk2_11 [] Fulk2_10 Bulk2_2 S5 r5 ?_)
     intro _ _ r6 _
     refine (dsame_i (zi_c _) (zi_c _) (by decide) (tb hT r6)).mono ?_
     rintro _ V1 ⟨r, rfl, hr, k1⟩
     obtain rfl : r = true := hr.2 ⟨rfl, rfl⟩
     refine ⟨[.bool true], rfl, rfl, rfl, k1, ?_⟩
     intro _ _ _ r7 S7
     exact wp_ret (then_ret (ret_ok S7 [.bool true] (by kernel_rfl) (⟨rfl, r7.first⟩)))
def Fulk3_0 := [dg 0, ig 3, li 3, ig 9, li 3, vi 15, U, U, U, U, U, U, U, U, U, U, U, U, U, U, U, U, U, U, U, U, U, U, U, U, U, U, U, U, U, U, U, U]
def Fulk3_1 := fs Fulk3_0 [(6, ps 0 0), (7, ps 1 0), (9, ps 2 0), (12, lb false)]
def Bulk3_2 := [bb 25 (d3 0), bb 28 (i6 3), bb 28 (i6 9)]
def Rulk3_3 : Rg := ⟨4, 16, 0, Fulk3_0, Bulk3_2, [pa 0 0, pa 1 0, pa 2 0, pv (lb false) 0], []⟩
def Fulk3_4 := fs Fulk3_1 [(13, li 3), (14, lb false), (15, lb false), (16, gd true (lb false) (li 3)), (17, gd true (lb false) (lb true)), (18, pk (lb false) (lb true) (lb false)), (19, pk (lb false) (lb true) (lb false)), (20, gd true (pk (lb false) (lb true) (lb false)) (dg 0)), (21, gd true (pk (lb false) (lb true) (lb false)) (vb 16)), (22, pk (pk (lb false) (lb true) (lb false)) (vb 16) (lb false))]
def Rulk3_5 : Rg := ⟨10, 16, 3, Fulk3_1, Bulk3_2, [pv (li 3) 0, pv (lb false) 0, pv (lb false) 0, ⟨li 3, 0, [], .val, gd true (lb false) (li 3)⟩, ⟨lb true, 0, [], .val, gd true (lb false) (lb true)⟩, ⟨pk (lb false) (lb true) (lb false), 0, [], .pk, pk (lb false) (lb true) (lb false)⟩, pv (pk (lb false) (lb true) (lb false)) 0, ⟨dg 0, 0, [], .ld 0 0, gd true (pk (lb false) (lb true) (lb false)) (dg 0)⟩, ⟨vb 16, 0, [], .cl 0 18 [dg 0] 1 [], gd true (pk (lb false) (lb true) (lb false)) (vb 16)⟩, ⟨pk (pk (lb false) (lb true) (lb false)) (vb 16) (lb false), 1, [], .pk, pk (pk (lb false) (lb true) (lb false)) (vb 16) (lb false)⟩], [8]⟩
def Fulk3_6 := fs Fulk3_4 [(26, li 3), (27, li 3), (28, lb false)]
def Rulk3_7 : Rg := ⟨3, 17, 3, Fulk3_4, Bulk3_2, [pv (li 3) 0, pv (li 3) 0, pv (lb false) 0], []⟩
def Fulk3_8 := fs Fulk3_6 [(29, li 3), (30, lb true)]
def Rulk3_9 : Rg := ⟨2, 17, 3, Fulk3_6, Bulk3_2, [pv (li 3) 0, pv (lb true) 0], []⟩
def Fulk3_10 := fs Fulk3_8 [(12, vb 17), (31, ig 3), (32, ag o6), (33, vb 17)]
def Rulk3_11 : Rg := ⟨4, 17, 3, Fulk3_8, Bulk3_2, [pl (ig 3) 0 1 0, pv (ag o6) 0, pc (vb 17) 0 36 [ig 3, ag o6] 1, pv (vb 17) 1], [2]⟩
theorem right_k3 {t : Value} {s : Bool} {m : Nat} {x p : Int} {w : World} (h : ADy w t s m x) (hT : TB w) :
 Calls Tryz.prog 11 #[t, zI, .int .i64 3, zI, .int .i64 3, .int .i64 p] w fun en w' => en = .returned (.bool true) ∧ BL w w' := by
 obtain ⟨A0, n0, c0, rfl, h⟩ := h
 have h : ADy w (.agg #[.bool s, .slice A0 n0 c0, .int .i64 x]) s m x := ⟨_, _, _, rfl, h⟩
 refine fn_enter (u := 64) (fn := Tryz.f11) Tryz.func11 rfl Fulk3_0 [.bool s, .slice A0 n0 c0, .int .i64 x, .bool false, .slice none 0 0, .int .i64 0, .bool false, .slice none 0 0, .int .i64 0, .bool false, .slice none 0 0, .int .i64 0, .bool false, .slice none 0 0, .int .i64 0, .int .i64 p] (by kernel_rfl) rfl (fun a0 S0 r0 => ?_)
 refine wp_seq (rk Rulk3_3 [] Fulk3_1 Bulk3_2 S0 r0 ?_)
 intro _ _ _ r1 S1
 refine wp_seq ?_
 refine wp_seq (rk Rulk3_5 [] Fulk3_4 Bulk3_2 S1 r1 ?_)
 refine ⟨fun c2 => ?_, fun c2 => ?_⟩
 · replace c2 := yv (b := if false then true else false) c2
   simp at c2
 · replace c2 := yn (b := if false then true else false) c2
   intro _ _ _ r3 S3
   refine wp_cond_split (t := if if false then true else false then false else false) (S3.cnd (by kernel_rfl)) (fun q1 => ?_) (fun q1 => ?_)
   · simp at q1
   · refine wp_skip ?_
     refine wp_seq ?_
     refine wp_seq (rk Rulk3_7 [] Fulk3_6 Bulk3_2 S3 r3 ?_)
     intro _ _ _ r4 S4
     refine wp_cond_false (S4.cnd (by kernel_rfl)) ?_
     refine wp_skip ?_
     refine wp_seq ?_
     refine wp_seq (rk Rulk3_9 [] Fulk3_8 Bulk3_2 S4 r4 ?_)
     intro _ _ _ r5 S5
     refine wp_cond_true (S5.cnd (by kernel_rfl)) ?_
     refine wp_seq (rk Rulk3_11 [] Fulk3_10 Bulk3_2 S5 r5 ?_)
     intro _ _ r6 _
     refine (dsame_i (zi_c _) (zi_c _) (by decide) (tb hT r6)).mono ?_
     rintro _ V1 ⟨r, rfl, hr, k1⟩
     obtain rfl : r = true := hr.2 ⟨rfl, rfl⟩
     refine ⟨[.bool true], rfl, rfl, rfl, k1, ?_⟩
     intro _ _ _ r7 S7
     exact wp_ret (then_ret (ret_ok S7 [.bool true] (by kernel_rfl) (⟨rfl, r7.first⟩)))
def Fulc_0 := [dg 0, ig 3, li 0, ig 9, li 0, vi 15, U, U, U, U, U, U, U, U, U, U, U, U, U, U, U, U, U, U, U, U, U, U, U, U, U, U, U, U, U, U, U, U]
def Fulc_1 := fs Fulc_0 [(6, ps 0 0), (7, ps 1 0), (9, ps 2 0), (12, lb false)]
def Bulc_2 := [bb 25 (d3 0), bb 28 (i6 3), bb 28 (i6 9)]
def Rulc_3 : Rg := ⟨4, 16, 0, Fulc_0, Bulc_2, [pa 0 0, pa 1 0, pa 2 0, pv (lb false) 0], []⟩
def Fulc_4 := fs Fulc_1 [(13, li 0), (14, lb true), (15, lb true), (16, gd true (lb true) (li 0)), (17, gd true (lb true) (lb false)), (18, pk (lb true) (lb false) (lb false)), (19, pk (lb true) (lb false) (lb false)), (20, gd true (pk (lb true) (lb false) (lb false)) (dg 0)), (21, gd true (pk (lb true) (lb false) (lb false)) (vb 16)), (22, pk (pk (lb true) (lb false) (lb false)) (vb 16) (lb false))]
def Rulc_5 : Rg := ⟨10, 16, 3, Fulc_1, Bulc_2, [pv (li 0) 0, pv (lb true) 0, pv (lb true) 0, ⟨li 0, 0, [], .val, gd true (lb true) (li 0)⟩, ⟨lb false, 0, [], .val, gd true (lb true) (lb false)⟩, ⟨pk (lb true) (lb false) (lb false), 0, [], .pk, pk (lb true) (lb false) (lb false)⟩, pv (pk (lb true) (lb false) (lb false)) 0, ⟨dg 0, 0, [], .ld 0 0, gd true (pk (lb true) (lb false) (lb false)) (dg 0)⟩, ⟨vb 16, 0, [], .cl 0 18 [dg 0] 1 [], gd true (pk (lb true) (lb false) (lb false)) (vb 16)⟩, ⟨pk (pk (lb true) (lb false) (lb false)) (vb 16) (lb false), 1, [], .pk, pk (pk (lb true) (lb false) (lb false)) (vb 16) (lb false)⟩], [8]⟩
def Fulc_6 := fs Fulc_4 [(26, li 0), (27, li 0), (28, lb false)]
def Rulc_7 : Rg := ⟨3, 17, 3, Fulc_4, Bulc_2, [pv (li 0) 0, pv (li 0) 0, pv (lb false) 0], []⟩
def Fulc_8 := fs Fulc_6 [(29, li 0), (30, lb false)]
def Rulc_9 : Rg := ⟨2, 17, 3, Fulc_6, Bulc_2, [pv (li 0) 0, pv (lb false) 0], []⟩
def Fulc_10 := fs Fulc_8 [(12, vb 17), (34, ig 3), (35, ig 9), (36, vi 15), (37, vb 17)]
def Rulc_11 : Rg := ⟨5, 17, 3, Fulc_8, Bulc_2, [pl (ig 3) 0 1 0, pl (ig 9) 0 2 0, pv (vi 15) 0, pc (vb 17) 0 37 [ig 3, ig 9, vi 15] 1, pv (vb 17) 1], [3]⟩
theorem right_c {t : Value} {s : Bool} {m : Nat} {x p : Int} {w : World} (h : ADy w t s m x) {v own : Value} {a b c d : Rat} {P : Nat} (hv : CI w v a b 1000001) (ho : CI w own c d 1000001) (ha : FitQ a) (hb : FitQ b) (hab : a ≤ b) (hn : NarQ P a b) (had : a ≤ d) (hcb : c ≤ b) (hp : p = (P : Int)) (hP : P ≤ 4096) (hT : TB w) :
 Calls Tryz.prog 11 #[t, v, .int .i64 0, own, .int .i64 0, .int .i64 p] w fun en w' => en = .returned (.bool true) ∧ BL w w' := by
 obtain ⟨A0, n0, c0, rfl, h⟩ := h
 have h : ADy w (.agg #[.bool s, .slice A0 n0 c0, .int .i64 x]) s m x := ⟨_, _, _, rfl, h⟩
 obtain ⟨b8, A8, n8, c8, x8, d8, B8, m8, e8, y8, rfl⟩ := hv.ex
 obtain ⟨b9, A9, n9, c9, x9, d9, B9, m9, e9, y9, rfl⟩ := ho.ex
 refine fn_enter (u := 64) (fn := Tryz.f11) Tryz.func11 rfl Fulc_0 [.bool s, .slice A0 n0 c0, .int .i64 x, .bool b8, .slice A8 n8 c8, .int .i64 x8, .bool d8, .slice B8 m8 e8, .int .i64 y8, .bool b9, .slice A9 n9 c9, .int .i64 x9, .bool d9, .slice B9 m9 e9, .int .i64 y9, .int .i64 p] (by kernel_rfl) rfl (fun a0 S0 r0 => ?_)
 refine wp_seq (rk Rulc_3 [] Fulc_1 Bulc_2 S0 r0 ?_)
 intro _ _ _ r1 S1
 refine wp_seq ?_
 refine wp_seq (rk Rulc_5 [] Fulc_4 Bulc_2 S1 r1 ?_)
 refine ⟨fun c2 => ?_, fun c2 => ?_⟩
 · replace c2 := yv (b := if true then false else false) c2
   simp at c2
 · replace c2 := yn (b := if true then false else false) c2
   intro _ _ _ r3 S3
   refine wp_cond_split (t := if if true then false else false then false else false) (S3.cnd (by kernel_rfl)) (fun q1 => ?_) (fun q1 => ?_)
   · simp at q1
   · refine wp_skip ?_
     refine wp_seq ?_
     refine wp_seq (rk Rulc_7 [] Fulc_6 Bulc_2 S3 r3 ?_)
     intro _ _ _ r4 S4
     refine wp_cond_false (S4.cnd (by kernel_rfl)) ?_
     refine wp_skip ?_
     refine wp_seq ?_
     refine wp_seq (rk Rulc_9 [] Fulc_8 Bulc_2 S4 r4 ?_)
     intro _ _ _ r5 S5
     refine wp_cond_false (S5.cnd (by kernel_rfl)) ?_
     refine wp_skip ?_
     refine wp_seq (rk Rulc_11 [] Fulc_10 Bulc_2 S5 r5 ?_)
     intro _ _ r6 _
     refine ((hp ▸ dencl_q (p := P) (hv.below r6.first) (ho.below r6.first) ha hb hab hn had hcb (by decide) (by decide) (by omega) (tb hT r6))).mono ?_
     rintro _ V1 ⟨rfl, k1⟩
     refine ⟨[.bool true], rfl, rfl, rfl, k1, ?_⟩
     intro _ _ _ r7 S7
     exact rt S7 [.bool true] (⟨rfl, r7.first⟩)
def Fuld_0 := [dg 0, ig 3, li 3, ig 9, li 0, vi 15, U, U, U, U, U, U, U, U, U, U, U, U, U, U, U, U, U, U, U, U, U, U, U, U, U, U, U, U, U, U, U, U]
def Fuld_1 := fs Fuld_0 [(6, ps 0 0), (7, ps 1 0), (9, ps 2 0), (12, lb false)]
def Buld_2 := [bb 25 (d3 0), bb 28 (i6 3), bb 28 (i6 9)]
def Ruld_3 : Rg := ⟨4, 16, 0, Fuld_0, Buld_2, [pa 0 0, pa 1 0, pa 2 0, pv (lb false) 0], []⟩
def Fuld_4 := fs Fuld_1 [(13, li 0), (14, lb true), (15, lb true), (16, gd true (lb true) (li 3)), (17, gd true (lb true) (lb true)), (18, pk (lb true) (lb true) (lb false)), (19, pk (lb true) (lb true) (lb false)), (20, gd true (pk (lb true) (lb true) (lb false)) (dg 0)), (21, gd true (pk (lb true) (lb true) (lb false)) (vb 16)), (22, pk (pk (lb true) (lb true) (lb false)) (vb 16) (lb false))]
def Ruld_5 : Rg := ⟨10, 16, 3, Fuld_1, Buld_2, [pv (li 0) 0, pv (lb true) 0, pv (lb true) 0, ⟨li 3, 0, [], .val, gd true (lb true) (li 3)⟩, ⟨lb true, 0, [], .val, gd true (lb true) (lb true)⟩, ⟨pk (lb true) (lb true) (lb false), 0, [], .pk, pk (lb true) (lb true) (lb false)⟩, pv (pk (lb true) (lb true) (lb false)) 0, ⟨dg 0, 0, [], .ld 0 0, gd true (pk (lb true) (lb true) (lb false)) (dg 0)⟩, ⟨vb 16, 0, [], .cl 0 18 [dg 0] 1 [], gd true (pk (lb true) (lb true) (lb false)) (vb 16)⟩, ⟨pk (pk (lb true) (lb true) (lb false)) (vb 16) (lb false), 1, [], .pk, pk (pk (lb true) (lb true) (lb false)) (vb 16) (lb false)⟩], [8]⟩
def Fuld_6 := fs Fuld_4 [(12, vb 17), (23, ig 3), (24, ag o6), (25, vb 17)]
def Ruld_7 : Rg := ⟨4, 17, 3, Fuld_4, Buld_2, [pl (ig 3) 0 1 0, pv (ag o6) 0, pc (vb 17) 0 36 [ig 3, ag o6] 1, pv (vb 17) 1], [2]⟩
theorem right_d {t : Value} {s : Bool} {m : Nat} {x p : Int} {w : World} (h : ADy w t s m x) {own : Value} {c d : Rat} (ho : CI w own c d 1000001) (hfit : Fit m x = true) (h0 : Dv (sgn s m) x ≠ 0) (hfar : ¬ (2 : Rat) ^ (-16384 : Int) ≤ ab (Dv (sgn s m) x)) (hT : TB w) :
 Calls Tryz.prog 11 #[t, zI, .int .i64 3, own, .int .i64 0, .int .i64 p] w fun en w' => en = .returned (.bool true) ∧ BL w w' := by
 obtain ⟨A0, n0, c0, rfl, h⟩ := h
 have h : ADy w (.agg #[.bool s, .slice A0 n0 c0, .int .i64 x]) s m x := ⟨_, _, _, rfl, h⟩
 obtain ⟨b9, A9, n9, c9, x9, d9, B9, m9, e9, y9, rfl⟩ := ho.ex
 refine fn_enter (u := 64) (fn := Tryz.f11) Tryz.func11 rfl Fuld_0 [.bool s, .slice A0 n0 c0, .int .i64 x, .bool false, .slice none 0 0, .int .i64 0, .bool false, .slice none 0 0, .int .i64 0, .bool b9, .slice A9 n9 c9, .int .i64 x9, .bool d9, .slice B9 m9 e9, .int .i64 y9, .int .i64 p] (by kernel_rfl) rfl (fun a0 S0 r0 => ?_)
 refine wp_seq (rk Ruld_3 [] Fuld_1 Buld_2 S0 r0 ?_)
 intro _ _ _ r1 S1
 refine wp_seq ?_
 refine wp_seq (rk Ruld_5 [] Fuld_4 Buld_2 S1 r1 ?_)
 refine ⟨fun c2 => ?_, fun c2 => ?_⟩
 · replace c2 := yv (b := if true then true else false) c2
   intro _ _ r3 _
   refine (dfar_q (h.below r3.first) hfit (tb hT r3)).mono ?_
   rintro _ V1 ⟨r, rfl, hr, k1⟩
   obtain rfl : r = true := by cases r with | true => rfl | false => exact absurd (hr rfl h0) hfar
   refine ⟨[.bool true], rfl, rfl, rfl, k1, ?_⟩
   intro _ _ _ r4 S4
   refine wp_cond_split (t := if if true then true else false then true else false) (S4.cnd (by kernel_rfl)) (fun q1 => ?_) (fun q1 => ?_)
   · refine wp_seq (rk Ruld_7 [] Fuld_6 Buld_2 S4 r4 ?_)
     intro _ _ r5 _
     refine (dsame_i (zi_c _) (zi_c _) (by decide) (tb hT r5)).mono ?_
     rintro _ V2 ⟨r, rfl, hr, k2⟩
     obtain rfl : r = true := hr.2 ⟨rfl, rfl⟩
     refine ⟨[.bool true], rfl, rfl, rfl, k2, ?_⟩
     intro _ _ _ r6 S6
     exact wp_ret (then_ret (ret_ok S6 [.bool true] (by kernel_rfl) (⟨rfl, r6.first⟩)))
   · simp at q1
 · replace c2 := yn (b := if true then true else false) c2
   simp at c2
theorem right_all {t v own : Value} {s far : Bool} {m b b' : Nat} {x p why no : Int} {Sp : Nat → Rat → Rat → Rat → Prop} {w : World} (h : ADy w t s m x) (hv : Asked w b (Fit m x = true) p (Dv (sgn s m) x) Sp v why) (ho : DAsk w b' (Fit m x = true) p (Dv (sgn s m) x) Sp own no) (L : LawSp Sp far) (hT : TB w) :
 Calls Tryz.prog 11 #[t, v, .int .i64 why, own, .int .i64 no, .int .i64 p] w fun en w' => en = .returned (.bool true) ∧ BL w w' := by
 rcases ho with ⟨rfl, rfl, hno⟩ | ⟨hok, ⟨rfl, rfl, hbig⟩ | ⟨rfl, hsm, c, d, hd, hsp⟩⟩
 · rcases hv with ⟨rfl, rfl, _⟩ | ⟨hok, _⟩
   · exact right_k2 h hT
   · exact absurd hok hno
 · rcases hv with ⟨_, _, hno⟩ | ⟨_, ⟨rfl, rfl, _⟩ | ⟨hsm, _⟩⟩
   · exact absurd hok hno
   · exact right_k3 h hT
   · exact absurd hsm (Rat.not_le.2 hbig)
 · rcases hv with ⟨_, _, hno⟩ | ⟨_, ⟨_, _, hbig⟩ | ⟨_, l, u, l', u', hs, c1, c2, s1, s2, hr⟩⟩
   · exact absurd hok hno
   · exact absurd hsm (Rat.not_le.2 hbig)
   · have h8 : 8 ≤ p.toNat := by have := hok.2; omega
     have h40 : p.toNat ≤ 4096 := by have := hok.2; omega
     obtain ⟨k1, k2⟩ := L.ok _ _ _ _ _ _ h8 h40 hsm hs c1 c2
     rcases hr with ⟨rfl, hpi, f1, f2, _⟩ | ⟨rfl, rfl, hnf⟩
     · obtain ⟨m1, m2⟩ := L.meet _ _ _ _ _ _ _ _ hsm hs c1 c2 hsp
       exact right_c h hpi.c (hd.more (by decide)).c f1 f2 k1 k2 m1 m2 (by have := hok.2; omega) h40 hT
     · by_cases hfar : Dv (sgn s m) x = 0 ∨ (2 : Rat) ^ (-16384 : Int) ≤ ab (Dv (sgn s m) x)
       · obtain ⟨g1, g2⟩ := L.fit _ _ _ _ _ _ h8 h40 hsm hs c1 c2 s1 s2 (fun _ => hfar)
         exact absurd ⟨g1, g2, k1⟩ hnf
       · exact right_d h (hd.more (by decide)).c hok.1 (fun h0 => hfar (.inl h0)) (fun h1 => hfar (.inr h1)) hT
theorem Asked.got {w : World} {b : Nat} {fits : Prop} {p why : Int} {q : Rat} {Sp : Nat → Rat → Rat → Rat → Prop} {v : Value} {far : Bool} (h : Asked w b fits p q Sp v why) (hok : fits ∧ 8 ≤ p ∧ p ≤ 4096) (hsm : ab q ≤ 16384) (L : LawSp Sp far) (hfar : far = true → q = 0 ∨ (2 : Rat) ^ (-16384 : Int) ≤ ab q) :
 why = 0 ∧ ∃ l u l' u', Sp p.toNat q l u ∧ CutOf false l l' (ep (p.toNat + 8)) ∧ CutOf true u u' (ep (p.toNat + 8)) ∧ PI w b v l' u' 1000001 ∧ FitQ l' ∧ FitQ u' ∧ l' ≤ u' ∧ NarQ p.toNat l' u' := by
 rcases h with ⟨_, _, hno⟩ | ⟨_, ⟨_, _, hbig⟩ | ⟨_, l, u, l', u', hs, c1, c2, s1, s2, hr⟩⟩
 · exact absurd hok hno
 · exact absurd hsm (Rat.not_le.2 hbig)
 · have h8 : 8 ≤ p.toNat := by have := hok.2; omega
   have h40 : p.toNat ≤ 4096 := by have := hok.2; omega
   obtain ⟨k1, k2⟩ := L.ok _ _ _ _ _ _ h8 h40 hsm hs c1 c2
   obtain ⟨g1, g2⟩ := L.fit _ _ _ _ _ _ h8 h40 hsm hs c1 c2 s1 s2 hfar
   rcases hr with ⟨rfl, hpi, f1, f2, _⟩ | ⟨rfl, rfl, hnf⟩
   · exact ⟨rfl, l, u, l', u', hs, c1, c2, hpi, f1, f2, k1, k2⟩
   · exact absurd ⟨g1, g2, k1⟩ hnf
theorem Asked.two {w : World} {b : Nat} {fits : Prop} {p why : Int} {q : Rat} {Sp : Nat → Rat → Rat → Rat → Prop} {v : Value} (h : Asked w b fits p q Sp v why) (hno : ¬ (fits ∧ 8 ≤ p ∧ p ≤ 4096)) : why = 2 ∧ v = zI := by
 rcases h with ⟨h1, h2, _⟩ | ⟨hok, _⟩
 · exact ⟨h1, h2⟩
 · exact absurd hok hno
theorem dint_pd (n : Int) (w : World) (h1 : -9223372036854775808 ≤ n) (h2 : n < 9223372036854775808) :
 Calls Tryz.prog 21 #[.int .i64 n] w fun en w' => ∃ v', en = .returned v' ∧ PDy w' w.heap.size v' n 0 ∧ BL w w' :=
 (dint_any n w h1 h2).mono (by rintro e w' ⟨v, rfl, h, hb⟩; exact ⟨v, rfl, h.p, hb⟩)
theorem PDy.ad {w : World} {b : Nat} {v : Value} (h : PDy w b v 1 0) : ADy w v false 1 0 := by
 have := h.c.any
 rw [show cneg 1 = false from rfl, show cman 1 = 1 by decide +kernel, show cexp 1 0 = 0 by decide +kernel] at this
 exact this
theorem fit_one : Fit 1 0 = true := decide_eq_true ⟨by have := len_le (m := 1) (K := 1) (by decide); omega, by omega, by omega⟩
theorem dv_one : Dv (sgn false 1) 0 = 1 := by decide +kernel
theorem dv_z : Dv (sgn false 0) 0 = 0 := by decide +kernel
theorem ad_zero (w : World) : ADy w (.agg #[.bool false, .slice none 0 0, .int .i64 0]) false 0 0 := by
 have := (PDy.zero0 w 0 0).c.any
 rw [show cneg 0 = false from rfl, show cman 0 = 0 from cman_zero, show cexp 0 0 = 0 from cexp_zero 0] at this
 exact this
theorem fit_0 : Fit 0 0 = true := decide_eq_true ⟨by simp [limbs], by omega, by omega⟩
theorem e_between {l u l' u' : Rat} (h : SpE 8 1 l u) (c1 : CutOf false l l' (ep (8 + 8))) (c2 : CutOf true u u' (ep (8 + 8))) (hn : NarQ 8 l' u') : ((2 : Int) : Rat) < l' ∧ u' < ((3 : Int) : Rat) := by
 have e : Exs (27 / 10) (11 / 4) 1 := ⟨by decide +kernel, by decide +kernel, .inl ⟨by decide +kernel, Ex.one⟩⟩
 obtain ⟨m1, m2⟩ := Exs.meet (show Enc l u 1 (ep (8 + 49)) from h).1 e
 have o1 := c1.le
 have o2 := c2.ge
 have e2 : (2 : Rat) ^ ((8 : Nat) : Int) = 256 := by decide +kernel
 rw [show ((2 : Int) : Rat) = 2 from rfl, show ((3 : Int) : Rat) = 3 from rfl]
 rcases hn with ⟨h1, h2⟩ | ⟨h1, h2⟩ | ⟨h1, h2⟩
 · constructor <;> grind
 · rw [e2] at h2; constructor <;> grind
 · constructor <;> grind
def Fum13_0 : List Sy := [U, U, U, U, U, U, U, U, U, U, U, U, U, U, U, U, U, U, U, U, U, U, U, U, U, U, U, U, U, U, U, U, U, U, U, U, U, U, U, U, U, U, U, U, U, U, U, U, U, U, U]
def Fum13_1 := fs Fum13_0 [(0, lb false)]
def Rum13_2 : Rg := ⟨1, 0, 0, Fum13_0, [], [pv (lb false) 0], []⟩
def Fum13_3 := fs Fum13_1 [(1, ps 0 0), (2, vi 9), (7, tu [ig 3, vi 9]), (8, dg 0), (9, tu [ig 3, vi 9]), (10, ig 3), (11, vi 9)]
def Bum13_4 := [bb 28 o6]
def Rum13_5 : Rg := ⟨6, 0, 0, Fum13_1, Bum13_4, [pc (dg 0) 0 21 [li 1] 3, pc (tu [ig 3, vi 9]) 1 9 [dg 0, li 8] 7, pv (tu [ig 3, vi 9]) 2, pv (ig 3) 2, pv (vi 9) 2, pa 0 0], [0, 1]⟩
def Bum13_6 := [bb 28 (i6 3)]
def Fum13_7 := fs Fum13_3 [(3, ps 1 0), (4, vi 16), (12, tu [ig 10, vi 16]), (13, ag o3), (14, tu [ig 10, vi 16]), (15, ig 10), (16, vi 16)]
def Bum13_8 := [bb 28 (i6 3), bb 28 o6]
def Rum13_9 : Rg := ⟨6, 10, 1, Fum13_3, Bum13_8, [pv (ag o3) 0, pc (tu [ig 10, vi 16]) 0 14 [ag o3, li 8] 7, pv (tu [ig 10, vi 16]) 1, pv (ig 10) 1, pv (vi 16) 1, pa 1 0], [1]⟩
def Bum13_10 := [bb 28 (i6 3), bb 28 (i6 10)]
def Fum13_11 := fs Fum13_7 [(5, ps 2 0), (6, vi 26), (17, tu [ig 20, vi 26]), (18, dg 17), (19, tu [ig 20, vi 26]), (20, ig 20), (21, vi 26)]
def Bum13_12 := [bb 28 (i6 3), bb 28 (i6 10), bb 28 o6]
def Rum13_13 : Rg := ⟨6, 17, 2, Fum13_7, Bum13_12, [pc (dg 17) 0 21 [li 1] 3, pc (tu [ig 20, vi 26]) 1 9 [dg 17, li 7] 7, pv (tu [ig 20, vi 26]) 2, pv (ig 20) 2, pv (vi 26) 2, pa 2 0], [0, 1]⟩
def Bum13_14 := [bb 28 (i6 3), bb 28 (i6 10), bb 28 (i6 20)]
def Fum13_15 := fs Fum13_11 [(0, pk (pk (pk (pk (pk (bo .eql (vi 9) (li 0)) (bo .lss (vi 30) (li 0)) (lb false)) (bo .lss (vi 34) (li 0)) (lb false)) (bo .eql (vi 16) (li 0)) (lb false)) (vb 35) (lb false)) (bo .eql (vi 26) (li 2)) (lb false)), (22, vi 9), (23, bo .eql (vi 9) (li 0)), (24, bo .eql (vi 9) (li 0)), (25, gd true (bo .eql (vi 9) (li 0)) (dg 27)), (26, gd true (bo .eql (vi 9) (li 0)) (ps 0 0)), (27, gd true (bo .eql (vi 9) (li 0)) (dg 3)), (28, gd true (bo .eql (vi 9) (li 0)) (vi 30)), (29, gd true (bo .eql (vi 9) (li 0)) (bo .lss (vi 30) (li 0))), (30, pk (bo .eql (vi 9) (li 0)) (bo .lss (vi 30) (li 0)) (lb false)), (31, pk (bo .eql (vi 9) (li 0)) (bo .lss (vi 30) (li 0)) (lb false)), (32, gd true (pk (bo .eql (vi 9) (li 0)) (bo .lss (vi 30) (li 0)) (lb false)) (ps 0 3)), (33, gd true (pk (bo .eql (vi 9) (li 0)) (bo .lss (vi 30) (li 0)) (lb false)) (dg 6)), (34, gd true (pk (bo .eql (vi 9) (li 0)) (bo .lss (vi 30) (li 0)) (lb false)) (dg 31)), (35, gd true (pk (bo .eql (vi 9) (li 0)) (bo .lss (vi 30) (li 0)) (lb false)) (vi 34)), (36, gd true (pk (bo .eql (vi 9) (li 0)) (bo .lss (vi 30) (li 0)) (lb false)) (bo .lss (vi 34) (li 0))), (37, pk (pk (bo .eql (vi 9) (li 0)) (bo .lss (vi 30) (li 0)) (lb false)) (bo .lss (vi 34) (li 0)) (lb false)), (38, pk (pk (bo .eql (vi 9) (li 0)) (bo .lss (vi 30) (li 0)) (lb false)) (bo .lss (vi 34) (li 0)) (lb false)), (39, gd true (pk (pk (bo .eql (vi 9) (li 0)) (bo .lss (vi 30) (li 0)) (lb false)) (bo .lss (vi 34) (li 0)) (lb false)) (vi 16)), (40, gd true (pk (pk (bo .eql (vi 9) (li 0)) (bo .lss (vi 30) (li 0)) (lb false)) (bo .lss (vi 34) (li 0)) (lb false)) (bo .eql (vi 16) (li 0))), (41, pk (pk (pk (bo .eql (vi 9) (li 0)) (bo .lss (vi 30) (li 0)) (lb false)) (bo .lss (vi 34) (li 0)) (lb false)) (bo .eql (vi 16) (li 0)) (lb false)), (42, pk (pk (pk (bo .eql (vi 9) (li 0)) (bo .lss (vi 30) (li 0)) (lb false)) (bo .lss (vi 34) (li 0)) (lb false)) (bo .eql (vi 16) (li 0)) (lb false)), (43, gd true (pk (pk (pk (bo .eql (vi 9) (li 0)) (bo .lss (vi 30) (li 0)) (lb false)) (bo .lss (vi 34) (li 0)) (lb false)) (bo .eql (vi 16) (li 0)) (lb false)) (ig 10)), (44, gd true (pk (pk (pk (bo .eql (vi 9) (li 0)) (bo .lss (vi 30) (li 0)) (lb false)) (bo .lss (vi 34) (li 0)) (lb false)) (bo .eql (vi 16) (li 0)) (lb false)) (ag o6)), (45, gd true (pk (pk (pk (bo .eql (vi 9) (li 0)) (bo .lss (vi 30) (li 0)) (lb false)) (bo .lss (vi 34) (li 0)) (lb false)) (bo .eql (vi 16) (li 0)) (lb false)) (vb 35)), (46, pk (pk (pk (pk (bo .eql (vi 9) (li 0)) (bo .lss (vi 30) (li 0)) (lb false)) (bo .lss (vi 34) (li 0)) (lb false)) (bo .eql (vi 16) (li 0)) (lb false)) (vb 35) (lb false)), (47, pk (pk (pk (pk (bo .eql (vi 9) (li 0)) (bo .lss (vi 30) (li 0)) (lb false)) (bo .lss (vi 34) (li 0)) (lb false)) (bo .eql (vi 16) (li 0)) (lb false)) (vb 35) (lb false)), (48, gd true (pk (pk (pk (pk (bo .eql (vi 9) (li 0)) (bo .lss (vi 30) (li 0)) (lb false)) (bo .lss (vi 34) (li 0)) (lb false)) (bo .eql (vi 16) (li 0)) (lb false)) (vb 35) (lb false)) (vi 26)), (49, gd true (pk (pk (pk (pk (bo .eql (vi 9) (li 0)) (bo .lss (vi 30) (li 0)) (lb false)) (bo .lss (vi 34) (li 0)) (lb false)) (bo .eql (vi 16) (li 0)) (lb false)) (vb 35) (lb false)) (bo .eql (vi 26) (li 2))), (50, pk (pk (pk (pk (pk (bo .eql (vi 9) (li 0)) (bo .lss (vi 30) (li 0)) (lb false)) (bo .lss (vi 34) (li 0)) (lb false)) (bo .eql (vi 16) (li 0)) (lb false)) (vb 35) (lb false)) (bo .eql (vi 26) (li 2)) (lb false))]
def Rum13_16 : Rg := ⟨30, 27, 3, Fum13_11, Bum13_14, [pv (vi 9) 0, pv (bo .eql (vi 9) (li 0)) 0, pv (bo .eql (vi 9) (li 0)) 0, ⟨dg 27, 0, [], .cl 0 21 [li 2] 3 [], gd true (bo .eql (vi 9) (li 0)) (dg 27)⟩, ⟨ps 0 0, 0, [], .val, gd true (bo .eql (vi 9) (li 0)) (ps 0 0)⟩, ⟨dg 3, 0, [], .ld 0 0, gd true (bo .eql (vi 9) (li 0)) (dg 3)⟩, ⟨vi 30, 1, [], .cl 1 26 [dg 27, dg 3] 1 [], gd true (bo .eql (vi 9) (li 0)) (vi 30)⟩, ⟨bo .lss (vi 30) (li 0), 2, [], .val, gd true (bo .eql (vi 9) (li 0)) (bo .lss (vi 30) (li 0))⟩, ⟨pk (bo .eql (vi 9) (li 0)) (bo .lss (vi 30) (li 0)) (lb false), 2, [], .pk, pk (bo .eql (vi 9) (li 0)) (bo .lss (vi 30) (li 0)) (lb false)⟩, pv (pk (bo .eql (vi 9) (li 0)) (bo .lss (vi 30) (li 0)) (lb false)) 2, ⟨ps 0 3, 2, [], .val, gd true (pk (bo .eql (vi 9) (li 0)) (bo .lss (vi 30) (li 0)) (lb false)) (ps 0 3)⟩, ⟨dg 6, 2, [], .ld 0 3, gd true (pk (bo .eql (vi 9) (li 0)) (bo .lss (vi 30) (li 0)) (lb false)) (dg 6)⟩, ⟨dg 31, 2, [], .cl 2 21 [li 3] 3 [], gd true (pk (bo .eql (vi 9) (li 0)) (bo .lss (vi 30) (li 0)) (lb false)) (dg 31)⟩, ⟨vi 34, 3, [], .cl 3 26 [dg 6, dg 31] 1 [], gd true (pk (bo .eql (vi 9) (li 0)) (bo .lss (vi 30) (li 0)) (lb false)) (vi 34)⟩, ⟨bo .lss (vi 34) (li 0), 4, [], .val, gd true (pk (bo .eql (vi 9) (li 0)) (bo .lss (vi 30) (li 0)) (lb false)) (bo .lss (vi 34) (li 0))⟩, ⟨pk (pk (bo .eql (vi 9) (li 0)) (bo .lss (vi 30) (li 0)) (lb false)) (bo .lss (vi 34) (li 0)) (lb false), 4, [], .pk, pk (pk (bo .eql (vi 9) (li 0)) (bo .lss (vi 30) (li 0)) (lb false)) (bo .lss (vi 34) (li 0)) (lb false)⟩, pv (pk (pk (bo .eql (vi 9) (li 0)) (bo .lss (vi 30) (li 0)) (lb false)) (bo .lss (vi 34) (li 0)) (lb false)) 4, ⟨vi 16, 4, [], .val, gd true (pk (pk (bo .eql (vi 9) (li 0)) (bo .lss (vi 30) (li 0)) (lb false)) (bo .lss (vi 34) (li 0)) (lb false)) (vi 16)⟩, ⟨bo .eql (vi 16) (li 0), 4, [], .val, gd true (pk (pk (bo .eql (vi 9) (li 0)) (bo .lss (vi 30) (li 0)) (lb false)) (bo .lss (vi 34) (li 0)) (lb false)) (bo .eql (vi 16) (li 0))⟩, ⟨pk (pk (pk (bo .eql (vi 9) (li 0)) (bo .lss (vi 30) (li 0)) (lb false)) (bo .lss (vi 34) (li 0)) (lb false)) (bo .eql (vi 16) (li 0)) (lb false), 4, [], .pk, pk (pk (pk (bo .eql (vi 9) (li 0)) (bo .lss (vi 30) (li 0)) (lb false)) (bo .lss (vi 34) (li 0)) (lb false)) (bo .eql (vi 16) (li 0)) (lb false)⟩, pv (pk (pk (pk (bo .eql (vi 9) (li 0)) (bo .lss (vi 30) (li 0)) (lb false)) (bo .lss (vi 34) (li 0)) (lb false)) (bo .eql (vi 16) (li 0)) (lb false)) 4, ⟨ig 10, 4, [], .ld 1 0, gd true (pk (pk (pk (bo .eql (vi 9) (li 0)) (bo .lss (vi 30) (li 0)) (lb false)) (bo .lss (vi 34) (li 0)) (lb false)) (bo .eql (vi 16) (li 0)) (lb false)) (ig 10)⟩, ⟨ag o6, 4, [], .val, gd true (pk (pk (pk (bo .eql (vi 9) (li 0)) (bo .lss (vi 30) (li 0)) (lb false)) (bo .lss (vi 34) (li 0)) (lb false)) (bo .eql (vi 16) (li 0)) (lb false)) (ag o6)⟩, ⟨vb 35, 4, [], .cl 4 36 [ig 10, ag o6] 1 [], gd true (pk (pk (pk (bo .eql (vi 9) (li 0)) (bo .lss (vi 30) (li 0)) (lb false)) (bo .lss (vi 34) (li 0)) (lb false)) (bo .eql (vi 16) (li 0)) (lb false)) (vb 35)⟩, ⟨pk (pk (pk (pk (bo .eql (vi 9) (li 0)) (bo .lss (vi 30) (li 0)) (lb false)) (bo .lss (vi 34) (li 0)) (lb false)) (bo .eql (vi 16) (li 0)) (lb false)) (vb 35) (lb false), 5, [], .pk, pk (pk (pk (pk (bo .eql (vi 9) (li 0)) (bo .lss (vi 30) (li 0)) (lb false)) (bo .lss (vi 34) (li 0)) (lb false)) (bo .eql (vi 16) (li 0)) (lb false)) (vb 35) (lb false)⟩, pv (pk (pk (pk (pk (bo .eql (vi 9) (li 0)) (bo .lss (vi 30) (li 0)) (lb false)) (bo .lss (vi 34) (li 0)) (lb false)) (bo .eql (vi 16) (li 0)) (lb false)) (vb 35) (lb false)) 5, ⟨vi 26, 5, [], .val, gd true (pk (pk (pk (pk (bo .eql (vi 9) (li 0)) (bo .lss (vi 30) (li 0)) (lb false)) (bo .lss (vi 34) (li 0)) (lb false)) (bo .eql (vi 16) (li 0)) (lb false)) (vb 35) (lb false)) (vi 26)⟩, ⟨bo .eql (vi 26) (li 2), 5, [], .val, gd true (pk (pk (pk (pk (bo .eql (vi 9) (li 0)) (bo .lss (vi 30) (li 0)) (lb false)) (bo .lss (vi 34) (li 0)) (lb false)) (bo .eql (vi 16) (li 0)) (lb false)) (vb 35) (lb false)) (bo .eql (vi 26) (li 2))⟩, ⟨pk (pk (pk (pk (pk (bo .eql (vi 9) (li 0)) (bo .lss (vi 30) (li 0)) (lb false)) (bo .lss (vi 34) (li 0)) (lb false)) (bo .eql (vi 16) (li 0)) (lb false)) (vb 35) (lb false)) (bo .eql (vi 26) (li 2)) (lb false), 5, [], .pk, pk (pk (pk (pk (pk (bo .eql (vi 9) (li 0)) (bo .lss (vi 30) (li 0)) (lb false)) (bo .lss (vi 34) (li 0)) (lb false)) (bo .eql (vi 16) (li 0)) (lb false)) (vb 35) (lb false)) (bo .eql (vi 26) (li 2)) (lb false)⟩, pv (pk (pk (pk (pk (pk (bo .eql (vi 9) (li 0)) (bo .lss (vi 30) (li 0)) (lb false)) (bo .lss (vi 34) (li 0)) (lb false)) (bo .eql (vi 16) (li 0)) (lb false)) (vb 35) (lb false)) (bo .eql (vi 26) (li 2)) (lb false)) 5], [3, 6, 12, 13, 23]⟩
theorem begins_q (w : World) (hT : TB w) :
 Calls Tryz.prog 13 #[] w fun en w' => en = .returned (.bool true) ∧ BL w w' := by
 refine fn_enter (u := 64) (fn := Tryz.f13) Tryz.func13 rfl Fum13_0 [] (by kernel_rfl) rfl (fun a0 S0 r0 => ?_)
 refine wp_seq (rk Rum13_2 [] Fum13_1 [] S0 r0 ?_)
 intro _ _ _ r1 S1
 refine wp_seq (rk Rum13_5 [.st 0 0 (i6 3), .mv (vi 9)] Fum13_3 Bum13_6 S1 r1 ?_)
 intro _ _ r2 _
 refine (dint_pd 1 _ (by decide) (by decide)).mono ?_
 rintro _ V1 ⟨v, rfl, h1, k1⟩
 obtain ⟨b1, A1, n1, c1, x1, rfl⟩ := h1.ex
 replace h1 := h1.lower r2.fs
 refine ⟨[.bool b1, .slice A1 n1 c1, .int .i64 x1], rfl, rfl, rfl, k1, ?_⟩
 intro _ _ r3 _
 refine (exp_q (p := 8) (h1.lat (r3.at_ 0 _ rfl)).ad (tb hT r3)).mono ?_
 rintro _ V2 ⟨v, why, rfl, ha, k2⟩
 rw [dv_one] at ha
 obtain ⟨rfl, l, u, l1, u1, hs, c1, c2, hv, f1, f2, hle, hn⟩ := ha.got ⟨fit_one, by decide, by decide⟩ (by decide +kernel) lawE (fun h => by cases h)
 obtain ⟨hlo, hhi⟩ := e_between hs c1 c2 hn
 obtain ⟨b2, A2, n2, c2, x2, d2, B2, m2, e2, y2, rfl⟩ := hv.ex
 replace hv := hv.lower r3.fs
 refine ⟨[.bool b2, .slice A2 n2 c2, .int .i64 x2, .bool d2, .slice B2 m2 e2, .int .i64 y2, .int .i64 (0 : Int)], rfl, rfl, rfl, k2, ?_⟩
 intro _ _ _ r4 S4
 refine wp_seq (rk Rum13_9 [.st 1 0 (i6 10), .mv (vi 16)] Fum13_7 Bum13_10 S4 r4 ?_)
 intro _ _ r5 _
 refine (expm1_q (p := 8) (ad_zero _) (tb hT r5)).mono ?_
 rintro _ V3 ⟨v, why, rfl, ha, k3⟩
 rw [dv_z] at ha
 obtain ⟨rfl, l, u, l2, u2, hs, c1, c2, hz, _, _, _, _⟩ := ha.got ⟨fit_0, by decide, by decide⟩ (by decide +kernel) lawL (fun _ => .inl rfl)
 obtain ⟨_, rfl, rfl⟩ := hs.resolve_right (fun h => h.1 rfl)
 obtain rfl := cut_zero c1
 obtain rfl := cut_zero c2
 obtain ⟨b3, A3, n3, c3, x3, d3, B3, m3, e3, y3, rfl⟩ := hz.ex
 replace hz := hz.lower r5.fs
 refine ⟨[.bool b3, .slice A3 n3 c3, .int .i64 x3, .bool d3, .slice B3 m3 e3, .int .i64 y3, .int .i64 (0 : Int)], rfl, rfl, rfl, k3, ?_⟩
 intro _ _ _ r6 S6
 refine wp_seq (rk Rum13_13 [.st 2 0 (i6 20), .mv (vi 26)] Fum13_11 Bum13_14 S6 r6 ?_)
 intro _ _ r7 _
 refine (dint_pd 1 _ (by decide) (by decide)).mono ?_
 rintro _ V4 ⟨v, rfl, h3, k4⟩
 obtain ⟨b4, A4, n4, c4, x4, rfl⟩ := h3.ex
 replace h3 := h3.lower r7.fs
 refine ⟨[.bool b4, .slice A4 n4 c4, .int .i64 x4], rfl, rfl, rfl, k4, ?_⟩
 intro _ _ r8 _
 refine (exp_q (p := 7) (h3.lat (r8.at_ 3 _ rfl)).ad (tb hT r8)).mono ?_
 rintro _ V5 ⟨v, why, rfl, ha, k5⟩
 obtain ⟨rfl, rfl⟩ := ha.two (by omega)
 refine ⟨[.bool false, .slice none 0 0, .int .i64 0, .bool false, .slice none 0 0, .int .i64 0, .int .i64 (2 : Int)], rfl, rfl, rfl, k5, ?_⟩
 intro _ _ _ r9 S9
 refine wp_seq (rk Rum13_16 [] Fum13_15 Bum13_14 S9 r9 ?_)
 refine ⟨fun c10 => ?_, fun c10 => ?_⟩
 · replace c10 := yv (b := (0 : Int) == 0) c10
   intro _ _ r11 _
   refine (dint_q 2 _ (by decide) (by decide)).mono ?_
   rintro _ V6 ⟨v, rfl, h4, k6⟩
   obtain ⟨b6, A6, n6, c6, x6, rfl⟩ := h4.ex
   replace h4 := h4.lower r11.fs
   refine ⟨[.bool b6, .slice A6 n6 c6, .int .i64 x6], rfl, rfl, rfl, k6, ?_⟩
   refine ⟨fun c12 => ?_, fun c12 => ?_⟩
   · replace c12 := yv (b := (0 : Int) == 0) c12
     intro _ _ r13 _
     refine (dorder_q (h4.lat (r13.at_ 5 _ rfl)).c (hv.lat (r13.at_ 1 _ rfl)).lo.c (by decide) (tb hT r13)).mono ?_
     rintro _ V7 ⟨rfl, k7⟩
     rw [show cmpQ (((2 : Int) : Rat)) (l1) = -1 from if_pos (by first | exact hlo | exact hhi)]
     refine ⟨[.int .i64 (-1 : Int)], rfl, rfl, rfl, k7, ?_⟩
     refine ⟨fun c14 => ?_, fun c14 => ?_⟩
     · replace c14 := yv (b := if (0 : Int) == 0 then decide ((-1 : Int) < 0) else false) c14
       intro _ _ r15 _
       refine (dint_q 3 _ (by decide) (by decide)).mono ?_
       rintro _ V8 ⟨v, rfl, h5, k8⟩
       obtain ⟨b8, A8, n8, c8, x8, rfl⟩ := h5.ex
       replace h5 := h5.lower r15.fs
       refine ⟨[.bool b8, .slice A8 n8 c8, .int .i64 x8], rfl, rfl, rfl, k8, ?_⟩
       refine ⟨fun c16 => ?_, fun c16 => ?_⟩
       · replace c16 := yv (b := if (0 : Int) == 0 then decide ((-1 : Int) < 0) else false) c16
         intro _ _ r17 _
         refine (dorder_q (hv.lat (r17.at_ 1 _ rfl)).hi.c (h5.lat (r17.at_ 7 _ rfl)).c (by decide) (tb hT r17)).mono ?_
         rintro _ V9 ⟨rfl, k9⟩
         rw [show cmpQ (u1) (((3 : Int) : Rat)) = -1 from if_pos (by first | exact hlo | exact hhi)]
         refine ⟨[.int .i64 (-1 : Int)], rfl, rfl, rfl, k9, ?_⟩
         refine ⟨fun c18 => ?_, fun c18 => ?_⟩
         · replace c18 := yv (b := if if if (0 : Int) == 0 then decide ((-1 : Int) < 0) else false then decide ((-1 : Int) < 0) else false then (0 : Int) == 0 else false) c18
           intro _ _ r19 _
           refine (dsame_i (hz.lat (r19.at_ 2 _ rfl)).c (zi_c _) (by decide) (tb hT r19)).mono ?_
           rintro _ V10 ⟨r, rfl, hr, k10⟩
           obtain rfl : r = true := hr.2 ⟨rfl, rfl⟩
           refine ⟨[.bool true], rfl, rfl, rfl, k10, ?_⟩
           intro _ _ _ r20 S20
           exact rt S20 [.bool (if if if if if (0 : Int) == 0 then decide ((-1 : Int) < 0) else false then decide ((-1 : Int) < 0) else false then (0 : Int) == 0 else false then true else false then (2 : Int) == 2 else false)] (⟨rfl, r20.first⟩)
         · replace c18 := yn (b := if if if (0 : Int) == 0 then decide ((-1 : Int) < 0) else false then decide ((-1 : Int) < 0) else false then (0 : Int) == 0 else false) c18
           simp at c18
       · replace c16 := yn (b := if (0 : Int) == 0 then decide ((-1 : Int) < 0) else false) c16
         simp at c16
     · replace c14 := yn (b := if (0 : Int) == 0 then decide ((-1 : Int) < 0) else false) c14
       simp at c14
   · replace c12 := yn (b := (0 : Int) == 0) c12
     simp at c12
 · replace c10 := yn (b := (0 : Int) == 0) c10
   simp at c10
def Fun4_0 := [dg 0, vi 3, U, U, U, U, U, U, U, U, U, U, U, U, U, U, U, U, U, U, U, U, U, U, U, U, U, U, U, U, U]
def Fun4_1 := fs Fun4_0 [(2, ps 0 0), (4, lb false)]
def Bun4_2 := [bb 25 (d3 0)]
def Run4_3 : Rg := ⟨2, 4, 0, Fun4_0, Bun4_2, [pa 0 0, pv (lb false) 0], []⟩
def Fun4_4 := fs Fun4_1 [(5, ps 1 0), (6, vi 10), (9, tu [ig 4, vi 10]), (10, dg 0), (11, vi 3), (12, tu [ig 4, vi 10]), (13, ig 4), (14, vi 10)]
def Bun4_5 := [bb 25 (d3 0), bb 28 o6]
def Run4_6 : Rg := ⟨7, 4, 1, Fun4_1, Bun4_5, [pl (dg 0) 0 0 0, pv (vi 3) 0, pc (tu [ig 4, vi 10]) 0 14 [dg 0, vi 3] 7, pv (tu [ig 4, vi 10]) 1, pv (ig 4) 1, pv (vi 10) 1, pa 1 0], [2]⟩
def Bun4_7 := [bb 25 (d3 0), bb 28 (i6 4)]
def Fun4_8 := fs Fun4_4 [(7, ps 2 0), (8, vi 17), (15, tu [ig 11, vi 17]), (16, dg 0), (17, vi 3), (18, tu [ig 11, vi 17]), (19, ig 11), (20, vi 17)]
def Bun4_9 := [bb 25 (d3 0), bb 28 (i6 4), bb 28 o6]
def Run4_10 : Rg := ⟨7, 11, 2, Fun4_4, Bun4_9, [pl (dg 0) 0 0 0, pv (vi 3) 0, pc (tu [ig 11, vi 17]) 0 15 [dg 0, vi 3] 7, pv (tu [ig 11, vi 17]) 1, pv (ig 11) 1, pv (vi 17) 1, pa 2 0], [2]⟩
def Bun4_11 := [bb 25 (d3 0), bb 28 (i6 4), bb 28 (i6 11)]
def Fun4_12 := fs Fun4_8 [(4, pk (vb 18) (vb 19) (lb false)), (21, dg 0), (22, ig 4), (23, vi 10), (24, ig 11), (25, vi 17), (26, vi 3), (27, vb 18), (28, vb 18), (29, gd true (vb 18) (vb 19)), (30, pk (vb 18) (vb 19) (lb false))]
def Run4_13 : Rg := ⟨11, 18, 3, Fun4_8, Bun4_11, [pl (dg 0) 0 0 0, pl (ig 4) 0 1 0, pv (vi 10) 0, pl (ig 11) 0 2 0, pv (vi 17) 0, pv (vi 3) 0, pc (vb 18) 0 11 [dg 0, ig 4, vi 10, ig 11, vi 17, vi 3] 1, pv (vb 18) 1, ⟨vb 19, 1, [], .cl 1 13 [] 1 [], gd true (vb 18) (vb 19)⟩, ⟨pk (vb 18) (vb 19) (lb false), 2, [], .pk, pk (vb 18) (vb 19) (lb false)⟩, pv (pk (vb 18) (vb 19) (lb false)) 2], [6, 8]⟩
open Go Go.ChangeShapes Go.WideShapes Go.ChangeAt Go.RowKit Go.Deep Go.Proofs.YtkdicconchobfaaGreatDoorW.PrintWords Limb
theorem trod_word {H : Type} {enc : TypeId × Value → H} {P : Program} {w : World} {base : Nat} {spare : Nat → Bool} {held : Bool} {n : Nat} {t : TypeId} {v : Value} {x : DataW H × List MemPlace} (ht : P.underlying t = some (.int .u64)) (h : DataW.trod enc P w base spare held n t [v] = some x) : ∃ b : Nat, v = .int .u64 (b : Int) ∧ b < 18446744073709551616 := by
 cases n with
 | zero => simp [DataW.trod] at h
 | succ n =>
   cases v with
   | int k b =>
     simp only [DataW.trod, ht] at h
     split at h
     · rename_i hh
       obtain ⟨rfl, hw⟩ := hh
       have hw2 : 0 ≤ b ∧ b ≤ 18446744073709551615 := by simpa [Lit.wf, IntKind.min, IntKind.max, IntKind.signed, IntKind.bits] using hw
       exact ⟨b.toNat, by rw [Int.toNat_of_nonneg hw2.1], by omega⟩
     · cases h
   | _ => simp [DataW.trod, ht] at h
theorem open_words {H : Type} {enc : TypeId × Value → H} {P : Program} {w : World} {base : Nat} {spare : Nat → Bool} {held : Bool} {fuel : Nat} {t e : TypeId} {v : Value} {x : DataW H × List MemPlace}
 (ht : P.underlying t = some (.slice e)) (he : P.underlying e = some (.int .u64)) (hc : P.cellsOf e = 1) (hf : DataW.trod enc P w base spare held fuel t [v] = some x) :
 ∃ (A : Option Addr) (len cap : Nat) (l : List Nat), v = .slice A len cap ∧ l.length = len ∧ Wf l ∧ len ≤ cap ∧ kU.C w A len l ∧ (x.1 = .nil ∧ len = 0 ∨ ∃ el sp, x.1 = .slice el sp ∧ el.length = len) := by
 rcases open_slice1 ht hc hf with ⟨hcs, hx⟩ | ⟨a, len, cap, m, n, V, D, Pl, hcs, _, hl, hm, hmm, hx, hV⟩
 · injection hcs with hcs
   subst hcs
   exact ⟨none, 0, 0, [], rfl, rfl, (by intro y hy; cases hy), Nat.le_refl _, ⟨rfl, by omega, fun h => absurd h (by omega)⟩, .inl ⟨by rw [hx], rfl⟩⟩
 · injection hcs with hcs
   subst hcs
   have hle : len ≤ m := by rw [hmm]; split <;> omega
   have hval : ∀ i, ∃ b : Nat, i < len → V i = .int .u64 (b : Int) ∧ b < 18446744073709551616 := by
    intro i
    by_cases hi : i < len
    · obtain ⟨b, hb⟩ := trod_word he (hV i (by omega)).2
      exact ⟨b, fun _ => hb⟩
    · exact ⟨0, fun h => absurd h hi⟩
   obtain ⟨B, hB⟩ := Classical.axiomOfChoice hval
   refine ⟨some a, len, cap, (List.range len).map B, rfl, by simp, ?_, hl, ⟨by simp, by unfold maxLen at hm; omega, fun _ => ⟨a, rfl, fun j p hp => ?_⟩⟩, .inr ⟨_, _, by rw [hx], by simp⟩⟩
   · intro y hy
     simp at hy
     obtain ⟨i, hi, rfl⟩ := hy
     exact (hB i hi).2
   have hj : j < len := by have := (List.getElem?_eq_some_iff.1 hp).1; simpa using this
   have hp' : p = B j := by simp [hj] at hp; exact hp.symm
   refine ⟨[.int .u64 ((B j : Nat) : Int)], rfl, by rw [hp']; rfl, fun i u hu => ?_⟩
   match i, hu with
   | 0, hu =>
     simp at hu
     subst hu
     have := (hV j (by omega)).1
     rw [(hB j hj).1] at this
     simpa [kU, Kd.scalar] using this
theorem len3 {α : Type} {l : List α} (h : l.length = 3) : ∃ a b c, l = [a, b, c] := by
 match l, h with
 | [a, b, c], _ => exact ⟨a, b, c, rfl⟩
theorem open_dyad {H : Type} {enc : TypeId × Value → H} {w : World} {base : Nat} {spare : Nat → Bool} {held : Bool} {fuel : Nat} {cs : List Value} {x : DataW H × List MemPlace}
 (hf : DataW.trod enc Tryz.prog w base spare held fuel 25 cs = some x) :
 ∃ (s : Bool) (A : Option Addr) (len cap : Nat) (X : Int) (l : List Nat), cs = [.bool s, .slice A len cap, .int .i64 X] ∧ l.length = len ∧ Wf l ∧ len ≤ cap ∧ kU.C w A len l ∧ (-9223372036854775808 ≤ X ∧ X ≤ 9223372036854775807) ∧ ∃ d0 d1 d2, x.1 = .agg [d0, d1, d2] ∧ (d1 = .nil ∧ len = 0 ∨ ∃ el sp, d1 = .slice el sp ∧ el.length = len) := by
 obtain ⟨xs, n, _, rfl, hl, hlen, hg⟩ := DataW.trod_struct Tryz.underlying25 hf
 have hc3 : Tryz.prog.cellsOf 25 = 3 := by kernel_rfl
 have hb1 : Tryz.prog.cellsOf 4 = 1 := by kernel_rfl
 have hn1 : Tryz.prog.cellsOf 23 = 1 := by kernel_rfl
 have hi1 : Tryz.prog.cellsOf 3 = 1 := by kernel_rfl
 rw [hc3] at hl
 obtain ⟨c0, c1, c2, rfl⟩ := len3 hl
 obtain ⟨y0, y1, y2, rfl⟩ := len3 (l := xs) (hlen.trans rfl)
 have g0 : DataW.trod enc Tryz.prog w base spare held n 4 (List.take (Tryz.prog.cellsOf 4) (List.drop 0 [c0, c1, c2])) = some y0 := hg 0 _ rfl
 have g1 : DataW.trod enc Tryz.prog w base spare held n 23 (List.take (Tryz.prog.cellsOf 23) (List.drop 1 [c0, c1, c2])) = some y1 := hg 1 _ rfl
 have g2 : DataW.trod enc Tryz.prog w base spare held n 3 (List.take (Tryz.prog.cellsOf 3) (List.drop 2 [c0, c1, c2])) = some y2 := hg 2 _ rfl
 rw [hb1] at g0
 rw [hn1] at g1
 rw [hi1] at g2
 simp only [List.drop_zero, List.drop_succ_cons, List.take_succ_cons, List.take_zero] at g0 g1 g2
 obtain ⟨b, e0, _⟩ := DataW.trod_bool Tryz.underlying4 g0
 obtain ⟨A, len, cap, l, e1, k1, k2, k3, k4, k5⟩ := open_words Tryz.underlying23 Tryz.underlying64 (by kernel_rfl) g1
 obtain ⟨X, e2, _, wX⟩ := DataW.trod_int Tryz.underlying3 g2
 injection e0 with e0
 injection e2 with e2
 subst e0 e1 e2
 exact ⟨b, A, len, cap, X, l, rfl, k1, k2, k3, k4, by simpa [Lit.wf, IntKind.min, IntKind.max, IntKind.signed, IntKind.bits] using wX, y0.1, y1.1, y2.1, rfl, k5⟩
theorem info_nat1 : (Tryz.prog.info? 23).map (·.size) = some 1 := by kernel_rfl
theorem copy_any {A : Option Addr} {n c : Nat} {l : List Nat} {s : Bool} {x : Int} {w : World} (hr : kU.C w A n l) (hn : l.length = n) (hc : n ≤ c) (hl : n ≤ 17592186044416) :
 Calls Tryz.prog 8 #[.agg #[.bool s, .slice A n c, .int .i64 x]] w fun en w' => ∃ A' n' c', en = .returned (.agg #[.bool s, .slice A' n' c', .int .i64 x]) ∧ PL w' w.heap.size (.slice A' n' c') l ∧ BL w w' := by
 have HR := yk hr
 have HN := yk hn
 clear hr hn
 have HB2 := yk (below_alloc (below_alloc (below_alloc (Below.refl w.heap.size w) (.cells #[.bool s, .slice A n c, .int .i64 x] 25)) (.cells #[.bool false, .slice none 0 0, .int .i64 0] 25)) (.cells #[] 64))
 have HH1 : Aside0 ((((w.alloc (.cells #[.bool s, .slice A n c, .int .i64 x] 25)).alloc (.cells #[.bool false, .slice none 0 0, .int .i64 0] 25)).alloc (.cells #[] 64)).heap[w.heap.size]? = some (.cells #[.bool s, .slice A n c, .int .i64 x] 25 (0, 0))) := ⟨blk_alloc (blk_alloc (blk_new w (.cells #[.bool s, .slice A n c, .int .i64 x] 25)) _) _⟩
 have HH2 : Aside0 ((((w.alloc (.cells #[.bool s, .slice A n c, .int .i64 x] 25)).alloc (.cells #[.bool false, .slice none 0 0, .int .i64 0] 25)).alloc (.cells #[] 64)).heap[w.heap.size + 1]? = some (.cells #[.bool false, .slice none 0 0, .int .i64 0] 25 (0, 0))) := ⟨blk_alloc (by have h := blk_new (w.alloc (.cells #[.bool s, .slice A n c, .int .i64 x] 25)) (.cells #[.bool false, .slice none 0 0, .int .i64 0] 25); rw [size_alloc'] at h; exact h) _⟩
 have HO0 : Aside0 (kU.R 64 (((w.alloc (.cells #[.bool s, .slice A n c, .int .i64 x] 25)).alloc (.cells #[.bool false, .slice none 0 0, .int .i64 0] 25)).alloc (.cells #[] 64)) ((w.alloc (.cells #[.bool s, .slice A n c, .int .i64 x] 25)).alloc (.cells #[.bool false, .slice none 0 0, .int .i64 0] 25)).heap.size (fun _ => True) (.slice (some ⟨((w.alloc (.cells #[.bool s, .slice A n c, .int .i64 x] 25)).alloc (.cells #[.bool false, .slice none 0 0, .int .i64 0] 25)).heap.size, 0, none⟩) 0 0) []) := ⟨Kd.R_of_own (own_lit_of (enc := fun n : Nat => Value.int .u64 (n : Int)) ((w.alloc (.cells #[.bool s, .slice A n c, .int .i64 x] 25)).alloc (.cells #[.bool false, .slice none 0 0, .int .i64 0] 25)) ((w.alloc (.cells #[.bool s, .slice A n c, .int .i64 x] 25)).alloc (.cells #[.bool false, .slice none 0 0, .int .i64 0] 25)).heap.size 64 [] (Nat.le_refl _) (show 0 ≤ 9223372036854775807 by decide)) (fun _ _ => trivial)⟩
 have hsz : ((w.alloc (.cells #[.bool s, .slice A n c, .int .i64 x] 25)).alloc (.cells #[.bool false, .slice none 0 0, .int .i64 0] 25)).heap.size = w.heap.size + 1 + 1 := by rw [size_alloc', size_alloc']
 rw [hsz] at HO0
 have HS := yk hsz
 clear hsz
 have hq0 := box_cell (blk_new w (.cells #[.bool s, .slice A n c, .int .i64 x] 25)) 1 rfl
 go_enter Tryz.func8, Tryz.ntmps8
 go_wp2_with (first
  | ((with_reducible refine gate_builtin (b := .append) (xs := #[.tmp 3, .tmp 5]) rfl ?_); at_builtin; go_must (refine Kd.R_append_row (fun n : Nat => Value.int .u64 (n : Int)) 0 (h1 := fun _ => rfl) (w0 := (((w.alloc (.cells #[.bool s, .slice A n c, .int .i64 x] 25)).alloc (.cells #[.bool false, .slice none 0 0, .int .i64 0] 25)).alloc (.cells #[] 64))) (w.heap.size + 1 + 1) rfl (.tmp 3) (.tmp 5) 23 64 (.int .u64 0) 8 rfl Tryz.underlying23 info_word rfl (by decide) (.slice (some ⟨w.heap.size + 1 + 1, 0, none⟩) 0 0) [] l A n c (fun _ => True) rfl rfl (fun _ _ => trivial) HO0.out (Kd.C_below HR.out HB2.out) yr (by rw [size_alloc', HS.out]; omega) (by simp; omega) ?_; intro v1 w1 ho hb _ _; rw [List.nil_append] at ho; obtain ⟨A1, c1, rfl, _, _⟩ := Kd.R_reads ho; have HP := yk (PL.of_R ho); have HB1 := yk (HB2.out.trans ⟨hb.os, hb.tape, hb.output, hb.size, fun i hi => hb.block i (by omega)⟩); have X1 := yk ((hb.block w.heap.size (by omega)).trans HH1.out); have X2 := yk ((hb.block (w.heap.size + 1) (by omega)).trans HH2.out); clear ho hb))
  | (((with_reducible refine gate_store (p := 7) rfl ?_); go_must (refine store_field 23 7 (.tmp 6) rfl rfl rfl (g := w.heap.size) (i := 1) (cur := #[.bool s, .slice A n c, .int .i64 x]) (.slice A1 l.length c1) rfl rfl rfl info_nat1 rfl X1.out (by simp) (new := #[.bool s, .slice A1 l.length c1, .int .i64 x]) rfl ?_; intro wb hbx hgx; have Y1 := yk hbx; have HG := yk hgx; clear hbx hgx)); replace X2 := yk (blk_grown X2.out HG.out (by omega)); replace HP := yk (HP.out.grown HG.out (by omega)); replace HB1 := yk (HB1.out.grown HG.out HB1.out.size (fun k hk => by cases hk; exact Nat.le_refl _)); clear HG; obtain ⟨q0, q0', q1, q1', q2, q2'⟩ := bc3 Y1.out)
  | (((with_reducible refine gate_store (p := 2) rfl ?_); go_must (refine sdy 2 (.tmp 8) rfl rfl rfl rfl rfl X2.out rfl ?_; intro wb Y2 HG)); replace HP := yk (HP.out.grown HG.out (by omega)); replace HB1 := yk (HB1.out.grown HG.out HB1.out.size (fun k hk => by cases hk; omega)); clear q0 q0' q1 q1' q2 q2'))
 refine bodyPost_ret (results_dyad rfl _ _ (w.heap.size + 1) _ rfl Y2.out rfl) rfl ?_
 exact ⟨_, _, _, rfl, HP.out.lower (by omega), HB1.out⟩
def CA (w : World) (v : Value) (l : List Nat) : Prop := ∃ b A n c y, v = .agg #[.bool b, .slice A n c, .int .i64 y] ∧ kU.C w A n l ∧ l.length = n ∧ n ≤ c ∧ Wf l
def PA (w : World) (base : Nat) (v : Value) (l : List Nat) : Prop := Wf l ∧ ∃ b A n c y, v = .agg #[.bool b, .slice A n c, .int .i64 y] ∧ PL w base (.slice A n c) l
theorem CA.below {w w1 : World} {l : List Nat} {v : Value} (h : CA w v l) (hb : BL w w1) : CA w1 v l := by
 obtain ⟨b, A, n, c, y, h1, h2, h3⟩ := h; exact ⟨b, A, n, c, y, h1, Kd.C_below h2 hb, h3⟩
theorem PA.lat {w w1 : World} {b : Nat} {l : List Nat} {v : Value} (h : PA w b v l) (hb : Lat 64 w w1) : PA w1 b v l := by
 obtain ⟨hw, s, A, n, c, y, h1, h2⟩ := h; exact ⟨hw, s, A, n, c, y, h1, h2.lat hb⟩
theorem PA.lower {w : World} {b b' : Nat} {l : List Nat} {v : Value} (h : PA w b v l) (hb : b' ≤ b) : PA w b' v l := by
 obtain ⟨hw, s, A, n, c, y, h1, h2⟩ := h; exact ⟨hw, s, A, n, c, y, h1, h2.lower hb⟩
theorem PA.c {w : World} {b : Nat} {l : List Nat} {v : Value} (h : PA w b v l) : CA w v l := by
 obtain ⟨hw, s, A, n, c, y, rfl, h2⟩ := h
 obtain ⟨A', c', he, h3, h4⟩ := PL.c h2
 injection he with e1 e2 e3
 subst e1 e2 e3
 exact ⟨s, A, _, c, y, rfl, h4, rfl, h3, hw⟩
theorem CA.any {w : World} {l : List Nat} {s : Bool} {A : Option Addr} {n c : Nat} {x : Int} (h : CA w (.agg #[.bool s, .slice A n c, .int .i64 x]) l) : ADy w (.agg #[.bool s, .slice A n c, .int .i64 x]) s (nv l) x := by
 obtain ⟨b', A', n', c', y, he, h1, h2, h3, h4⟩ := h
 obtain ⟨-, e2, -⟩ := agg_inj he
 obtain ⟨rfl, rfl, rfl⟩ := slice_inj e2
 exact ⟨A, n, c, rfl, A, n, c, l, rfl, h1, h2, h3, h4, rfl⟩
theorem copy_c {A : Option Addr} {n c : Nat} {l : List Nat} {s : Bool} {x : Int} {w : World} (h : CA w (.agg #[.bool s, .slice A n c, .int .i64 x]) l) (hl : l.length ≤ 17592186044416) :
 Calls Tryz.prog 8 #[.agg #[.bool s, .slice A n c, .int .i64 x]] w fun en w' => ∃ A' n' c', en = .returned (.agg #[.bool s, .slice A' n' c', .int .i64 x]) ∧ PA w' w.heap.size (.agg #[.bool s, .slice A' n' c', .int .i64 x]) l ∧ BL w w' := by
 obtain ⟨b', A', n', c', y, he, h1, h2, h3, h4⟩ := h
 obtain ⟨-, e2, -⟩ := agg_inj he
 obtain ⟨rfl, rfl, rfl⟩ := slice_inj e2
 refine (copy_any h1 h2 h3 (by omega)).mono ?_
 rintro en w' ⟨A', n', c', rfl, hp, hb⟩
 exact ⟨A', n', c', rfl, ⟨h4, _, _, _, _, _, rfl, hp⟩, hb⟩
theorem same_c {A B : Option Addr} {n c m d : Nat} {l : List Nat} {s : Bool} {x : Int} {w : World} (h : CA w (.agg #[.bool s, .slice A n c, .int .i64 x]) l) (h' : CA w (.agg #[.bool s, .slice B m d, .int .i64 x]) l) :
 Calls Tryz.prog 12 #[.agg #[.bool s, .slice A n c, .int .i64 x], .agg #[.bool s, .slice B m d, .int .i64 x]] w fun en w' => en = .returned (.bool true) ∧ BL w w' := by
 obtain ⟨b', A', n', c', y, he, h1, h2, h3, h4⟩ := h
 obtain ⟨-, e2, -⟩ := agg_inj he
 obtain ⟨rfl, rfl, rfl⟩ := slice_inj e2
 obtain ⟨b', A', n', c', y, he', k1, k2, k3, k4⟩ := h'
 obtain ⟨-, e2, -⟩ := agg_inj he'
 obtain ⟨rfl, rfl, rfl⟩ := slice_inj e2
 subst h2
 subst k2
 have hmx : l.length ≤ 9223372036854775807 := Kd.C_max h1
 have QS := yk (fun (m : World) (hm : BL w m) => same_nat l l A B c d m (Kd.C_below h1 hm) (Kd.C_below k1 hm) h3 k3 hmx)
 have HB := yk (below_alloc (below_alloc (Below.refl w.heap.size w) (.cells #[.bool s, .slice A l.length c, .int .i64 x] 25)) (.cells #[.bool s, .slice B l.length d, .int .i64 x] 25))
 clear he he' h1 k1 h4 k4
 go_enter Tryz.func12, Tryz.ntmps12
 go_wp2_with (go_at_call 38; go_must (refine (QS.out _ HB.out).mono ?_; rintro en w3 ⟨rfl, nn, rfl⟩))
 go_ret
 refine ⟨?_, pw_below_drewN HB.out _⟩
 simp
def Fux3_0 := [dg 0, vi 3, U, U, U, U, U, U, U, U, U, U, U, U, U, U, U, U, U, U, U, U, U, U, U, U, U, U, U, U, U, U, U, U, U, U, U, U, U]
def Fux3_1 := fs Fux3_0 [(2, ps 0 0), (4, lb false)]
def Bux3_2 := [bb 25 (d3 0)]
def Rux3_3 : Rg := ⟨2, 4, 0, Fux3_0, Bux3_2, [pa 0 0, pv (lb false) 0], []⟩
def Fux3_4 := fs Fux3_1 [(5, ps 1 0), (10, dg 0), (11, dg 4)]
def Bux3_5 := [bb 25 (d3 0), bb 25 o3]
def Rux3_6 : Rg := ⟨3, 4, 1, Fux3_1, Bux3_5, [pl (dg 0) 0 0 0, pc (dg 4) 0 8 [dg 0] 3, pa 1 0], [1]⟩
def Bux3_7 := [bb 25 (d3 0), bb 25 (d3 4)]
def Fux3_8 := fs Fux3_4 [(6, ps 2 0), (7, vi 13), (12, tu [ig 7, vi 13]), (13, dg 4), (14, vi 3), (15, tu [ig 7, vi 13]), (16, ig 7), (17, vi 13)]
def Bux3_9 := [bb 25 (d3 0), bb 25 (d3 4), bb 28 o6]
def Rux3_10 : Rg := ⟨7, 7, 2, Fux3_4, Bux3_9, [pl (dg 4) 0 1 0, pv (vi 3) 0, pc (tu [ig 7, vi 13]) 0 9 [dg 4, vi 3] 7, pv (tu [ig 7, vi 13]) 1, pv (ig 7) 1, pv (vi 13) 1, pa 2 0], [2]⟩
def Bux3_11 := [bb 25 (d3 0), bb 25 (d3 4), bb 28 (i6 7)]
def Fux3_12 := fs Fux3_8 [(8, ps 3 0), (9, vi 20), (18, tu [ig 14, vi 20]), (19, dg 0), (20, vi 3), (21, tu [ig 14, vi 20]), (22, ig 14), (23, vi 20)]
def Bux3_13 := [bb 25 (d3 0), bb 25 (d3 4), bb 28 (i6 7), bb 28 o6]
def Rux3_14 : Rg := ⟨7, 14, 3, Fux3_8, Bux3_13, [pl (dg 0) 0 0 0, pv (vi 3) 0, pc (tu [ig 14, vi 20]) 0 10 [dg 0, vi 3] 7, pv (tu [ig 14, vi 20]) 1, pv (ig 14) 1, pv (vi 20) 1, pa 3 0], [2]⟩
def Bux3_15 := [bb 25 (d3 0), bb 25 (d3 4), bb 28 (i6 7), bb 28 (i6 14)]
def Fux3_16 := fs Fux3_12 [(4, pk (pk (vb 21) (vb 22) (lb false)) (vb 23) (lb false)), (24, dg 0), (25, ig 7), (26, vi 13), (27, ig 14), (28, vi 20), (29, vi 3), (30, vb 21), (31, vb 21), (32, gd true (vb 21) (dg 4)), (33, gd true (vb 21) (dg 0)), (34, gd true (vb 21) (vb 22)), (35, pk (vb 21) (vb 22) (lb false)), (36, pk (vb 21) (vb 22) (lb false)), (37, gd true (pk (vb 21) (vb 22) (lb false)) (vb 23)), (38, pk (pk (vb 21) (vb 22) (lb false)) (vb 23) (lb false))]
def Rux3_17 : Rg := ⟨16, 21, 4, Fux3_12, Bux3_15, [pl (dg 0) 0 0 0, pl (ig 7) 0 2 0, pv (vi 13) 0, pl (ig 14) 0 3 0, pv (vi 20) 0, pv (vi 3) 0, pc (vb 21) 0 11 [dg 0, ig 7, vi 13, ig 14, vi 20, vi 3] 1, pv (vb 21) 1, ⟨dg 4, 1, [], .ld 1 0, gd true (vb 21) (dg 4)⟩, ⟨dg 0, 1, [], .ld 0 0, gd true (vb 21) (dg 0)⟩, ⟨vb 22, 1, [], .cl 1 12 [dg 4, dg 0] 1 [], gd true (vb 21) (vb 22)⟩, ⟨pk (vb 21) (vb 22) (lb false), 2, [], .pk, pk (vb 21) (vb 22) (lb false)⟩, pv (pk (vb 21) (vb 22) (lb false)) 2, ⟨vb 23, 2, [], .cl 2 13 [] 1 [], gd true (pk (vb 21) (vb 22) (lb false)) (vb 23)⟩, ⟨pk (pk (vb 21) (vb 22) (lb false)) (vb 23) (lb false), 3, [], .pk, pk (pk (vb 21) (vb 22) (lb false)) (vb 23) (lb false)⟩, pv (pk (pk (vb 21) (vb 22) (lb false)) (vb 23) (lb false)) 3], [6, 10, 13]⟩
theorem exp_law {A0 : Option Addr} {n0 c0 : Nat} {s : Bool} {l : List Nat} {x p : Int} {w : World} (h : CA w (.agg #[.bool s, .slice A0 n0 c0, .int .i64 x]) l) (hl : l.length ≤ 17592186044416) (hT : TB w) :
 Calls Tryz.prog 3 #[.agg #[.bool s, .slice A0 n0 c0, .int .i64 x], .int .i64 p] w fun en w' => en = .returned (.bool true) ∧ BL w w' := by
 refine fn_enter (u := 64) (fn := Tryz.f3) Tryz.func3 rfl Fux3_0 [.bool s, .slice A0 n0 c0, .int .i64 x, .int .i64 p] (by kernel_rfl) rfl (fun a0 S0 r0 => ?_)
 refine wp_seq (rk Rux3_3 [] Fux3_1 Bux3_2 S0 r0 ?_)
 intro _ _ _ r1 S1
 refine wp_seq (rk Rux3_6 [.st 1 0 (d3 4)] Fux3_4 Bux3_7 S1 r1 ?_)
 intro _ _ r2 _
 refine (copy_c (h.below r2.first) hl).mono ?_
 rintro _ V1 ⟨A1, n1, c1, rfl, hc, k1⟩
 replace hc := hc.lower r2.fs
 refine ⟨[.bool s, .slice A1 n1 c1, .int .i64 x], rfl, rfl, rfl, k1, ?_⟩
 intro _ _ _ r3 S3
 refine wp_seq (rk Rux3_10 [.st 2 0 (i6 7), .mv (vi 13)] Fux3_8 Bux3_11 S3 r3 ?_)
 intro _ _ r4 _
 refine (exp_q (p := p) (CA.any (PA.c (hc.lat (r4.at_ 0 _ rfl)))) (tb hT r4)).mono ?_
 rintro _ V2 ⟨v, why2, rfl, ha, k2⟩
 obtain ⟨b2, A2, n2, c2, x2, d2, B2, m2, e2, y2, rfl⟩ := ha.ex6
 replace ha := ha.lower r4.fs
 refine ⟨[.bool b2, .slice A2 n2 c2, .int .i64 x2, .bool d2, .slice B2 m2 e2, .int .i64 y2, .int .i64 why2], rfl, rfl, rfl, k2, ?_⟩
 intro _ _ _ r5 S5
 refine wp_seq (rk Rux3_14 [.st 3 0 (i6 14), .mv (vi 20)] Fux3_12 Bux3_15 S5 r5 ?_)
 intro _ _ r6 _
 refine (dexp_q (p := p) (CA.any (h.below r6.first)) (tb hT r6)).mono ?_
 rintro _ V3 ⟨v, why3, rfl, hd, k3⟩
 obtain ⟨b3, A3, n3, c3, x3, d3, B3, m3, e3, y3, rfl⟩ := hd.ex6
 replace hd := hd.lower r6.fs
 refine ⟨[.bool b3, .slice A3 n3 c3, .int .i64 x3, .bool d3, .slice B3 m3 e3, .int .i64 y3, .int .i64 why3], rfl, rfl, rfl, k3, ?_⟩
 intro _ _ _ r7 S7
 refine wp_seq (rk Rux3_17 [] Fux3_16 Bux3_15 S7 r7 ?_)
 intro _ _ r8 _
 refine (right_all (CA.any (h.below r8.first)) (ha.lat (r8.at_ 1 _ rfl)) (hd.lat (r8.at_ 2 _ rfl)) lawE (tb hT r8)).mono ?_
 rintro _ V4 ⟨rfl, k4⟩
 refine ⟨[.bool true], rfl, rfl, rfl, k4, ?_⟩
 refine ⟨fun c9 => ?_, fun c9 => ?_⟩
 · replace c9 := yv (b := true) c9
   intro _ _ r10 _
   refine (same_c (PA.c (hc.lat (r10.at_ 0 _ rfl))) (h.below r10.first)).mono ?_
   rintro _ V5 ⟨rfl, k5⟩
   refine ⟨[.bool true], rfl, rfl, rfl, k5, ?_⟩
   refine ⟨fun c11 => ?_, fun c11 => ?_⟩
   · replace c11 := yv (b := if true then true else false) c11
     intro _ _ r12 _
     refine (begins_q _ (tb hT r12)).mono ?_
     rintro _ V6 ⟨rfl, k6⟩
     refine ⟨[.bool true], rfl, rfl, rfl, k6, ?_⟩
     intro _ _ _ r13 S13
     exact rt S13 [.bool (if if true then true else false then true else false)] (⟨rfl, r13.first⟩)
   · replace c11 := yn (b := if true then true else false) c11
     simp at c11
 · replace c9 := yn (b := true) c9
   cases c9
end Go.Proofs.YtkdicconchobfaaGreatDoor
