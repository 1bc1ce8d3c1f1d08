/- Part 4 of the library of this claim: what the program and the document compute, as contracts of their functions. -/
import Derived.Test.YtkdicconchobfaaGreatDoorX3
import Derived.BigQuiet
import Derived.Laws.Bits64b
import Derived.Deep.DeepCutAuto
import Derived.MapKept
import Derived.Carry
import Derived.KernelRfl
set_option maxRecDepth 100000
set_option maxHeartbeats 8000000
namespace Go.Proofs.YtkdicconchobfaaGreatDoor
open Go Go.RowKit Go.Proofs.YtkdicconchobfaaGreatDoorW.PrintWords Limb Exq
set_option linter.unusedVariables false
set_option linter.unusedSimpArgs false
theorem top_q {v : Value} {q : Rat} {N : Nat} {w : World} (h : CQ w v q N) (h0 : 0 < q) (hN : N ≤ 67108864) :
 Calls Tryz.prog 80 #[v] w fun en w' => ∃ T : Int, en = .returned (.int .i64 T) ∧ (2 : Rat) ^ T ≤ q ∧ q < (2 : Rat) ^ (T + 1) ∧ -67108865 ≤ T ∧ T ≤ 268435456 ∧ BL w w' := by
 obtain ⟨z, e, h, rfl, hB⟩ := h
 have l := bd_len hB; have lo := bd_lo hB; have hi := bd_hi hB
 have hbl : bl (cman z) ≤ N := bl_le_iff.2 (bd_man hB)
 obtain ⟨h1, h2⟩ := top_pure (e := e) (Dv_pos.1 h0)
 refine (ptop_dy v z e w h (by omega) (by omega) (by omega)).mono ?_
 rintro en w' ⟨rfl, hb⟩
 exact ⟨_, rfl, h1, h2, by omega, by omega, hb⟩
structure Ab (k : Nat) (x l h : Rat) : Prop where
 ex : Ex l h x
 nar : Nar l h (ep k)
 le : l ≤ h
theorem Ab.of_small {w : Nat} {x l h : Rat} (hw : 15 ≤ w) (s : Sml 0 w x l h) : Ab (w - 14) x l h := by
 refine ⟨s.encl, ⟨?_, ?_⟩, s.le⟩
 · have := s.one; grind
 · have h1 := s.nar
   have h2 := Rat.mul_le_mul_of_nonneg_right s.one (Rat.le_of_lt (ep_pos (w - 14)))
   grind
theorem Ab.sq {k P : Nat} {x l h l' h' : Rat} (a : Ab (k + 2) x l h) (hx : 0 ≤ x) (hk : 2 ≤ k) (hP : k + 5 ≤ P) (h1 : CutOf false (l * l) l' (ep P)) (h2 : CutOf true (h * h) h' (ep P)) : Ab k (2 * x) l' h' := by
 have l0 := a.nar.1
 have hl0 : 0 ≤ l * l := Rat.mul_nonneg (Rat.le_of_lt l0) (Rat.le_of_lt l0)
 have hh0 : 0 ≤ h * h := Rat.mul_nonneg (Rat.le_trans (Rat.le_of_lt l0) a.le) (Rat.le_trans (Rat.le_of_lt l0) a.le)
 have c1 := h1.1 hl0
 have c2 := h2.1 hh0
 obtain ⟨j, hj⟩ : ∃ j, k = j + 1 := ⟨k - 1, by omega⟩
 have e8 : 8 * ep (k + 2) ≤ 1 := by
  rw [hj, show j + 1 + 2 = j + 3 by omega, eight_ep]; exact ep_small (by omega)
 have e9 : 8 * ep P ≤ ep (k + 2) := by
  rw [← eight_ep (k + 2)]
  have := ep_le (p := k + 2 + 3) (q := P) (by omega)
  grind
 obtain ⟨n1, n2, n3⟩ := sq_step a.nar a.le hx a.ex c1 c2 e8 (Rat.le_of_lt (ep_pos P)) e9
 rw [four_ep] at n1
 exact ⟨n3, n1, n2⟩
theorem Ab.size {k n : Nat} {x l h : Rat} (hn : n = 8192) (a : Ab k x l h) (hk : 1 ≤ k) (hx : 0 ≤ x) (hx2 : x ≤ 16384) : (((2 ^ (3 * n + 1) : Nat) : Rat))⁻¹ ≤ l ∧ h ≤ ((2 ^ (3 * n + 1) : Nat) : Rat) := by
 have h2 : h ≤ l * 2 := by
  have := a.nar.2
  have l0 := a.nar.1
  have e := ep_small hk
  have := Rat.mul_le_mul_of_nonneg_left e (Rat.le_of_lt l0)
  grind
 have hex : Exs l h x := ⟨a.nar.1, a.le, .inl ⟨hx, a.ex⟩⟩
 have e : ((2 * n : Nat) : Rat) = 16384 := by rw [hn]; decide +kernel
 exact hex.sizes (n := n) (by rw [e]; grind) (by rw [e]; exact hx2) h2
theorem half_pow (a : Rat) (s i : Nat) : 2 * (a * (2 : Rat) ^ ((i : Int) - (s : Int))) = a * (2 : Rat) ^ (((i + 1 : Nat) : Int) - (s : Int)) := by
 rw [show ((i + 1 : Nat) : Int) - (s : Int) = ((i : Int) - (s : Int)) + 1 by omega, Rat.zpow_add two_ne, Rat.zpow_one]
 grind
theorem scaled_le {a : Rat} {s i : Nat} (h0 : 0 ≤ a) (hi : i ≤ s) (h : a ≤ 16384) : 0 ≤ a * (2 : Rat) ^ ((i : Int) - (s : Int)) ∧ a * (2 : Rat) ^ ((i : Int) - (s : Int)) ≤ 16384 := by
 have h1 : (2 : Rat) ^ ((i : Int) - (s : Int)) ≤ 1 := by
  have := pw_mono (a := (i : Int) - (s : Int)) (b := 0) (by omega)
  rwa [Rat.zpow_zero] at this
 have h2 : (0 : Rat) ≤ (2 : Rat) ^ ((i : Int) - (s : Int)) := Rat.le_of_lt (Dv_pow_pos _)
 refine ⟨Rat.mul_nonneg h0 h2, ?_⟩
 have := Rat.mul_le_mul_of_nonneg_left h1 h0
 grind
theorem top_s {a : Rat} {T : Int} (h1 : (2 : Rat) ^ T ≤ a) (h2 : a < (2 : Rat) ^ (T + 1)) (ha : a ≤ 16384) (hT : -67108865 ≤ T) : ∃ s : Nat, (if 0 > T + 9 then 0 else T + 9) = (s : Int) ∧ s ≤ 23 ∧ 256 * (a * (2 : Rat) ^ (-(s : Int))) ≤ 1 := by
 have e14 : (16384 : Rat) = (2 : Rat) ^ (14 : Int) := by decide +kernel
 have h3 : T ≤ 14 := by rw [e14] at ha; exact pw_le (Rat.le_trans h1 ha)
 refine ⟨(if 0 > T + 9 then 0 else T + 9).toNat, ?_, ?_, ?_⟩
 · split <;> omega
 · split <;> omega
 · generalize hs : (if 0 > T + 9 then 0 else T + 9) = sI
   have hsI : T + 9 ≤ sI ∧ 0 ≤ sI := by rw [← hs]; split <;> omega
   rw [Int.toNat_of_nonneg hsI.2]
   have h4 := Rat.mul_le_mul_of_nonneg_right (Rat.le_of_lt h2) (Rat.le_of_lt (Dv_pow_pos (-sI)))
   rw [← Rat.zpow_add two_ne] at h4
   have h5 := pw_mono (a := T + 1 + -sI) (b := -8) (by omega)
   have e8 : (256 : Rat) * (2 : Rat) ^ (-8 : Int) = 1 := by decide +kernel
   have := Rat.mul_le_mul_of_nonneg_left (Rat.le_trans h4 h5) (show (0 : Rat) ≤ 256 by decide +kernel)
   rw [e8] at this; exact this
theorem Ab.start {p s : Nat} {a lo hi : Rat} (hp : 8 ≤ p) (hs : s ≤ 23) (h : Sml 0 (p + 2 * s + 64) (a * (2 : Rat) ^ (-(s : Int))) lo hi) : Ab (p + 50 + 2 * (s - 0)) (a * (2 : Rat) ^ (((0 : Nat) : Int) - (s : Int))) lo hi := by
 have := Ab.of_small (by omega) h
 rw [show p + 2 * s + 64 - 14 = p + 50 + 2 * (s - 0) by omega] at this
 rw [show ((0 : Nat) : Int) - (s : Int) = -(s : Int) by omega]
 exact this
theorem ab_step {p s i : Nat} {a lo hi l u : Rat} (hp : 8 ≤ p) (ha : 0 ≤ a) (ha2 : a ≤ 16384) (hi2 : i + 1 ≤ s) (f : Ab (p + 50 + 2 * (s - i)) (a * (2 : Rat) ^ ((i : Int) - (s : Int))) lo hi) (h : ∃ x y, Four (mul4 lo hi lo hi) x y ∧ CutOf false x l (ep (p + 2 * s + 64 + 8)) ∧ CutOf true y u (ep (p + 2 * s + 64 + 8))) :
 Ab (p + 50 + 2 * (s - (i + 1))) (a * (2 : Rat) ^ (((i + 1 : Nat) : Int) - (s : Int))) l u := by
 obtain ⟨x, y, h4, c1, c2⟩ := h
 obtain ⟨rfl, rfl⟩ := four_sq (Rat.le_of_lt f.nar.1) f.le h4
 rw [show p + 50 + 2 * (s - i) = p + 50 + 2 * (s - (i + 1)) + 2 by omega] at f
 rw [← half_pow]
 exact f.sq (scaled_le ha (by omega) ha2).1 (by omega) (by omega) c1 c2
theorem fit_ab {p s i N b : Nat} {a l u : Rat} {v : Value} {W : World} (hp : 8 ≤ p) (hp2 : p ≤ 5000) (hs : s ≤ 23) (ha : 0 ≤ a) (ha2 : a ≤ 16384) (hi2 : i + 1 ≤ s) (h : PI W b v l u N) (s1 : Short (p + 2 * s + 64 + 8) l) (s2 : Short (p + 2 * s + 64 + 8) u) (f : Ab (p + 50 + 2 * (s - (i + 1))) (a * (2 : Rat) ^ (((i + 1 : Nat) : Int) - (s : Int))) l u) : PI W b v l u 32768 := by
 obtain ⟨n, hn⟩ : ∃ n, n = 8192 := ⟨_, rfl⟩
 obtain ⟨q1, q2⟩ := f.size hn (by omega) (scaled_le ha hi2 ha2).1 (scaled_le ha hi2 ha2).2
 exact h.fit s1 s2 q1 f.le q2 (by omega)
theorem wrap3 {p s : Nat} (hp : p ≤ 5000) (hs : s ≤ 23) : IntKind.i64.wrap (IntKind.i64.wrap ((p : Int) + IntKind.i64.wrap (2 * (s : Int))) + 64) = ((p + 2 * s + 64 : Nat) : Int) := by
 rw [i64_id (x := 2 * (s : Int)) (by omega) (by omega), i64_id (x := (p : Int) + 2 * (s : Int)) (by omega) (by omega), i64_id (by omega) (by omega)]; omega
theorem ab_end {p s i : Nat} {a l u : Rat} (h : i = s) (f : Ab (p + 50 + 2 * (s - i)) (a * (2 : Rat) ^ ((i : Int) - (s : Int))) l u) : Ab (p + 50) a l u := by
 subst h
 rw [show p + 50 + 2 * (i - i) = p + 50 by omega, Int.sub_self, Rat.zpow_zero, Rat.mul_one] at f
 exact f
def Fm71_0 := [dg 0, vi 3, U, U, U, U, U, U, U, U, U, U, U, U, U, U, U, U, U, U, U, U, U, U, U, U, U, U, U, U, U, U, U, U, U, U]
def Fm71_1 := fs Fm71_0 [(2, ps 0 0), (4, ps 1 0)]
def Bm71_2 := [bb 25 (d3 0), bb 28 o6]
def Rm71_3 : Rg := ⟨2, 4, 0, Fm71_0, Bm71_2, [pa 0 0, pa 1 0], []⟩
def Fm71_4 := fs Fm71_1 [(5, li 0)]
def Rm71_5 : Rg := ⟨1, 4, 2, Fm71_1, Bm71_2, [pv (li 0) 0], []⟩
def Fm71_6 := fs Fm71_4 [(8, dg 0), (9, vb 4), (10, f1 noF (vb 4))]
def Rm71_7 : Rg := ⟨3, 4, 2, Fm71_4, Bm71_2, [pl (dg 0) 0 0 0, pc (vb 4) 0 79 [dg 0] 1, pv (f1 noF (vb 4)) 1], [1]⟩
def Fm71_8 := fs Fm71_6 [(5, f2 mxF (bo .add (vi 5) (li 9)) (li 0)), (11, dg 0), (12, vi 5), (13, bo .add (vi 5) (li 9)), (14, f2 mxF (bo .add (vi 5) (li 9)) (li 0))]
def Rm71_9 : Rg := ⟨5, 5, 2, Fm71_6, Bm71_2, [pl (dg 0) 0 0 0, pc (vi 5) 0 80 [dg 0] 1, pv (bo .add (vi 5) (li 9)) 1, pv (f2 mxF (bo .add (vi 5) (li 9)) (li 0)) 1, pv (f2 mxF (bo .add (vi 5) (li 9)) (li 0)) 1], [1]⟩
def Fm71_10 := fs Fm71_8 [(6, bo .add (bo .add (vi 3) (bo .mul (li 2) (f2 mxF (bo .add (vi 5) (li 9)) (li 0)))) (li 64)), (15, vi 3), (16, f2 mxF (bo .add (vi 5) (li 9)) (li 0)), (17, bo .mul (li 2) (f2 mxF (bo .add (vi 5) (li 9)) (li 0))), (18, bo .add (vi 3) (bo .mul (li 2) (f2 mxF (bo .add (vi 5) (li 9)) (li 0)))), (19, bo .add (bo .add (vi 3) (bo .mul (li 2) (f2 mxF (bo .add (vi 5) (li 9)) (li 0)))) (li 64))]
def Rm71_11 : Rg := ⟨6, 6, 2, Fm71_8, Bm71_2, [pv (vi 3) 0, pv (f2 mxF (bo .add (vi 5) (li 9)) (li 0)) 0, pv (bo .mul (li 2) (f2 mxF (bo .add (vi 5) (li 9)) (li 0))) 0, pv (bo .add (vi 3) (bo .mul (li 2) (f2 mxF (bo .add (vi 5) (li 9)) (li 0)))) 0, pv (bo .add (bo .add (vi 3) (bo .mul (li 2) (f2 mxF (bo .add (vi 5) (li 9)) (li 0)))) (li 64)) 0, pv (bo .add (bo .add (vi 3) (bo .mul (li 2) (f2 mxF (bo .add (vi 5) (li 9)) (li 0)))) (li 64)) 0], []⟩
def Fm71_12 := fs Fm71_10 [(7, ps 2 0), (20, dg 0), (21, f2 mxF (bo .add (vi 5) (li 9)) (li 0)), (22, f1 ngF (f2 mxF (bo .add (vi 5) (li 9)) (li 0))), (23, dg 6), (24, bo .add (bo .add (vi 3) (bo .mul (li 2) (f2 mxF (bo .add (vi 5) (li 9)) (li 0)))) (li 64)), (25, ig 9)]
def Bm71_13 := [bb 25 (d3 0), bb 28 o6, bb 28 o6]
def Rm71_14 : Rg := ⟨7, 6, 2, Fm71_10, Bm71_13, [pl (dg 0) 0 0 0, pv (f2 mxF (bo .add (vi 5) (li 9)) (li 0)) 0, pv (f1 ngF (f2 mxF (bo .add (vi 5) (li 9)) (li 0))) 0, pc (dg 6) 0 96 [dg 0, f1 ngF (f2 mxF (bo .add (vi 5) (li 9)) (li 0))] 3, pv (bo .add (bo .add (vi 3) (bo .mul (li 2) (f2 mxF (bo .add (vi 5) (li 9)) (li 0)))) (li 64)) 0, pc (ig 9) 1 84 [dg 6, bo .add (bo .add (vi 3) (bo .mul (li 2) (f2 mxF (bo .add (vi 5) (li 9)) (li 0)))) (li 64), li 0] 6, pa 2 0], [3, 5]⟩
def Bm71_15 := [bb 25 (d3 0), bb 28 o6, bb 28 (i6 9)]
def Fm71_16 := fs Fm71_12 [(26, f2 mxF (bo .add (vi 5) (li 9)) (li 0)), (27, li 0)]
def Rm71_17 : Rg := ⟨2, 15, 3, Fm71_12, Bm71_15, [pv (f2 mxF (bo .add (vi 5) (li 9)) (li 0)) 0, pv (li 0) 0], []⟩
def Lm71_18 (jj1 : List Value) := [dg 0, vi 3, ps 0 0, U, ps 1 0, f2 mxF (bo .add (vi 5) (li 9)) (li 0), bo .add (bo .add (vi 3) (bo .mul (li 2) (f2 mxF (bo .add (vi 5) (li 9)) (li 0)))) (li 64), ps 2 0, dg 0, vb 4, f1 noF (vb 4), dg 0, vi 5, bo .add (vi 5) (li 9), f2 mxF (bo .add (vi 5) (li 9)) (li 0), vi 3, f2 mxF (bo .add (vi 5) (li 9)) (li 0), bo .mul (li 2) (f2 mxF (bo .add (vi 5) (li 9)) (li 0)), bo .add (vi 3) (bo .mul (li 2) (f2 mxF (bo .add (vi 5) (li 9)) (li 0))), bo .add (bo .add (vi 3) (bo .mul (li 2) (f2 mxF (bo .add (vi 5) (li 9)) (li 0)))) (li 64), dg 0, f2 mxF (bo .add (vi 5) (li 9)) (li 0), f1 ngF (f2 mxF (bo .add (vi 5) (li 9)) (li 0)), dg 6, bo .add (bo .add (vi 3) (bo .mul (li 2) (f2 mxF (bo .add (vi 5) (li 9)) (li 0)))) (li 64), ig 9, f2 mxF (bo .add (vi 5) (li 9)) (li 0), vi 21, jw jj1 0, jw jj1 1, jw jj1 2, jw jj1 3, jw jj1 4, jw jj1 5, jw jj1 6, U]
def Bm71_19 := [bb 25 (d3 0), bb 28 o6, bb 28 (i6 15)]
def Jm71_20 : List Nat := [28, 29, 30, 31, 32, 33, 34]
def Fm71_21 (jj1 : List Value) := fs (Lm71_18 jj1) [(28, bo .lss (vi 21) (f2 mxF (bo .add (vi 5) (li 9)) (li 0)))]
def Rm71_22 (jj1 : List Value) : Rg := ⟨1, 22, 3, (Lm71_18 jj1), Bm71_19, [pv (bo .lss (vi 21) (f2 mxF (bo .add (vi 5) (li 9)) (li 0))) 0], []⟩
def Fm71_23 (jj1 : List Value) := fs (Fm71_21 jj1) [(29, ig 15), (30, ig 15), (31, bo .add (bo .add (vi 3) (bo .mul (li 2) (f2 mxF (bo .add (vi 5) (li 9)) (li 0)))) (li 64)), (32, bo .add (bo .add (bo .add (vi 3) (bo .mul (li 2) (f2 mxF (bo .add (vi 5) (li 9)) (li 0)))) (li 64)) (li 8)), (33, ig 22)]
def Rm71_24 (jj1 : List Value) : Rg := ⟨5, 22, 3, (Fm71_21 jj1), Bm71_19, [pl (ig 15) 0 2 0, pl (ig 15) 0 2 0, pv (bo .add (bo .add (vi 3) (bo .mul (li 2) (f2 mxF (bo .add (vi 5) (li 9)) (li 0)))) (li 64)) 0, pv (bo .add (bo .add (bo .add (vi 3) (bo .mul (li 2) (f2 mxF (bo .add (vi 5) (li 9)) (li 0)))) (li 64)) (li 8)) 0, pc (ig 22) 0 82 [ig 15, ig 15, bo .add (bo .add (bo .add (vi 3) (bo .mul (li 2) (f2 mxF (bo .add (vi 5) (li 9)) (li 0)))) (li 64)) (li 8)] 6], [4]⟩
def Bm71_25 := [bb 25 (d3 0), bb 28 o6, bb 28 (i6 22)]
def Fm71_26 (jj1 : List Value) := fs (Fm71_23 jj1) [(27, bo .add (vi 21) (li 1)), (34, bo .add (vi 21) (li 1))]
def Rm71_27 (jj1 : List Value) : Rg := ⟨1, 28, 3, (Fm71_23 jj1), Bm71_25, [pv (bo .add (vi 21) (li 1)) 0], []⟩
def Fm71_28 (jj1 : List Value) := fs (Fm71_21 jj1) [(35, ig 15)]
def Rm71_29 (jj1 : List Value) : Rg := ⟨1, 22, 3, (Fm71_21 jj1), Bm71_19, [pl (ig 15) 0 2 0], []⟩
def Bm71_30 := [bb 25 (d3 0), bb 28 (i6 15), bb 28 (i6 15)]
def Fm71_31 := fs Fm71_6 [(6, bo .add (bo .add (vi 3) (li 0)) (li 64)), (15, vi 3), (16, li 0), (17, li 0), (18, bo .add (vi 3) (li 0)), (19, bo .add (bo .add (vi 3) (li 0)) (li 64))]
def Rm71_32 : Rg := ⟨6, 5, 2, Fm71_6, Bm71_2, [pv (vi 3) 0, pv (li 0) 0, pv (li 0) 0, pv (bo .add (vi 3) (li 0)) 0, pv (bo .add (bo .add (vi 3) (li 0)) (li 64)) 0, pv (bo .add (bo .add (vi 3) (li 0)) (li 64)) 0], []⟩
def Fm71_33 := fs Fm71_31 [(7, ps 2 0), (20, dg 0), (21, li 0), (22, f1 ngF (li 0)), (23, dg 5), (24, bo .add (bo .add (vi 3) (li 0)) (li 64)), (25, ig 8)]
def Rm71_34 : Rg := ⟨7, 5, 2, Fm71_31, Bm71_13, [pl (dg 0) 0 0 0, pv (li 0) 0, pv (f1 ngF (li 0)) 0, pc (dg 5) 0 96 [dg 0, f1 ngF (li 0)] 3, pv (bo .add (bo .add (vi 3) (li 0)) (li 64)) 0, pc (ig 8) 1 84 [dg 5, bo .add (bo .add (vi 3) (li 0)) (li 64), li 0] 6, pa 2 0], [3, 5]⟩
def Bm71_35 := [bb 25 (d3 0), bb 28 o6, bb 28 (i6 8)]
def Fm71_36 := fs Fm71_33 [(26, li 0), (27, li 0)]
def Rm71_37 : Rg := ⟨2, 14, 3, Fm71_33, Bm71_35, [pv (li 0) 0, pv (li 0) 0], []⟩
def Lm71_38 (jj2 : List Value) := [dg 0, vi 3, ps 0 0, U, ps 1 0, li 0, bo .add (bo .add (vi 3) (li 0)) (li 64), ps 2 0, dg 0, vb 4, f1 noF (vb 4), U, U, U, U, vi 3, li 0, li 0, bo .add (vi 3) (li 0), bo .add (bo .add (vi 3) (li 0)) (li 64), dg 0, li 0, f1 ngF (li 0), dg 5, bo .add (bo .add (vi 3) (li 0)) (li 64), ig 8, li 0, vi 20, jw jj2 0, jw jj2 1, jw jj2 2, jw jj2 3, jw jj2 4, jw jj2 5, jw jj2 6, U]
def Bm71_39 := [bb 25 (d3 0), bb 28 o6, bb 28 (i6 14)]
def Fm71_40 (jj2 : List Value) := fs (Lm71_38 jj2) [(28, bo .lss (vi 20) (li 0))]
def Rm71_41 (jj2 : List Value) : Rg := ⟨1, 21, 3, (Lm71_38 jj2), Bm71_39, [pv (bo .lss (vi 20) (li 0)) 0], []⟩
def Fm71_42 (jj2 : List Value) := fs (Fm71_40 jj2) [(29, ig 14), (30, ig 14), (31, bo .add (bo .add (vi 3) (li 0)) (li 64)), (32, bo .add (bo .add (bo .add (vi 3) (li 0)) (li 64)) (li 8)), (33, ig 21)]
def Rm71_43 (jj2 : List Value) : Rg := ⟨5, 21, 3, (Fm71_40 jj2), Bm71_39, [pl (ig 14) 0 2 0, pl (ig 14) 0 2 0, pv (bo .add (bo .add (vi 3) (li 0)) (li 64)) 0, pv (bo .add (bo .add (bo .add (vi 3) (li 0)) (li 64)) (li 8)) 0, pc (ig 21) 0 82 [ig 14, ig 14, bo .add (bo .add (bo .add (vi 3) (li 0)) (li 64)) (li 8)] 6], [4]⟩
def Bm71_44 := [bb 25 (d3 0), bb 28 o6, bb 28 (i6 21)]
def Fm71_45 (jj2 : List Value) := fs (Fm71_42 jj2) [(27, bo .add (vi 20) (li 1)), (34, bo .add (vi 20) (li 1))]
def Rm71_46 (jj2 : List Value) : Rg := ⟨1, 27, 3, (Fm71_42 jj2), Bm71_44, [pv (bo .add (vi 20) (li 1)) 0], []⟩
def Fm71_47 (jj2 : List Value) := fs (Fm71_40 jj2) [(35, ig 14)]
def Rm71_48 (jj2 : List Value) : Rg := ⟨1, 21, 3, (Fm71_40 jj2), Bm71_39, [pl (ig 14) 0 2 0], []⟩
def Bm71_49 := [bb 25 (d3 0), bb 28 (i6 14), bb 28 (i6 14)]
theorem above_q {v : Value} {a : Rat} {N p : Nat} {w : World} (h : CQ w v a N) (ha : 0 ≤ a) (ha2 : a ≤ 16384) (hN : N ≤ 16777216) (hp : 8 ≤ p) (hp2 : p ≤ 5000) (hT : TB w) :
 Calls Tryz.prog 71 #[v, .int .i64 (p : Int)] w fun en w' => ∃ v' l u, en = .returned v' ∧ PI w' w.heap.size v' l u 32768 ∧ Ab (p + 50) a l u ∧ BL w w' := by
 obtain ⟨b0, A0, n0, c0, x0, rfl⟩ := h.ex
 refine fn_enter (u := 64) (fn := Tryz.f71) Tryz.func71 rfl Fm71_0 [.bool b0, .slice A0 n0 c0, .int .i64 x0, .int .i64 (p : Int)] (by kernel_rfl) rfl (fun a0 S0 r0 => ?_)
 refine wp_seq (rk Rm71_3 [] Fm71_1 Bm71_2 S0 r0 ?_)
 intro _ _ _ r1 S1
 refine wp_seq (rk Rm71_5 [] Fm71_4 Bm71_2 S1 r1 ?_)
 intro _ _ _ r2 S2
 refine wp_seq ?_
 refine wp_seq (rk Rm71_7 [] Fm71_6 Bm71_2 S2 r2 ?_)
 intro _ _ r3 _
 refine (zero_q (h.below r3.first) (by omega)).mono ?_
 rintro _ V1 ⟨rfl, k1⟩
 refine ⟨[.bool (decide (a = 0))], rfl, rfl, rfl, k1, ?_⟩
 intro _ _ _ r4 S4
 refine wp_cond_split (t := !(decide (a = 0))) (S4.cnd (by kernel_rfl)) (fun q1 => ?_) (fun q1 => ?_)
 · have hne : ¬ a = 0 := of_decide_eq_false (by simpa using q1)
   have hpos : 0 < a := by grind
   refine rk Rm71_9 [] Fm71_8 Bm71_2 S4 r4 ?_
   intro W5 g5 r5 _
   refine (top_q (h.below r5.first) hpos (by omega)).mono ?_
   rintro _ V2 ⟨T, rfl, t1, t2, t3, t4, k2⟩
   refine ⟨[.int .i64 T], rfl, rfl, rfl, k2, ?_⟩
   obtain ⟨s, hs, hs2, hsm⟩ := top_s t1 t2 ha2 t3
   have hT9 : IntKind.i64.wrap (T + 9) = T + 9 := i64_id (by omega) (by omega)
   have hs1 : (if 0 > IntKind.i64.wrap (T + 9) then 0 else IntKind.i64.wrap (T + 9)) = (s : Int) := by rw [hT9]; exact hs
   have hw : IntKind.i64.wrap (IntKind.i64.wrap ((p : Int) + IntKind.i64.wrap (2 * (if 0 > IntKind.i64.wrap (T + 9) then 0 else IntKind.i64.wrap (T + 9)))) + 64) = ((p + 2 * s + 64 : Nat) : Int) := by rw [hs1, wrap3 hp2 hs2]
   have hw8 : IntKind.i64.wrap (IntKind.i64.wrap (IntKind.i64.wrap ((p : Int) + IntKind.i64.wrap (2 * (if 0 > IntKind.i64.wrap (T + 9) then 0 else IntKind.i64.wrap (T + 9)))) + 64) + 8) = ((p + 2 * s + 64 + 8 : Nat) : Int) := by rw [hw, i64_id (by omega) (by omega)]; rfl
   have hns : IntKind.i64.wrap (0 - (if 0 > IntKind.i64.wrap (T + 9) then 0 else IntKind.i64.wrap (T + 9))) = -(s : Int) := by rw [hs1, i64_id (by omega) (by omega)]; omega
   intro _ g6 W6 r6 S6
   refine wp_seq (rk Rm71_11 [] Fm71_10 Bm71_2 S6 r6 ?_)
   intro _ g7 W7 r7 S7
   refine wp_seq (rk Rm71_14 [.st 2 0 (i6 9)] Fm71_12 Bm71_15 S7 r7 ?_)
   intro W8 g8 r8 _
   show Calls Tryz.prog 96 #[.agg #[.bool b0, .slice A0 n0 c0, .int .i64 x0], .int .i64 (IntKind.i64.wrap (0 - (if 0 > IntKind.i64.wrap (T + 9) then 0 else IntKind.i64.wrap (T + 9))))] W8 _
   rw [hns]
   refine (shift_q (K := 23) (-(s : Int)) (h.below r8.first) (by omega) (by omega) (by decide) (tb hT r8)).mono ?_
   rintro _ V3 ⟨v, rfl, h3, k3⟩
   obtain ⟨b3, A3, n3, c3, x3, rfl⟩ := h3.ex
   replace h3 := h3.lower r8.fs
   refine ⟨[.bool b3, .slice A3 n3 c3, .int .i64 x3], rfl, rfl, rfl, k3, ?_⟩
   intro W9 g9 r9 _
   show Calls Tryz.prog 84 #[.agg #[.bool b3, .slice A3 n3 c3, .int .i64 x3], .int .i64 (IntKind.i64.wrap ((IntKind.i64.wrap ((p : Int) + (IntKind.i64.wrap (2 * (if 0 > IntKind.i64.wrap (T + 9) then 0 else IntKind.i64.wrap (T + 9)))))) + 64)), .int .i64 0] W9 _
   rw [hw]
   refine (small_q (h3.lat (r9.at_ 2 _ rfl)).c (Rat.mul_nonneg ha (Rat.le_of_lt (Dv_pow_pos _))) hsm (by omega) (by omega) (by omega) (by decide) (tb hT r9)).mono ?_
   rintro _ V4 ⟨v, lo, hi, rfl, h4, hs4, k4⟩
   obtain ⟨b4, A4, n4, c4, x4, d4, B4, m4, e4, y4, rfl⟩ := h4.ex
   replace h4 := h4.lower r9.fs
   refine ⟨[.bool b4, .slice A4 n4 c4, .int .i64 x4, .bool d4, .slice B4 m4 e4, .int .i64 y4], rfl, rfl, rfl, k4, ?_⟩
   intro a10 g10 W10 r10 S10
   refine wp_seq ?_
   refine wp_seq (rk Rm71_17 [] Fm71_16 Bm71_15 S10 r10 ?_)
   intro a11 g11 W11 r11 S11
   refine wp_block ?_
   refine wp_loop_n (fun nn aa WW => ∃ (jj1 : List Value) (y1 z1 : Bool) (yA zA : Option Addr) (yn yc zn zc : Nat) (yx zx ii : Int) (i : Nat) (lo hi : Rat) (gg : Nat → Nat), nn = s - i ∧ BL w WW ∧ St w (Lm71_18 jj1) Bm71_19 [.bool b0, .slice A0 n0 c0, .int .i64 x0, .int .i64 (p : Int), .bool (decide (a = 0)), .int .i64 T, .bool b3, .slice A3 n3 c3, .int .i64 x3, .bool b4, .slice A4 n4 c4, .int .i64 x4, .bool d4, .slice B4 m4 e4, .int .i64 y4, .bool y1, .slice yA yn yc, .int .i64 yx, .bool z1, .slice zA zn zc, .int .i64 zx, .int .i64 ii] gg aa WW ∧ PI WW w.heap.size (.agg #[.bool y1, .slice yA yn yc, .int .i64 yx, .bool z1, .slice zA zn zc, .int .i64 zx]) lo hi 32768 ∧ Ab (p + 50 + 2 * (s - i)) (a * (2 : Rat) ^ ((i : Int) - (s : Int))) lo hi ∧ i ≤ s ∧ ii = (i : Int)) ⟨jv S11 Jm71_20, _, _, _, _, _, _, _, _, _, _, _, 0, _, _, _, rfl, r11.first, St.to S11 [0, 1, 2] (by kernel_rfl) (by kernel_rfl) (by decide) rfl, ((h4.lat (r11.at_ 3 _ rfl)).more (by omega)), (Ab.start hp hs2 hs4), Nat.zero_le _, rfl⟩ ?_
   rintro _ a12 W12 ⟨jj1, y1, z1, yA, zA, yn, yc, zn, zc, yx, zx, ii, i, lo, hi, g12, rfl, b12, S12, f1, f2, f3, f4⟩
   have r12 : Reach 64 w [W12] W12 := .of_below b12
   subst f4
   refine wp_seq (rk (Rm71_22 jj1) [] (Fm71_21 jj1) Bm71_19 S12 r12 ?_)
   intro a13 g13 W13 r13 S13
   refine wp_seq ?_
   refine wp_cond_split (t := decide ((i : Int) < (if 0 > IntKind.i64.wrap (T + 9) then 0 else IntKind.i64.wrap (T + 9)))) (S13.cnd (by kernel_rfl)) (fun q2 => ?_) (fun q2 => ?_)
   · have hi2 : i + 1 ≤ s := by have := of_decide_eq_true q2; rw [hs1] at this; omega
     refine wp_skip ?_
     refine wp_seq ?_
     refine wp_block ?_
     refine rk (Rm71_24 jj1) [.st 2 0 (i6 22)] (Fm71_23 jj1) Bm71_25 S13 r13 ?_
     intro W14 g14 r14 _
     show Calls Tryz.prog 82 #[.agg #[.bool y1, .slice yA yn yc, .int .i64 yx, .bool z1, .slice zA zn zc, .int .i64 zx], .agg #[.bool y1, .slice yA yn yc, .int .i64 yx, .bool z1, .slice zA zn zc, .int .i64 zx], .int .i64 (IntKind.i64.wrap ((IntKind.i64.wrap ((IntKind.i64.wrap ((p : Int) + (IntKind.i64.wrap (2 * (if 0 > IntKind.i64.wrap (T + 9) then 0 else IntKind.i64.wrap (T + 9)))))) + 64)) + 8))] W14 _
     rw [hw8]
     refine (times_q (p := p + 2 * s + 64 + 8) (f1.lat (r14.at_ 0 _ rfl)).c (f1.lat (r14.at_ 0 _ rfl)).c (by omega) (by omega) (by omega) (tb hT r14)).mono ?_
     rintro _ V5 ⟨v, l, u, rfl, hq, hf, sq1, sq2, k5⟩
     obtain ⟨b5, A5, n5, c5, x5, d5, B5, m5, e5, y5, rfl⟩ := hq.ex
     replace hq := hq.lower r14.fs
     have hab := ab_step hp ha ha2 hi2 f2 hf
     refine ⟨[.bool b5, .slice A5 n5 c5, .int .i64 x5, .bool d5, .slice B5 m5 e5, .int .i64 y5], rfl, rfl, rfl, k5, ?_⟩
     intro _ _ _ r15 S15
     refine rk (Rm71_27 jj1) [.mv (bo .add (vi 21) (li 1))] (Fm71_26 jj1) Bm71_25 S15 r15 ?_
     intro _ _ _ r16 S16
     exact ⟨_, (by omega), ⟨jv S16 Jm71_20, _, _, _, _, _, _, _, _, _, _, _, i + 1, _, _, _, rfl, r16.first, St.to S16 [0, 1, 2] (by kernel_rfl) (by kernel_rfl) (by decide) rfl, (fit_ab hp hp2 hs2 ha ha2 hi2 (hq.lat (r16.at_ 1 _ rfl)) sq1 sq2 hab), hab, hi2, (i64_id (by omega) (by omega))⟩⟩
   · have hend : i = s := by have := of_decide_eq_false q2; rw [hs1] at this; omega
     refine wp_exit (then_exit (then_exit (exit_in ?_)))
     refine wp_seq (rk (Rm71_29 jj1) [.st 1 0 (i6 15)] (Fm71_28 jj1) Bm71_30 S13 r13 ?_)
     intro a14 g14 W14 r14 S14
     exact rt S14 [.agg #[.bool y1, .slice yA yn yc, .int .i64 yx, .bool z1, .slice zA zn zc, .int .i64 zx]] (⟨_, _, _, rfl, (f1.lat (r14.at_ 0 _ rfl)), ab_end hend f2, r14.first⟩)
 · have h0 : a = 0 := of_decide_eq_true (by simpa using q1)
   obtain ⟨s, hs0⟩ : ∃ s : Nat, s = 0 := ⟨0, rfl⟩
   have hs2 : s ≤ 23 := by omega
   have hsm : 256 * (a * (2 : Rat) ^ (-(s : Int))) ≤ 1 := by rw [h0, Rat.zero_mul]; decide +kernel
   have hw : IntKind.i64.wrap (IntKind.i64.wrap ((p : Int) + 0) + 64) = ((p + 2 * s + 64 : Nat) : Int) := by rw [hs0, i64_id (x := (p : Int) + 0) (by omega) (by omega), i64_id (by omega) (by omega)]; omega
   have hw8 : IntKind.i64.wrap (IntKind.i64.wrap (IntKind.i64.wrap ((p : Int) + 0) + 64) + 8) = ((p + 2 * s + 64 + 8 : Nat) : Int) := by rw [hw, i64_id (by omega) (by omega)]; rfl
   have hns : IntKind.i64.wrap (0 - 0) = -(s : Int) := by rw [hs0]; decide
   refine wp_skip ?_
   refine wp_seq (rk Rm71_32 [] Fm71_31 Bm71_2 S4 r4 ?_)
   intro _ g5 W5 r5 S5
   refine wp_seq (rk Rm71_34 [.st 2 0 (i6 8)] Fm71_33 Bm71_35 S5 r5 ?_)
   intro W6 g6 r6 _
   show Calls Tryz.prog 96 #[.agg #[.bool b0, .slice A0 n0 c0, .int .i64 x0], .int .i64 (IntKind.i64.wrap (0 - 0))] W6 _
   rw [hns]
   refine (shift_q (K := 23) (-(s : Int)) (h.below r6.first) (by omega) (by omega) (by decide) (tb hT r6)).mono ?_
   rintro _ V6 ⟨v, rfl, h6, k6⟩
   obtain ⟨b6, A6, n6, c6, x6, rfl⟩ := h6.ex
   replace h6 := h6.lower r6.fs
   refine ⟨[.bool b6, .slice A6 n6 c6, .int .i64 x6], rfl, rfl, rfl, k6, ?_⟩
   intro W7 g7 r7 _
   show Calls Tryz.prog 84 #[.agg #[.bool b6, .slice A6 n6 c6, .int .i64 x6], .int .i64 (IntKind.i64.wrap ((IntKind.i64.wrap ((p : Int) + 0)) + 64)), .int .i64 0] W7 _
   rw [hw]
   refine (small_q (h6.lat (r7.at_ 1 _ rfl)).c (Rat.mul_nonneg ha (Rat.le_of_lt (Dv_pow_pos _))) hsm (by omega) (by omega) (by omega) (by decide) (tb hT r7)).mono ?_
   rintro _ V7 ⟨v, lo, hi, rfl, h7, hs7, k7⟩
   obtain ⟨b7, A7, n7, c7, x7, d7, B7, m7, e7, y7, rfl⟩ := h7.ex
   replace h7 := h7.lower r7.fs
   refine ⟨[.bool b7, .slice A7 n7 c7, .int .i64 x7, .bool d7, .slice B7 m7 e7, .int .i64 y7], rfl, rfl, rfl, k7, ?_⟩
   intro _ g8 W8 r8 S8
   refine wp_seq ?_
   refine wp_seq (rk Rm71_37 [] Fm71_36 Bm71_35 S8 r8 ?_)
   intro _ g9 W9 r9 S9
   refine wp_block ?_
   refine wp_loop_n (fun nn aa WW => ∃ (jj2 : List Value) (y1 z1 : Bool) (yA zA : Option Addr) (yn yc zn zc : Nat) (yx zx ii : Int) (i : Nat) (lo hi : Rat) (gg : Nat → Nat), nn = s - i ∧ BL w WW ∧ St w (Lm71_38 jj2) Bm71_39 [.bool b0, .slice A0 n0 c0, .int .i64 x0, .int .i64 (p : Int), .bool (decide (a = 0)), .bool b6, .slice A6 n6 c6, .int .i64 x6, .bool b7, .slice A7 n7 c7, .int .i64 x7, .bool d7, .slice B7 m7 e7, .int .i64 y7, .bool y1, .slice yA yn yc, .int .i64 yx, .bool z1, .slice zA zn zc, .int .i64 zx, .int .i64 ii] gg aa WW ∧ PI WW w.heap.size (.agg #[.bool y1, .slice yA yn yc, .int .i64 yx, .bool z1, .slice zA zn zc, .int .i64 zx]) lo hi 32768 ∧ Ab (p + 50 + 2 * (s - i)) (a * (2 : Rat) ^ ((i : Int) - (s : Int))) lo hi ∧ i ≤ s ∧ ii = (i : Int)) ⟨jv S9 Jm71_20, _, _, _, _, _, _, _, _, _, _, _, 0, _, _, _, rfl, r9.first, St.to S9 [0, 1, 2] (by kernel_rfl) (by kernel_rfl) (by decide) rfl, ((h7.lat (r9.at_ 2 _ rfl)).more (by omega)), (Ab.start hp hs2 hs7), Nat.zero_le _, rfl⟩ ?_
   rintro _ a10 W10 ⟨jj2, y1, z1, yA, zA, yn, yc, zn, zc, yx, zx, ii, i, lo, hi, g10, rfl, b10, S10, f1, f2, f3, f4⟩
   have r10 : Reach 64 w [W10] W10 := .of_below b10
   subst f4
   refine wp_seq (rk (Rm71_41 jj2) [] (Fm71_40 jj2) Bm71_39 S10 r10 ?_)
   intro a11 g11 W11 r11 S11
   refine wp_seq ?_
   refine wp_cond_split (t := decide ((i : Int) < 0)) (S11.cnd (by kernel_rfl)) (fun q3 => ?_) (fun q3 => ?_)
   · have hi2 : i + 1 ≤ s := by have := of_decide_eq_true q3; omega
     refine wp_skip ?_
     refine wp_seq ?_
     refine wp_block ?_
     refine rk (Rm71_43 jj2) [.st 2 0 (i6 21)] (Fm71_42 jj2) Bm71_44 S11 r11 ?_
     intro W12 g12 r12 _
     show Calls Tryz.prog 82 #[.agg #[.bool y1, .slice yA yn yc, .int .i64 yx, .bool z1, .slice zA zn zc, .int .i64 zx], .agg #[.bool y1, .slice yA yn yc, .int .i64 yx, .bool z1, .slice zA zn zc, .int .i64 zx], .int .i64 (IntKind.i64.wrap ((IntKind.i64.wrap ((IntKind.i64.wrap ((p : Int) + 0)) + 64)) + 8))] W12 _
     rw [hw8]
     refine (times_q (p := p + 2 * s + 64 + 8) (f1.lat (r12.at_ 0 _ rfl)).c (f1.lat (r12.at_ 0 _ rfl)).c (by omega) (by omega) (by omega) (tb hT r12)).mono ?_
     rintro _ V8 ⟨v, l, u, rfl, hq, hf, sq1, sq2, k8⟩
     obtain ⟨b8, A8, n8, c8, x8, d8, B8, m8, e8, y8, rfl⟩ := hq.ex
     replace hq := hq.lower r12.fs
     have hab := ab_step hp ha ha2 hi2 f2 hf
     refine ⟨[.bool b8, .slice A8 n8 c8, .int .i64 x8, .bool d8, .slice B8 m8 e8, .int .i64 y8], rfl, rfl, rfl, k8, ?_⟩
     intro a13 g13 W13 r13 S13
     refine rk (Rm71_46 jj2) [.mv (bo .add (vi 20) (li 1))] (Fm71_45 jj2) Bm71_44 S13 r13 ?_
     intro a14 g14 W14 r14 S14
     exact ⟨_, (by omega), ⟨jv S14 Jm71_20, _, _, _, _, _, _, _, _, _, _, _, i + 1, _, _, _, rfl, r14.first, St.to S14 [0, 1, 2] (by kernel_rfl) (by kernel_rfl) (by decide) rfl, (fit_ab hp hp2 hs2 ha ha2 hi2 (hq.lat (r14.at_ 1 _ rfl)) sq1 sq2 hab), hab, hi2, (i64_id (by omega) (by omega))⟩⟩
   · have hend : i = s := by omega
     refine wp_exit (then_exit (then_exit (exit_in ?_)))
     refine wp_seq (rk (Rm71_48 jj2) [.st 1 0 (i6 14)] (Fm71_47 jj2) Bm71_49 S11 r11 ?_)
     intro a12 g12 W12 r12 S12
     exact rt S12 [.agg #[.bool y1, .slice yA yn yc, .int .i64 yx, .bool z1, .slice zA zn zc, .int .i64 zx]] (⟨_, _, _, rfl, (f1.lat (r12.at_ 0 _ rfl)), ab_end hend f2, r12.first⟩)
open Limb
def sg (u : List Nat) (j i : Nat) : Nat := nv ((u.drop j).take i)
theorem wd_drop (u : List Nat) (j i : Nat) : wd (u.drop j) i = wd u (j + i) := by unfold wd; rw [List.getElem?_drop]
theorem sg_zero (u : List Nat) (j : Nat) : sg u j 0 = 0 := by unfold sg; rw [List.take_zero]; rfl
theorem sg_succ (u : List Nat) (j i : Nat) : sg u j (i + 1) = sg u j i + 2 ^ (64 * i) * wd u (j + i) := by
 unfold sg; rw [nv_take_succ, wd_drop]
theorem sg_set {u : List Nat} {j i : Nat} (h : j + i < u.length) (x : Nat) : sg (u.set (j + i) x) j (i + 1) = sg u j i + 2 ^ (64 * i) * x := by
 unfold sg
 rw [List.drop_set, if_neg (by omega), Nat.add_sub_cancel_left, nv_take_set _ _ _ (by rw [List.length_drop]; omega)]
theorem sg_lt {u : List Nat} (h : Wf u) (j i : Nat) : sg u j i < 2 ^ (64 * i) := by
 unfold sg; exact nv_take_lt (fun x hx => h x (List.mem_of_mem_drop hx)) i
theorem wd_eq_of {u v : List Nat} {m : Nat} (h : u[m]? = v[m]?) : wd u m = wd v m := by unfold wd; rw [h]
theorem kn_sub {W G Dl Xp i cy ls x y lo hi s c1 t ls' : Nat} (h : W + G * Dl = Xp + 2 ^ (64 * i) * (cy + ls)) (hP : hi * 18446744073709551616 + lo = G * x) (hs : s + 18446744073709551616 * c1 = lo + cy + 0) (ht : t + s + ls = y + 18446744073709551616 * ls') :
 (W + 2 ^ (64 * i) * t) + G * (Dl + 2 ^ (64 * i) * x) = (Xp + 2 ^ (64 * i) * y) + 2 ^ (64 * (i + 1)) * (hi + c1 + ls') := by
 rw [pw]
 generalize 2 ^ (64 * i) = B at *
 have e1 : t + G * x + (cy + ls) = y + 2 ^ 64 * (hi + c1 + ls') := by omega
 have e2 : B * (t + G * x + (cy + ls)) = B * (y + 2 ^ 64 * (hi + c1 + ls')) := by rw [e1]
 rw [Nat.mul_add, Nat.mul_add, Nat.mul_add B y] at e2
 have e3 : G * (Dl + B * x) = G * Dl + B * (G * x) := by rw [Nat.mul_add, Nat.mul_left_comm]
 have e4 : 2 ^ 64 * B * (hi + c1 + ls') = B * (2 ^ 64 * (hi + c1 + ls')) := by rw [Nat.mul_comm (2 ^ 64) B, Nat.mul_assoc]
 rw [e3, e4]
 omega
theorem kn_top {W G D Xp n cy ls y t ls' : Nat} (h : W + G * D = Xp + 2 ^ (64 * n) * (cy + ls)) (ht : t + cy + ls = y + 18446744073709551616 * ls') :
 (W + 2 ^ (64 * n) * t) + G * D = (Xp + 2 ^ (64 * n) * y) + ls' * 2 ^ (64 * (n + 1)) := by
 rw [pw]
 generalize 2 ^ (64 * n) = B at *
 have e2 : B * (t + cy + ls) = B * (y + 18446744073709551616 * ls') := by rw [ht]
 rw [Nat.mul_add, Nat.mul_add, Nat.mul_add B y] at e2
 rw [Nat.mul_add] at h
 have e4 : ls' * (2 ^ 64 * B) = B * (18446744073709551616 * ls') := by rw [Nat.mul_left_comm, Nat.mul_comm ls', ← Nat.mul_assoc, Nat.mul_comm (2 ^ 64) B, Nat.mul_assoc]
 rw [e4]
 omega
theorem kn_mul {G x : Nat} (hG : G < 18446744073709551616) (hx : x < 18446744073709551616) : ∃ hi lo, hi = G * x / 18446744073709551616 ∧ lo = G * x % 18446744073709551616 ∧ hi * 18446744073709551616 + lo = G * x ∧ hi < 18446744073709551615 ∧ lo < 18446744073709551616 := by
 have h : G * x ≤ 18446744073709551615 * 18446744073709551615 := Nat.mul_le_mul (by omega) (by omega)
 generalize G * x = p at *
 exact ⟨_, _, rfl, rfl, by omega, by omega, by omega⟩
theorem kn_guess {X D n y0 : Nat} {u d : List Nat} {j : Nat} (hn : n = y0 + 2) (hX : X = sg u j (n + 1)) (hD : D = nv (d.take n)) (hu : Wf u) (hd : Wf d) :
 X = (wd u (j + n) * 18446744073709551616 + wd u (j + (n - 1))) * 2 ^ (64 * (n - 1)) + sg u j (n - 1) ∧ D = wd d (n - 1) * 2 ^ (64 * (n - 1)) + nv (d.take (n - 1)) ∧ nv (d.take (n - 1)) < 2 ^ (64 * (n - 1)) ∧ sg u j (n - 1) < 2 ^ (64 * (n - 1)) := by
 subst hn
 refine ⟨?_, ?_, nv_take_lt hd _, sg_lt hu _ _⟩
 · have e1 := sg_succ u j (y0 + 1 + 1)
   have e2 := sg_succ u j (y0 + 1)
   rw [pw (y0 + 1)] at e1
   rw [hX, show y0 + 2 + 1 = y0 + 1 + 1 + 1 by omega, e1, e2, show y0 + 2 - 1 = y0 + 1 by omega, show j + (y0 + 2) = j + (y0 + 1 + 1) by omega]
   generalize 2 ^ (64 * (y0 + 1)) = B
   generalize wd u (j + (y0 + 1 + 1)) = a
   generalize wd u (j + (y0 + 1)) = b
   rw [Nat.add_mul, Nat.mul_comm b B, Nat.mul_right_comm, Nat.mul_comm a, show (2 : Nat) ^ 64 = 18446744073709551616 from rfl]
   omega
 · rw [hD, show y0 + 2 = (y0 + 1) + 1 by omega, nv_take_succ, Nat.add_sub_cancel, Nat.mul_comm]; omega
theorem kn_first {X D n y0 G : Nat} {u d : List Nat} {j : Nat} (hn : n = y0 + 2) (hX : X = sg u j (n + 1)) (hD : D = nv (d.take n)) (hu : Wf u) (hd : Wf d) (h1 : wd u (j + n) < wd d (n - 1)) (hG : G = (wd u (j + n) * 18446744073709551616 + wd u (j + (n - 1))) / wd d (n - 1)) : X / D ≤ G ∧ G < 18446744073709551616 := by
 obtain ⟨e1, e2, e3, e4⟩ := kn_guess hn hX hD hu hd
 have hx := wd_lt hu (j + (n - 1))
 constructor
 · rw [hG]
   exact Knu.guess_top (Nat.div_mul_le_self X D) e2 e1 e4 (by omega)
 · rw [hG]
   refine (Nat.div_lt_iff_lt_mul (by omega)).2 ?_
   have : (wd u (j + n) + 1) * 18446744073709551616 ≤ wd d (n - 1) * 18446744073709551616 := Nat.mul_le_mul_right _ h1
   rw [Nat.mul_comm 18446744073709551616]
   omega
theorem kn_ac (a b M z : Nat) : a * (2 ^ 64 * M) + (z + M * b) = (a * 18446744073709551616 + b) * M + z := by
 have e1 : a * (2 ^ 64 * M) = a * 18446744073709551616 * M := by rw [Nat.mul_assoc]
 rw [e1, Nat.add_mul, Nat.mul_comm b M]
 omega
theorem kn_next {X D n y0 G low : Nat} {u d : List Nat} {j : Nat} (hn : n = y0 + 2) (hX : X = sg u j (n + 1)) (hD : D = nv (d.take n)) (hu : Wf u) (hd : Wf d) (hl : G * wd d (n - 1) + low = wd u (j + n) * 18446744073709551616 + wd u (j + (n - 1))) (h : low * 18446744073709551616 + wd u (j + (n - 2)) < G * wd d (n - 2)) : X / D < G := by
 obtain ⟨e1, e2, e3, e4⟩ := kn_guess hn hX hD hu hd
 subst hn
 have f1 := sg_succ u j y0
 have f2 := nv_take_succ d y0
 have g1 := sg_lt hu j y0
 have g2 := nv_take_lt hd y0
 rw [show y0 + 2 - 1 = y0 + 1 by omega] at *
 rw [show y0 + 2 - 2 = y0 by omega] at h
 rw [f1, pw] at e1
 rw [f2, pw] at e2
 refine Knu.guess_mid (q := X / D) (d := D) (r := X) (g := G) (D := wd d (y0 + 1) * 18446744073709551616 + wd d y0) (M := 2 ^ (64 * y0)) (X := (wd u (j + (y0 + 2)) * 18446744073709551616 + wd u (j + (y0 + 1))) * 18446744073709551616 + wd u (j + y0)) (r0 := sg u j y0) (d0 := nv (d.take y0)) (Nat.div_mul_le_self X D) ?_ ?_ g1 ?_
 · exact e2.trans (kn_ac (wd d (y0 + 1)) (wd d y0) (2 ^ (64 * y0)) (nv (d.take y0)))
 · exact e1.trans (kn_ac (wd u (j + (y0 + 2)) * 18446744073709551616 + wd u (j + (y0 + 1))) (wd u (j + y0)) (2 ^ (64 * y0)) (sg u j y0))
 · refine Classical.byContradiction fun hc => ?_
   have := (Knu.test_mid (B := 18446744073709551616) (g := G) (d1 := wd d (y0 + 1)) (d2 := wd d y0) (X := wd u (j + (y0 + 2)) * 18446744073709551616 + wd u (j + (y0 + 1))) (r3 := wd u (j + y0)) (low := low) (by omega)).2 (Nat.le_of_not_lt hc)
   omega
theorem kn_great {X D : Nat} (h : X < D * 18446744073709551616) : X / D ≤ 18446744073709551615 := by
 have hD : 0 < D := by
  rcases Nat.eq_zero_or_pos D with q | q
  · rw [q, Nat.zero_mul] at h; omega
  · exact q
 have := (Nat.div_lt_iff_lt_mul hD).2 (by rw [Nat.mul_comm]; exact h)
 omega
open Go Go.RowKit Go.Proofs.YtkdicconchobfaaGreatDoorW.PrintWords Limb Exq
theorem put_gr {e base n c : Nat} {ok : Nat → Prop} {W : World} {g : Nat} {ys : List Nat} (h : kU.R e W base ok (.slice (some ⟨g, 0, none⟩) n c) ys) (k u : Nat) : W.grownBy (W.setCell ⟨g, k, none⟩ (.int .u64 (u : Int))) (some g) := (Kd.R_putg h (k : Int) u).2
theorem grown_drewN {w W : World} {row : Option Nat} (h : w.grownBy W row) (n : Nat) : w.grownBy (W.drewN n) row := ⟨h.os, h.tape, h.output, h.size, h.block⟩
theorem grown_refl (w : World) (row : Option Nat) : w.grownBy w row := ⟨rfl, rfl, rfl, Nat.le_refl _, fun _ _ _ => rfl⟩
theorem quiet_add2 {P : Program} {f : FuncId} {args : Array Value} {w : World} {a n : Nat} {v : Value}
 (h : Calls P f args (w.drewN (a + n)) fun e w' => e = .returned v ∧ ∃ m, w' = (w.drewN (a + n)).drewN m) :
 Calls P f args (w.drewN (a + n)) fun e w'' => e = .returned v ∧ ∃ m, w'' = w.drewN (a + m) :=
 h.mono fun _ _ ⟨he, m, hm⟩ => ⟨he, n + m, by rw [hm, World.drewN_drewN, Nat.add_assoc]⟩
theorem step_any {g N cap j n c' cd e base : Nat} {ok : Nat → Prop} {o dl : List Nat} {DA : Option Addr} {w : World} (hR : kU.R e w base ok (.slice (some ⟨g, 0, none⟩) N cap) o) (hN : o.length = N) (hW : Wf o) (hj : j + n + 1 ≤ N) (hNl : N ≤ 4294967296) (hc' : n + 1 ≤ c')
 (hd : ∀ W, w.grownBy W (some g) → kU.C W DA n dl) (hn : dl.length = n) (hcd : n ≤ cd) (wdl : Wf dl) (h2 : 2 ≤ n) (hX : sg o j (n + 1) < nv dl * 18446744073709551616) :
 Calls Tryz.prog 150 #[.slice (some ⟨g, j, none⟩) (n + 1) c', .slice DA n cd] w fun en w' => ∃ o', en = .returned (.int .u64 ((sg o j (n + 1) / nv dl : Nat) : Int)) ∧ kU.R e w' base ok (.slice (some ⟨g, 0, none⟩) N cap) o' ∧ o'.length = N ∧ Wf o' ∧ sg o' j (n + 1) = sg o j (n + 1) % nv dl ∧ (∀ m, m < j ∨ j + n < m → o'[m]? = o[m]?) ∧ w.grownBy w' (some g) := by
 obtain ⟨ad, x0, rfl, -, -⟩ := at_word (hd w (grown_refl w _)) hn 0 (by omega)
 clear x0
 have HD := yk (fun (W : World) (hW : w.grownBy W (some g)) (i : Nat) (hi : i < n) => (by
  obtain ⟨ad', x, he, hx, hc⟩ := at_word (hd W hW) hn i hi
  injection he with he
  subst he
  rw [wd_of hx]
  exact hc : W.cell? (ad.add i) = some (.int .u64 (wd dl i : Int))))
 obtain ⟨n1, hn1⟩ : ∃ n1, n1 = n - 1 := ⟨_, rfl⟩
 obtain ⟨n2, hn2⟩ : ∃ n2, n2 = n - 2 := ⟨_, rfl⟩
 have en1 : (n : Int) - 1 = (n1 : Int) := by omega
 have en2 : (n : Int) - 2 = (n2 : Int) := by omega
 have ln1 : n1 < n := by omega
 have ln2 : n2 < n := by omega
 obtain ⟨X, eX⟩ : ∃ X, X = sg o j (n + 1) := ⟨_, rfl⟩
 obtain ⟨D, eD⟩ : ∃ D, D = nv dl := ⟨_, rfl⟩
 rw [← eX, ← eD] at hX
 have HX := yk hX
 have EX := yk eX
 have ED := yk eD
 have ED2 := yk (show D = nv (dl.take n) by rw [eD, nv_take_all (by omega)])
 have HN := yk hN
 have HW := yk hW
 have WD := yk wdl
 have HDn := yk hn
 have N1 := yk hn1
 have N2 := yk hn2
 have HR := yk hR
 have HGR := yk (grown_refl w (some g))
 rw [← eX, ← eD]
 have hjn : j + n < N := by omega
 have hjn1 : j + n1 < N := by omega
 have hjn2 : j + n2 < N := by omega
 clear hR hd hN hW wdl hn hX eX eD hn1 hn2
 obtain ⟨t0, ht0⟩ : ∃ t, wd o (j + n) = t := ⟨_, rfl⟩
 obtain ⟨t1, ht1⟩ : ∃ t, wd o (j + n1) = t := ⟨_, rfl⟩
 obtain ⟨t2, ht2⟩ : ∃ t, wd o (j + n2) = t := ⟨_, rfl⟩
 obtain ⟨d1, hd1⟩ : ∃ t, wd dl n1 = t := ⟨_, rfl⟩
 obtain ⟨d2, hd2⟩ : ∃ t, wd dl n2 = t := ⟨_, rfl⟩
 have lt0 : t0 < 18446744073709551616 := by rw [← ht0]; exact wd_lt HW.out _
 have lt1 : t1 < 18446744073709551616 := by rw [← ht1]; exact wd_lt HW.out _
 have lt2 : t2 < 18446744073709551616 := by rw [← ht2]; exact wd_lt HW.out _
 have ld1 : d1 < 18446744073709551616 := by rw [← hd1]; exact wd_lt WD.out _
 have ld2 : d2 < 18446744073709551616 := by rw [← hd2]; exact wd_lt WD.out _
 obtain ⟨c0, -⟩ := put_word HR.out hjn
 obtain ⟨c1, -⟩ := put_word HR.out hjn1
 obtain ⟨c2, -⟩ := put_word HR.out hjn2
 have k1 := HD.out w HGR.out n1 ln1
 have k2 := HD.out w HGR.out n2 ln2
 rw [ht0] at c0
 rw [ht1] at c1
 rw [ht2] at c2
 rw [hd1] at k1
 rw [hd2] at k2
 have T0 := yk ht0
 have T1 := yk ht1
 have T2 := yk ht2
 have D1 := yk hd1
 have D2 := yk hd2
 clear ht0 ht1 ht2 hd1 hd2
 go_enter Tryz.func150, Tryz.ntmps150
 go_upto_region 3 with (fail)
 rename_i K1 h1 K2 h2
 have KEY : ∀ {G nw : Nat} {z7 z8 z9 z22 z23 z24 z25 z26 z27 z28 z29 z30 z31 z32 z33 z34 z35 z36 z37 z38 z39 z40 z41 z42 z43 z44 z45 z46 z47 z48 z49 z50 z51 z52 z53 z54 z55 z56 z57 z58 z59 z60 z61 z62 z63 z64 z65 z66 z67 z68 z69 z70 z71 z72 z73 z74 z75 z76 z77 z78 z79 z80 z81 z82 z83 z84 z85 z86 z87 z88 z89 z90 z91 z92 : Value}, G < 18446744073709551616 → Aside0 (X / D ≤ G) → K1 { tmps := #[.slice (some ⟨g, j, none⟩) (n + 1) c', .slice (some ad) n cd, undef, undef, .int .u64 0, .int .i64 (n : Int), .int .u64 (G : Int), z7, z8, z9, undef, undef, undef, undef, undef, undef, undef, undef, undef, undef, .slice (some ad) n cd, .int .i64 (n : Int), z22, z23, z24, z25, z26, z27, z28, z29, z30, z31, z32, z33, z34, z35, z36, z37, z38, z39, z40, z41, z42, z43, z44, z45, z46, z47, z48, z49, z50, z51, z52, z53, z54, z55, z56, z57, z58, z59, z60, z61, z62, z63, z64, z65, z66, z67, z68, z69, z70, z71, z72, z73, z74, z75, z76, z77, z78, z79, z80, z81, z82, z83, z84, z85, z86, z87, z88, z89, z90, z91, z92, undef, undef, undef, undef, undef, undef, undef, undef, undef, undef, undef, undef, undef, undef, undef, undef, undef, undef, undef, undef, undef, undef, undef, undef, undef, undef, undef, undef, undef, undef, undef, undef, undef, undef, undef, undef, undef, undef, undef, undef, undef, undef, undef, undef, undef, undef, undef, undef, undef, undef, undef, undef, undef, undef, undef, undef, undef, undef, undef, undef, undef, undef, undef, undef, undef, undef, undef, undef, undef, undef, undef, undef, undef, undef, undef, undef, undef, undef, undef, undef, undef, undef, undef, undef, undef, undef, undef, undef, undef, undef], defers := [] } (w.drewN nw) := by
  intro G nw z7 z8 z9 z22 z23 z24 z25 z26 z27 z28 z29 z30 z31 z32 z33 z34 z35 z36 z37 z38 z39 z40 z41 z42 z43 z44 z45 z46 z47 z48 z49 z50 z51 z52 z53 z54 z55 z56 z57 z58 z59 z60 z61 z62 z63 z64 z65 z66 z67 z68 z69 z70 z71 z72 z73 z74 z75 z76 z77 z78 z79 z80 z81 z82 z83 z84 z85 z86 z87 z88 z89 z90 z91 z92 lG IQ
  refine h1 _ _ ?_
  clear h1 h2 c0 c1 c2 k1 k2
  go_wp2
  go_loopw [10, 11, 95] (fun v10 v11 v95 wx => ∃ (i cy ls : Nat) (u : List Nat), v10 = .int .u64 ls ∧ v11 = .int .u64 cy ∧ v95 = .int .i64 i ∧ i ≤ n ∧ ls ≤ 1 ∧ cy < 18446744073709551616 ∧ Aside0 (w.grownBy wx (some g)) ∧ Aside0 (kU.R e wx base ok (.slice (some ⟨g, 0, none⟩) N cap) u) ∧ Aside0 (u.length = N ∧ Wf u ∧ (∀ m, m < j ∨ j + i ≤ m → u[m]? = o[m]?) ∧ sg u j i + G * nv (dl.take i) = sg o j i + 2 ^ (64 * i) * (cy + ls))) (fun _ _ v95 _ => n - (intOf v95).toNat)
  case atStart => exact ⟨0, 0, 0, o, rfl, rfl, rfl, Nat.zero_le _, by omega, by omega, ⟨grown_drewN HGR.out _⟩, ⟨Kd.R_drewN HR.out _⟩, ⟨HN.out, HW.out, fun _ _ => rfl, by simp [sg_zero, nv]⟩⟩
  case round =>
   obtain ⟨i, cy, ls, u, rfl, rfl, rfl, hi_, hls, hcy, HGA, HRA, HUA⟩ := hrel
   by_cases hlt_ : i < n
   · obtain ⟨x, hx⟩ : ∃ x, wd dl i = x := ⟨_, rfl⟩
     obtain ⟨y, hy⟩ : ∃ y, wd u (j + i) = y := ⟨_, rfl⟩
     have kx := HD.out wr HGA.out i hlt_
     rw [hx] at kx
     have hji : j + i < N := by omega
     obtain ⟨hw1, hw2, hput⟩ := put_word HRA.out hji
     rw [hy] at hw1
     have lx : x < 18446744073709551616 := by rw [← hx]; exact wd_lt WD.out _
     have ly : y < 18446744073709551616 := by rw [← hy]; exact wd_lt HUA.out.2.1 _
     have HY := yk hy
     have HXX := yk hx
     clear hx hy
     obtain ⟨hiA, loA, ehA, elA, epA, lhA, llA⟩ := kn_mul lG lx
     have QMA := yk (fun m => Tryz.bits_Mul64 G x lG lx m)
     rw [← ehA, ← elA] at QMA
     have EPA := yk epA
     clear ehA elA epA
     obtain ⟨s, c1, ls_, lc1, es, hadd⟩ : ∃ rs rc : Nat, rs < 18446744073709551616 ∧ rc ≤ 1 ∧ rs + 18446744073709551616 * rc = loA + cy + 0 ∧ ∀ W : World, (callFunc 134 #[.int .u64 (loA : Int), .int .u64 (cy : Int), .int .u64 0]).run Tryz.prog W = .ok (.value (.tuple #[.int .u64 (rs : Int), .int .u64 (rc : Int)])) W := ⟨(loA + cy + 0) % 18446744073709551616, (loA + cy + 0) / 18446744073709551616, by omega, by omega, by omega, fun W => Tryz.bits_Add64 loA cy 0 (by decide) W⟩
     obtain ⟨t, b, lt_, lb, et, hsub⟩ : ∃ rs rc : Nat, rs < 18446744073709551616 ∧ rc ≤ 1 ∧ rs + s + ls = y + 18446744073709551616 * rc ∧ ∀ W : World, (callFunc 135 #[.int .u64 (y : Int), .int .u64 (s : Int), .int .u64 (ls : Int)]).run Tryz.prog W = .ok (.value (.tuple #[.int .u64 (rs : Int), .int .u64 (rc : Int)])) W := ⟨(y + 18446744073709551616 - s - ls) % 18446744073709551616, if y < s + ls then 1 else 0, by omega, by split <;> omega, by split <;> omega, fun W => Tryz.bits_Sub64 y s ls hls W⟩
     obtain ⟨C, hC⟩ : ∃ C, C = hiA + c1 := ⟨_, rfl⟩
     have lC : C < 18446744073709551616 := by omega
     have eC : (hiA : Int) + (c1 : Int) = (C : Int) := by omega
     have HC := yk hC
     have HES := yk es
     have HET := yk et
     have HPUT := yk (hput t)
     have HGP := yk (put_gr HRA.out (j + i) t)
     have hst := run_store_word (P := Tryz.prog) (u := (t : Int)) hw1 hw2
     clear hC es et hput
     go_wp2_with (go_at_call 151; refine (QMA.out _).mono ?_; rintro e5 w5 ⟨rfl, rfl⟩)
     go_roundw
     case rel => exact ⟨i + 1, C, b, u.set (j + i) t, by go_num, by go_num, by go_num, by omega, lb, lC, ⟨HGA.out.trans HGP.out⟩, HPUT, ⟨by simp [HUA.out.1], HUA.out.2.1.set lt_, fun m hm => by
      rw [List.getElem?_set_ne (by omega)]; exact HUA.out.2.2.1 m (by omega), by
      have ey : wd o (j + i) = y := by rw [← HY.out]; exact (wd_eq_of (HUA.out.2.2.1 _ (by omega))).symm
      rw [sg_set (by rw [HUA.out.1]; exact hji), nv_take_succ, sg_succ, ey, HXX.out, HC.out]
      exact kn_sub HUA.out.2.2.2 EPA.out HES.out HET.out⟩⟩
     case measure => simp [intOf]; omega
   · obtain rfl : i = n := by omega
     obtain ⟨y, hy⟩ : ∃ y, wd u (j + i) = y := ⟨_, rfl⟩
     obtain ⟨hw1, hw2, hput⟩ := put_word HRA.out hjn
     rw [hy] at hw1
     have ly : y < 18446744073709551616 := by rw [← hy]; exact wd_lt HUA.out.2.1 _
     have HY := yk hy
     clear hy
     obtain ⟨t, b, lt_, lb, et, hsub⟩ : ∃ rs rc : Nat, rs < 18446744073709551616 ∧ rc ≤ 1 ∧ rs + cy + ls = y + 18446744073709551616 * rc ∧ ∀ W : World, (callFunc 135 #[.int .u64 (y : Int), .int .u64 (cy : Int), .int .u64 (ls : Int)]).run Tryz.prog W = .ok (.value (.tuple #[.int .u64 (rs : Int), .int .u64 (rc : Int)])) W := ⟨(y + 18446744073709551616 - cy - ls) % 18446744073709551616, if y < cy + ls then 1 else 0, by omega, by split <;> omega, by split <;> omega, fun W => Tryz.bits_Sub64 y cy ls hls W⟩
     have HET := yk et
     have HPUT := yk (hput t)
     have HGP := yk (put_gr HRA.out (j + i) t)
     have hst := run_store_word (P := Tryz.prog) (u := (t : Int)) hw1 hw2
     have HB := yk (show sg (u.set (j + i) t) j (i + 1) + G * D = X + b * 2 ^ (64 * (i + 1)) by
      have ey : wd o (j + i) = y := by rw [← HY.out]; exact (wd_eq_of (HUA.out.2.2.1 _ (by omega))).symm
      rw [sg_set (by rw [HUA.out.1]; exact hjn), EX.out, sg_succ o, ey]
      have h := HUA.out.2.2.2
      rw [← ED2.out] at h
      exact kn_top h HET.out)
     clear et hput
     go_wp2
     go_loopw [6, 10] (fun v6 v10 wx => ∃ (G ls : Nat) (u : List Nat), v6 = .int .u64 G ∧ v10 = .int .u64 ls ∧ ls ≤ 1 ∧ G < 18446744073709551616 ∧ Aside0 (w.grownBy wx (some g)) ∧ Aside0 (kU.R e wx base ok (.slice (some ⟨g, 0, none⟩) N cap) u) ∧ Aside0 (X / D ≤ G) ∧ Aside0 (u.length = N ∧ Wf u ∧ (∀ m, m < j ∨ j + i < m → u[m]? = o[m]?) ∧ sg u j (i + 1) + G * D = X + ls * 2 ^ (64 * (i + 1)))) (fun v6 _ _ => (intOf v6).toNat)
     case atStart => exact ⟨G, b, u.set (j + i) t, rfl, rfl, lb, lG, ⟨HGA.out.trans HGP.out⟩, HPUT, IQ, ⟨by simp [HUA.out.1], HUA.out.2.1.set lt_, fun m hm => by
      rw [List.getElem?_set_ne (by omega)]; exact HUA.out.2.2.1 m (by omega), HB.out⟩⟩
     case round =>
      obtain ⟨G, lB, uB, rfl, rfl, hlB, lG_, HGB, HRB, HQB, HUB⟩ := hrel
      have hDp : 0 < D := by
       rcases Nat.eq_zero_or_pos D with q | q
       · have := HX.out; rw [q] at this; omega
       · exact q
      obtain ⟨z0, z1⟩ := Knu.sub_all (W := 2 ^ (64 * (i + 1))) HUB.out.2.2.2 (sg_lt HUB.out.2.1 j (i + 1)) HQB.out rfl hDp hlB
      by_cases hl0 : lB = 0
      · subst hl0
        obtain ⟨z2, z3⟩ := z0 rfl
        have Z2 := yk z2
        have Z3 := yk z3
        clear z0 z1 z2 z3
        go_wp2
        go_ret
        exact ⟨uB, by rw [← Z2.out]; rfl, HRB.out, HUB.out.1, HUB.out.2.1, Z3.out, HUB.out.2.2.1, HGB.out⟩
      · obtain rfl : lB = 1 := by omega
        have z2 := z1 rfl
        obtain ⟨G', hG'⟩ : ∃ G', G' = G - 1 := ⟨_, rfl⟩
        have hG1 : 1 ≤ G := Nat.lt_of_le_of_lt (Nat.zero_le _) z2
        have eG' : (G : Int) - 1 = (G' : Int) := by omega
        have Z2 := yk (show X / D ≤ G' ∧ 0 < G from ⟨by rw [hG']; exact Nat.le_sub_one_of_lt z2, Nat.lt_of_le_of_lt (Nat.zero_le _) z2⟩)
        have HG' := yk hG'
        have lG' : G' < 18446744073709551616 := by omega
        have hmes : G' < G := by omega
        clear z0 z1 z2 hl0 hG'
        go_wp2
        go_loopw [17, 148] (fun v17 v148 wx => ∃ (k c : Nat) (uC : List Nat), v17 = .int .u64 c ∧ v148 = .int .i64 k ∧ k ≤ i ∧ c ≤ 1 ∧ Aside0 (w.grownBy wx (some g)) ∧ Aside0 (kU.R e wx base ok (.slice (some ⟨g, 0, none⟩) N cap) uC) ∧ Aside0 (uC.length = N ∧ Wf uC ∧ (∀ m, m < j ∨ j + k ≤ m → uC[m]? = uB[m]?) ∧ sg uC j k + 2 ^ (64 * k) * c = sg uB j k + nv (dl.take k))) (fun _ v148 _ => i - (intOf v148).toNat)
        case atStart => exact ⟨0, 0, uB, rfl, rfl, Nat.zero_le _, by omega, HGB, HRB, ⟨HUB.out.1, HUB.out.2.1, fun _ _ => rfl, by simp [sg_zero, nv]⟩⟩
        case round =>
         obtain ⟨k, c, uC, rfl, rfl, hk, hc, HGC, HRC, HUC⟩ := hrel
         by_cases hlt2 : k < i
         · obtain ⟨x, hx⟩ : ∃ x, wd dl k = x := ⟨_, rfl⟩
           obtain ⟨y2, hy2⟩ : ∃ y, wd uC (j + k) = y := ⟨_, rfl⟩
           have kx := HD.out wr HGC.out k hlt2
           rw [hx] at kx
           have hji : j + k < N := by omega
           obtain ⟨hw3, hw4, hput2⟩ := put_word HRC.out hji
           rw [hy2] at hw3
           have lx : x < 18446744073709551616 := by rw [← hx]; exact wd_lt WD.out _
           have ly2 : y2 < 18446744073709551616 := by rw [← hy2]; exact wd_lt HUC.out.2.1 _
           have HY2 := yk hy2
           have HXX := yk hx
           clear hx hy2
           obtain ⟨s2, c2_, ls2, lc2, es2, hadd2⟩ : ∃ rs rc : Nat, rs < 18446744073709551616 ∧ rc ≤ 1 ∧ rs + 18446744073709551616 * rc = y2 + x + c ∧ ∀ W : World, (callFunc 134 #[.int .u64 (y2 : Int), .int .u64 (x : Int), .int .u64 (c : Int)]).run Tryz.prog W = .ok (.value (.tuple #[.int .u64 (rs : Int), .int .u64 (rc : Int)])) W := ⟨(y2 + x + c) % 18446744073709551616, (y2 + x + c) / 18446744073709551616, by omega, by omega, by omega, fun W => Tryz.bits_Add64 y2 x c hc W⟩
           have HES := yk es2
           have HPUT2 := yk (hput2 s2)
           have HGP2 := yk (put_gr HRC.out (j + k) s2)
           have hst2 := run_store_word (P := Tryz.prog) (u := (s2 : Int)) hw3 hw4
           clear es2 hput2
           go_wp2
           go_roundw
           case rel => exact ⟨k + 1, c2_, uC.set (j + k) s2, by go_num, by go_num, by omega, lc2, ⟨HGC.out.trans HGP2.out⟩, HPUT2, ⟨by simp [HUC.out.1], HUC.out.2.1.set ls2, fun m hm => by
            rw [List.getElem?_set_ne (by omega)]; exact HUC.out.2.2.1 m (by omega), by
            have ey : wd uB (j + k) = y2 := by rw [← HY2.out]; exact (wd_eq_of (HUC.out.2.2.1 _ (by omega))).symm
            rw [sg_set (by rw [HUC.out.1]; exact hji), nv_take_succ, sg_succ, ey, HXX.out]
            exact add_step HUC.out.2.2.2 HES.out rfl⟩⟩
           case measure => simp [intOf]; omega
         · obtain rfl : k = i := by omega
           obtain ⟨y2, hy2⟩ : ∃ y, wd uC (j + k) = y := ⟨_, rfl⟩
           obtain ⟨hw3, hw4, hput2⟩ := put_word HRC.out hjn
           rw [hy2] at hw3
           have ly2 : y2 < 18446744073709551616 := by rw [← hy2]; exact wd_lt HUC.out.2.1 _
           have HY2 := yk hy2
           clear hy2
           obtain ⟨s2, c2_, ls2, lc2, es2, hadd2⟩ : ∃ rs rc : Nat, rs < 18446744073709551616 ∧ rc ≤ 1 ∧ rs + 18446744073709551616 * rc = y2 + 0 + c ∧ ∀ W : World, (callFunc 134 #[.int .u64 (y2 : Int), .int .u64 0, .int .u64 (c : Int)]).run Tryz.prog W = .ok (.value (.tuple #[.int .u64 (rs : Int), .int .u64 (rc : Int)])) W := ⟨(y2 + 0 + c) % 18446744073709551616, (y2 + 0 + c) / 18446744073709551616, by omega, by omega, by omega, fun W => Tryz.bits_Add64 y2 0 c hc W⟩
           have HES := yk es2
           have HPUT2 := yk (hput2 s2)
           have HGP2 := yk (put_gr HRC.out (j + k) s2)
           have hst2 := run_store_word (P := Tryz.prog) (u := (s2 : Int)) hw3 hw4
           obtain ⟨l, hl⟩ : ∃ l, l = 1 - c2_ := ⟨_, rfl⟩
           have el : 1 - (c2_ : Int) = (l : Int) := by omega
           have ll : l ≤ 1 := by omega
           have HL := yk (show sg (uC.set (j + k) s2) j (k + 1) + G' * D = X + l * 2 ^ (64 * (k + 1)) by
            have ey : wd uB (j + k) = y2 := by rw [← HY2.out]; exact (wd_eq_of (HUC.out.2.2.1 _ (by omega))).symm
            have hA : sg (uC.set (j + k) s2) j (k + 1) + c2_ * 2 ^ (64 * (k + 1)) = sg uB j (k + 1) + D := by
             have h := add_step HUC.out.2.2.2 HES.out (rfl : sg uC j k + 2 ^ (64 * k) * s2 = _)
             rw [sg_set (by rw [HUC.out.1]; exact hjn), sg_succ uB, ey, ED2.out, Nat.mul_comm c2_, h]; omega
            have hR0 := HUB.out.2.2.2
            rw [Nat.one_mul] at hR0
            obtain ⟨l', h1, h2⟩ := Knu.add_back hR0 Z2.out.2 hA lc2
            rw [HG'.out, h2]
            have : l' = l := by omega
            rw [this])
           clear es2 hput2 hl
           go_wp2
           go_roundw
           case rel => exact ⟨G', l, uC.set (j + k) s2, by go_num, by go_num, ll, lG', ⟨HGC.out.trans HGP2.out⟩, HPUT2, ⟨Z2.out.1⟩, ⟨by simp [HUC.out.1], HUC.out.2.1.set ls2, fun m hm => by
            rw [List.getElem?_set_ne (by omega), HUC.out.2.2.1 m (by omega)]; exact HUB.out.2.2.1 m (by omega), HL.out⟩⟩
           case measure => simp [intOf]; omega
 clear h1
 by_cases hlt : (t0 : Int) < (d1 : Int)
 · obtain ⟨G0, hG0⟩ : ∃ G0, G0 = (t0 * 18446744073709551616 + t1) / d1 := ⟨_, rfl⟩
   obtain ⟨L0, hL0⟩ : ∃ L0, L0 = (t0 * 18446744073709551616 + t1) % d1 := ⟨_, rfl⟩
   have QD := yk (fun m => div64_any t0 t1 d1 (by omega) ld1 lt1 m)
   rw [← hG0, ← hL0] at QD
   obtain ⟨iq, lG0⟩ := kn_first (G := G0) (n := n) (y0 := n2) (by have := N2.out; omega) EX.out ED2.out HW.out WD.out (by rw [← N1.out, T0.out, D1.out]; omega) (by rw [← N1.out, T0.out, T1.out, D1.out]; exact hG0)
   have IQ := yk iq
   have E0 := yk (show G0 * d1 + L0 = t0 * 18446744073709551616 + t1 by rw [hG0, hL0, Nat.mul_comm]; exact Nat.div_add_mod _ _)
   have lL1 : L0 < d1 := by rw [hL0]; exact Nat.mod_lt _ (by omega)
   have lL0 : L0 < 18446744073709551616 := by omega
   clear iq hG0 hL0
   go_quiet (fail)
   go_wp2
   go_quiet ((go_at_call 152; first | exact quiet_add2 (QD.out _) | exact Calls.quiet_of (QD.out _)))
   go_wp2
   go_loopw [6, 7] (fun v6 v7 wx => ∃ G low : Nat, v6 = .int .u64 G ∧ v7 = .int .u64 low ∧ G < 18446744073709551616 ∧ low < 18446744073709551616 ∧ Aside0 (∃ n, wx = w.drewN n) ∧ Aside0 (G * d1 + low = t0 * 18446744073709551616 + t1) ∧ Aside0 (X / D ≤ G)) (fun v6 _ _ => (intOf v6).toNat)
   case atStart => exact ⟨G0, L0, rfl, rfl, lG0, lL0, ⟨⟨_, World.drewN_drewN _ _ _⟩⟩, E0, IQ⟩
   case round =>
    obtain ⟨G, low, rfl, rfl, lG, llow, HWR, E1, IQ1⟩ := hrel
    obtain ⟨nw, rfl⟩ := HWR.out
    clear HWR
    obtain ⟨hiG, loG, ehG, elG, epG, lhG, llG⟩ := kn_mul lG ld2
    have QMG := yk (fun m => Tryz.bits_Mul64 G d2 lG ld2 m)
    rw [← ehG, ← elG] at QMG
    have EPG := yk epG
    clear ehG elG epG
    by_cases c1_ : (hiG : Int) < (low : Int)
    · go_wp2_with (go_at_call 151; refine (QMG.out _).mono ?_; rintro e5 w5 ⟨rfl, rfl⟩); exact KEY lG IQ1
    · have c1' : decide ((hiG : Int) < (low : Int)) = false := decide_eq_false c1_
      by_cases c2_ : hiG = low
      · subst c2_
        have c2' : ((hiG : Int) == (hiG : Int)) = true := by simp
        by_cases c3_ : (loG : Int) ≤ (t2 : Int)
        · go_wp2_with (go_at_call 151; refine (QMG.out _).mono ?_; rintro e5 w5 ⟨rfl, rfl⟩); exact KEY lG IQ1
        · have c3' : decide ((loG : Int) ≤ (t2 : Int)) = false := decide_eq_false c3_
          have hq := kn_next (n := n) (y0 := n2) (low := hiG) (by have := N2.out; omega) EX.out ED2.out HW.out WD.out (by rw [← N1.out, T0.out, T1.out, D1.out]; exact E1.out) (by rw [← N2.out, T2.out, D2.out, ← EPG.out]; omega)
          obtain ⟨G', hG'⟩ : ∃ G', G' = G - 1 := ⟨_, rfl⟩
          have hG1 : 1 ≤ G := Nat.lt_of_le_of_lt (Nat.zero_le _) hq
          have eG' : (G : Int) - 1 = (G' : Int) := by omega
          have Z2 := yk (show X / D ≤ G' ∧ 0 < G from ⟨by rw [hG']; exact Nat.le_sub_one_of_lt hq, Nat.lt_of_le_of_lt (Nat.zero_le _) hq⟩)
          have HG' := yk hG'
          have lG' : G' < 18446744073709551616 := by omega
          have hmes : G' < G := by omega
          clear hq hG'
          by_cases hO : (hiG : Int) + (d1 : Int) < 18446744073709551616
          · obtain ⟨S, hS⟩ : ∃ S, S = hiG + d1 := ⟨_, rfl⟩
            have eS : (hiG : Int) + (d1 : Int) = (S : Int) := by omega
            have lS : S < 18446744073709551616 := by omega
            have dS : decide ((S : Int) < (d1 : Int)) = false := decide_eq_false (by omega)
            have HS := yk (show G' * d1 + S = t0 * 18446744073709551616 + t1 by
             have h := E1.out
             obtain ⟨m, hm⟩ : ∃ m, G = m + 1 := ⟨G - 1, by omega⟩
             have h2 := HG'.out
             rw [hm, Nat.add_sub_cancel] at h2
             rw [hm, Nat.add_mul, Nat.one_mul] at h
             rw [h2]; omega)
            clear hS hO
            go_wp2_with (go_at_call 151; refine (QMG.out _).mono ?_; rintro e5 w5 ⟨rfl, rfl⟩)
            go_roundw
            case rel => exact ⟨G', S, by go_num, by go_num, lG', lS, ⟨⟨_, rfl⟩⟩, HS, ⟨Z2.out.1⟩⟩
            case measure => simp [intOf]; omega
          · obtain ⟨S, hS⟩ : ∃ S, S = hiG + d1 - 18446744073709551616 := ⟨_, rfl⟩
            have eS : IntKind.u64.wrap ((hiG : Int) + (d1 : Int)) = (S : Int) := by rw [u64_mod]; omega
            have dS : (S : Int) < (d1 : Int) := by omega
            have IQ' := yk Z2.out.1
            clear hS hO
            go_wp2_with (go_at_call 151; refine (QMG.out _).mono ?_; rintro e5 w5 ⟨rfl, rfl⟩); exact KEY lG' IQ'
      · have c2' : ((hiG : Int) == (low : Int)) = false := by simp; omega
        have hq := kn_next (n := n) (y0 := n2) (low := low) (by have := N2.out; omega) EX.out ED2.out HW.out WD.out (by rw [← N1.out, T0.out, T1.out, D1.out]; exact E1.out) (by rw [← N2.out, T2.out, D2.out, ← EPG.out]; omega)
        obtain ⟨G', hG'⟩ : ∃ G', G' = G - 1 := ⟨_, rfl⟩
        have hG1 : 1 ≤ G := Nat.lt_of_le_of_lt (Nat.zero_le _) hq
        have eG' : (G : Int) - 1 = (G' : Int) := by omega
        have Z2 := yk (show X / D ≤ G' ∧ 0 < G from ⟨by rw [hG']; exact Nat.le_sub_one_of_lt hq, Nat.lt_of_le_of_lt (Nat.zero_le _) hq⟩)
        have HG' := yk hG'
        have lG' : G' < 18446744073709551616 := by omega
        have hmes : G' < G := by omega
        clear hq hG'
        by_cases hO : (low : Int) + (d1 : Int) < 18446744073709551616
        · obtain ⟨S, hS⟩ : ∃ S, S = low + d1 := ⟨_, rfl⟩
          have eS : (low : Int) + (d1 : Int) = (S : Int) := by omega
          have lS : S < 18446744073709551616 := by omega
          have dS : decide ((S : Int) < (d1 : Int)) = false := decide_eq_false (by omega)
          have HS := yk (show G' * d1 + S = t0 * 18446744073709551616 + t1 by
           have h := E1.out
           obtain ⟨m, hm⟩ : ∃ m, G = m + 1 := ⟨G - 1, by omega⟩
           have h2 := HG'.out
           rw [hm, Nat.add_sub_cancel] at h2
           rw [hm, Nat.add_mul, Nat.one_mul] at h
           rw [h2]; omega)
          clear hS hO
          go_wp2_with (go_at_call 151; refine (QMG.out _).mono ?_; rintro e5 w5 ⟨rfl, rfl⟩)
          go_roundw
          case rel => exact ⟨G', S, by go_num, by go_num, lG', lS, ⟨⟨_, rfl⟩⟩, HS, ⟨Z2.out.1⟩⟩
          case measure => simp [intOf]; omega
        · obtain ⟨S, hS⟩ : ∃ S, S = low + d1 - 18446744073709551616 := ⟨_, rfl⟩
          have eS : IntKind.u64.wrap ((low : Int) + (d1 : Int)) = (S : Int) := by rw [u64_mod]; omega
          have dS : (S : Int) < (d1 : Int) := by omega
          have IQ' := yk Z2.out.1
          clear hS hO
          go_wp2_with (go_at_call 151; refine (QMG.out _).mono ?_; rintro e5 w5 ⟨rfl, rfl⟩); exact KEY lG' IQ'
 · have hge : decide ((t0 : Int) < (d1 : Int)) = false := decide_eq_false hlt
   have IQ := yk (kn_great HX.out)
   have lG0 : 18446744073709551615 < 18446744073709551616 := by decide
   go_quiet (fail)
   go_wp2
   exact KEY lG0 IQ
def DL (w : World) (b S : Nat) (v : Value) (m : Nat) : Prop := ∃ A n c c' l', v = .slice A n c ∧ (limbs m).length = n ∧ n ≤ c ∧ l'.take n = limbs m ∧ kU.R 64 w b (fun k => k < S) (.slice A l'.length c') l'
theorem PN.dl {w : World} {b m : Nat} {v : Value} (h : PN w b v m) : DL w b w.heap.size v m := by
 obtain ⟨A, n, c, c', l', h1, h2, h3, h4, hr⟩ := h
 exact ⟨A, n, c, c', l', h1, h2, h3, h4, Kd.R_mono (Kd.R_bound hr) (fun k hk => hk.2.2.1)⟩
theorem DL.below {w w1 : World} {b S m : Nat} {v : Value} (h : DL w b S v m) (hb : BL w w1) : DL w1 b S v m := by
 obtain ⟨A, n, c, c', l', h1, h2, h3, h4, hr⟩ := h
 exact ⟨A, n, c, c', l', h1, h2, h3, h4, Kd.R_below hr hb⟩
theorem DL.grown {w w1 : World} {b S m g : Nat} {v : Value} (h : DL w b S v m) (hg : w.grownBy w1 (some g)) (hS : S ≤ g) : DL w1 b S v m := by
 obtain ⟨A, n, c, c', l', h1, h2, h3, h4, hr⟩ := h
 exact ⟨A, n, c, c', l', h1, h2, h3, h4, Kd.R_grown hr hg (fun k hk he => by cases he; omega)⟩
theorem DL.c {w : World} {b S m n c : Nat} {A : Option Addr} (h : DL w b S (.slice A n c) m) : kU.C w A n (limbs m) ∧ (limbs m).length = n ∧ n ≤ c := by
 obtain ⟨A', n', c0, c', l', he, h2, h3, h4, hr⟩ := h
 injection he with e1 e2 e3
 subst e1 e2 e3
 obtain ⟨A2, c2, he, _, hC⟩ := Kd.R_reads hr
 injection he with f1 f2 f3
 subst f1
 have hle : n ≤ l'.length := by have := congrArg List.length h4; rw [List.length_take, h2] at this; omega
 have := C_take hC n hle
 rw [h4] at this
 exact ⟨this, h2, h3⟩
theorem R_past {w w1 : World} {e b S g : Nat} {v : Value} {l : List Nat} (h : kU.R e w b (fun k => k < S) v l) (hg : w.grownBy w1 (some g)) (hS : S ≤ g) : kU.R e w1 b (fun k => k < S) v l := Kd.R_grown h hg (fun k hk he => by cases he; omega)
theorem R_ahead {w w1 : World} {e b g : Nat} {v : Value} {l : List Nat} (h : kU.R e w b (fun _ => True) v l) (hg : w.grownBy w1 (some g)) (hS : g < b) : kU.R e w1 b (fun _ => True) v l := by
 refine Kd.R_mono (Kd.R_grown (Kd.R_bound h) hg ?_) (fun _ _ => trivial)
 rintro k ⟨_, hk, _⟩ he
 cases he
 omega
theorem trim_c {w : World} {A : Option Addr} {n c m : Nat} (h : CN w (.slice A n c) m) (hm : bl m ≤ 4294967296) :
 Calls Tryz.prog 109 #[.slice A n c] w fun e w' => e = .returned (.slice A n n) ∧ BL w w' := by
 obtain ⟨A', n', c', he, h1, rfl, h3⟩ := h
 injection he with e1 e2 e3
 subst e1 e2 e3
 have hl := len_le (K := 67108864) hm
 refine (trim_any (limbs m) A c w h1 h3 (wf_limbs _) (by omega)).mono ?_
 rintro e w' ⟨rfl, k, rfl⟩
 rw [nv_limbs]
 exact ⟨rfl, pw_below_drewN yr _⟩
theorem CN.cut {w : World} {A : Option Addr} {n c m : Nat} (h : CN w (.slice A n c) m) : CN w (.slice A n n) m := by
 obtain ⟨A', n', c', he, h1, h2, h3⟩ := h
 injection he with e1 e2 e3
 subst e1 e2 e3
 exact ⟨A, n, n, rfl, h1, h2, Nat.le_refl _⟩
theorem CN.word {w : World} {A : Option Addr} {n c m : Nat} (h : CN w (.slice A n c) m) (hn : 0 < n) : ∃ ad, A = some ad ∧ ∀ i, i < n → w.cell? (ad.add i) = some (.int .u64 (wd (limbs m) i : Int)) := by
 obtain ⟨A', n', c', he, h1, h2, h3⟩ := h
 injection he with e1 e2 e3
 subst e1 e2 e3
 obtain ⟨ad, x, rfl, _, _⟩ := at_word h1 h2 0 hn
 refine ⟨ad, rfl, fun i hi => ?_⟩
 obtain ⟨ad', x, he, hx, hc⟩ := at_word h1 h2 i hi
 injection he with he
 subst he
 rw [wd_of hx]
 exact hc
theorem info_word1 : (Tryz.prog.info? 64).map (·.size) = some 1 := by kernel_rfl
theorem addr_zero (ad : Addr) : ad.add 0 = ad := by cases ad; simp [Addr.add]
theorem run_window (g L cap j h n : Nat) (hn : 0 < n) (hj : h = j + n) (hh : h ≤ cap) : ∀ W : World, (Instr.slice 22 (.slice (some ⟨g, 0, none⟩) L cap) (some (.int .i64 (j : Int))) (some (.int .i64 (h : Int))) none).run Tryz.prog W = .ok (.slice (some ⟨g, j, none⟩) n (cap - j)) W := by
 intro W
 have hu : Tryz.prog.underlying 22 = some (.slice (Tryz.prog.elem 22)) := by kernel_rfl
 rw [run_slice_lh W 22 (some ⟨g, 0, none⟩) L cap hu .i64 .i64 j h (by omega) (by omega) (by omega)]
 have hs : (sizeOf (Tryz.prog.elem 22)).run Tryz.prog W = .ok 1 W := by
  rw [show Tryz.prog.elem 22 = 64 by kernel_rfl]
  exact Tryz.sizeOf64 W
 rw [hs]
 show Result.ok (sliced (some ⟨g, 0, none⟩) ((j : Int)).toNat ((h : Int)).toNat cap 1) W = _
 rw [Int.toNat_natCast, Int.toNat_natCast]
 unfold sliced
 rw [if_neg (by omega), Option.map_some, Nat.mul_one, show h - j = n by omega]
 simp [Addr.add]
 omega
theorem dv_len {b : Nat} (h : 0 < b) : 2 ^ (64 * ((limbs b).length - 1)) ≤ b ∧ b < 2 ^ (64 * (limbs b).length) := by
 constructor
 · refine Classical.byContradiction fun hc => ?_
   have := limbs_len_le (n := b) (k := (limbs b).length - 1) (by omega)
   have hp : (limbs b).length ≠ 0 := fun q => by have := limbs_zero_len.1 q; omega
   omega
 · have := nv_lt (wf_limbs b)
   rwa [nv_limbs] at this
theorem dv_copy {l o0 : List Nat} {ns L : Nat} (h : l.length ≤ L) (hn : l.length = ns) (ho : o0 = l.take (min ns L) ++ (List.replicate L 0).drop (min ns L)) (hw : Wf l := by exact wf_limbs _) : o0.length = L ∧ Wf o0 ∧ nv o0 = nv l := by
 rw [Nat.min_eq_left (by omega), List.take_of_length_le (by omega), List.drop_replicate] at ho
 subst ho
 refine ⟨by rw [List.length_append, List.length_replicate]; omega, ?_, ?_⟩
 · intro x hx
   rcases List.mem_append.1 hx with q | q
   · exact hw x q
   · rw [(List.mem_replicate.1 q).2]; decide
 · rw [nv_append, nv_replicate, Nat.mul_zero, Nat.add_zero]
theorem dv_norm {b n n1 t k : Nat} (h0 : 0 < b) (hn : (limbs b).length = n) (hn1 : n = n1 + 1) (ht : wd (limbs b) n1 = t) (hk : k = 64 - bl t) : 0 < t ∧ t < 18446744073709551616 ∧ k ≤ 63 ∧ bl t ≤ 64 ∧ 2 ^ 63 * 2 ^ (64 * n1) ≤ b * 2 ^ k ∧ b * 2 ^ k < 2 ^ (64 * n) ∧ (limbs (b * 2 ^ k)).length = n := by
 obtain ⟨h1, h2⟩ := dv_len h0
 rw [hn] at h1 h2
 rw [hn1, Nat.add_sub_cancel] at h1
 rw [hn1, pw] at h2
 rw [wd_eq (wf_limbs _), nv_limbs] at ht
 have hM := Nat.two_pow_pos (64 * n1)
 have hq : b / 2 ^ (64 * n1) < 2 ^ 64 := (Nat.div_lt_iff_lt_mul hM).2 h2
 rw [Nat.mod_eq_of_lt hq] at ht
 have hq1 : 1 ≤ b / 2 ^ (64 * n1) := (Nat.le_div_iff_mul_le hM).2 (by omega)
 have hd := Nat.div_add_mod b (2 ^ (64 * n1))
 have hm := Nat.mod_lt b hM
 rw [ht] at hd hq hq1
 have hb1 := bl_lt t
 have hb2 := bl_le (n := t) (by omega)
 have hb3 : bl t ≤ 64 := bl_le_iff.2 hq
 have hb0 : 1 ≤ bl t := by
  rcases Nat.lt_or_ge 0 (bl t) with h | h
  · exact h
  · rw [Nat.le_zero.1 h] at hb1; omega
 have hp := Nat.two_pow_pos k
 have e1 : 2 ^ (bl t - 1) * 2 ^ k = 2 ^ 63 := by rw [← Nat.pow_add, hk]; congr 1; omega
 have e2 : 2 ^ bl t * 2 ^ k = 2 ^ 64 := by rw [← Nat.pow_add, hk]; congr 1; omega
 have lo : 2 ^ 63 * 2 ^ (64 * n1) ≤ b * 2 ^ k := by
  have z1 : 2 ^ (bl t - 1) * 2 ^ (64 * n1) ≤ b := Nat.le_trans (Nat.mul_le_mul_right _ hb2) (by rw [Nat.mul_comm]; omega)
  have z2 := Nat.mul_le_mul_right (2 ^ k) z1
  rwa [Nat.mul_right_comm, e1] at z2
 have hi : b * 2 ^ k < 2 ^ (64 * n) := by
  have z1 : b < 2 ^ bl t * 2 ^ (64 * n1) := by
   have z3 : (t + 1) * 2 ^ (64 * n1) ≤ 2 ^ bl t * 2 ^ (64 * n1) := Nat.mul_le_mul_right _ hb1
   rw [Nat.add_mul, Nat.one_mul, Nat.mul_comm t] at z3
   omega
  have z2 := Nat.mul_lt_mul_of_pos_right z1 hp
  rwa [Nat.mul_right_comm, e2, ← pw, ← hn1] at z2
 refine ⟨by omega, hq, by omega, hb3, lo, hi, ?_⟩
 have hD : 0 < b * 2 ^ k := Nat.mul_pos h0 hp
 obtain ⟨g1, g2⟩ := dv_len hD
 have u1 : (limbs (b * 2 ^ k)).length ≤ n := limbs_len_le hi
 have u2 : n ≤ (limbs (b * 2 ^ k)).length := by
  refine Classical.byContradiction fun hc => ?_
  have z1 : b * 2 ^ k < 2 ^ (64 * n1) := Nat.lt_of_lt_of_le g2 (Nat.pow_le_pow_right (by decide) (by omega))
  have z2 : 1 * 2 ^ (64 * n1) ≤ 2 ^ 63 * 2 ^ (64 * n1) := Nat.mul_le_mul_right _ (by decide)
  omega
 omega
theorem dv_start {a k na n n1 M D : Nat} {o : List Nat} (ha : a < 2 ^ (64 * na)) (hk : k ≤ 63) (ho : Wf o) (hv : nv o = a * 2 ^ k) (hn : n = n1 + 1) (hM : M + n1 = na) (hD : 2 ^ 63 * 2 ^ (64 * n1) ≤ D) : nv (o.drop M) < D := by
 rw [nv_drop ho, hv]
 refine (Nat.div_lt_iff_lt_mul (Nat.two_pow_pos _)).2 ?_
 have z1 := Nat.mul_le_mul_right (2 ^ (64 * M)) hD
 rw [Nat.mul_assoc, ← Nat.pow_add, show 64 * n1 + 64 * M = 64 * na by omega] at z1
 have z2 := Nat.mul_lt_mul_of_pos_right ha (Nat.two_pow_pos k)
 have z3 : 2 ^ (64 * na) * 2 ^ k ≤ 2 ^ (64 * na) * 2 ^ 63 := Nat.mul_le_mul_left _ (Nat.pow_le_pow_right (by decide) hk)
 rw [Nat.mul_comm (2 ^ 63)] at z1
 exact Nat.lt_of_lt_of_le z2 (Nat.le_trans z3 z1)
theorem dv_window {o : List Nat} {L n j D : Nat} (ho : Wf o) (hL : o.length = L) (hj : j + n + 1 ≤ L) (h : nv (o.drop (j + 1)) < D) (hD : D < 2 ^ (64 * n)) : sg o j (n + 1) = nv (o.drop j) ∧ sg o j (n + 1) < D * 18446744073709551616 := by
 have hx : o[j]? = some (wd o j) := by unfold wd; rw [List.getElem?_eq_getElem (by omega)]; rfl
 have e := drop_word hx
 have hw := wd_lt ho j
 have hlt : nv (o.drop j) < D * 18446744073709551616 := by
  have : (nv (o.drop (j + 1)) + 1) * 18446744073709551616 ≤ D * 18446744073709551616 := Nat.mul_le_mul_right _ h
  omega
 have e2 : sg o j (n + 1) = nv (o.drop j) := by
  unfold sg
  have hwf : Wf (o.drop j) := fun x hx => ho x (List.mem_of_mem_drop hx)
  rw [nv_take hwf]
  refine Nat.mod_eq_of_lt ?_
  rw [pw]
  have : (D + 1) * 18446744073709551616 ≤ 2 ^ (64 * n) * 18446744073709551616 := Nat.mul_le_mul_right _ hD
  have : 2 ^ 64 * 2 ^ (64 * n) = 2 ^ (64 * n) * 18446744073709551616 := Nat.mul_comm _ _
  omega
 exact ⟨e2, by rw [e2]; exact hlt⟩
theorem dv_step {o o' : List Nat} {L n j D a Q : Nat} (ho : Wf o) (ho' : Wf o') (hL : o.length = L) (hL' : o'.length = L) (hj : j + n + 1 ≤ L) (h : nv (o.drop (j + 1)) < D) (hD : D < 2 ^ (64 * n)) (hs : sg o' j (n + 1) = sg o j (n + 1) % D) (hf : ∀ m, m < j ∨ j + n < m → o'[m]? = o[m]?)
 (hi : nv o + Q * 2 ^ (64 * (j + 1)) * D = a) : nv (o'.drop j) < D ∧ nv o' + (sg o j (n + 1) / D + 18446744073709551616 * Q) * 2 ^ (64 * j) * D = a := by
 obtain ⟨e1, e2⟩ := dv_window ho hL hj h hD
 have hD0 : 0 < D := by omega
 have hX : sg o j (n + 1) < 2 ^ (64 * (n + 1)) := sg_lt ho _ _
 have t1 : o'.take j = o.take j := by
  apply List.ext_getElem?
  intro i
  rcases Nat.lt_or_ge i j with q | q
  · rw [List.getElem?_take_of_lt q, List.getElem?_take_of_lt q, hf i (.inl q)]
  · rw [List.getElem?_eq_none (by rw [List.length_take]; omega), List.getElem?_eq_none (by rw [List.length_take]; omega)]
 have t2 : o'.drop (j + (n + 1)) = o.drop (j + (n + 1)) := by
  apply List.ext_getElem?
  intro i
  rw [List.getElem?_drop, List.getElem?_drop, hf _ (.inr (by omega))]
 have s1 := nv_split (o.drop j) (n + 1)
 have s2 := nv_split (o'.drop j) (n + 1)
 rw [List.drop_drop] at s1 s2
 rw [t2] at s2
 have z0 : nv (o.drop (j + (n + 1))) = 0 := by
  have : nv ((o.drop j).take (n + 1)) = nv (o.drop j) := e1
  rw [this] at s1
  rcases Nat.eq_zero_or_pos (nv (o.drop (j + (n + 1)))) with q | q
  · exact q
  · have := Nat.mul_pos (Nat.two_pow_pos (64 * (n + 1))) q
    omega
 rw [z0, Nat.mul_zero, Nat.add_zero] at s2
 have s3 : nv (o'.drop j) = sg o j (n + 1) % D := s2.trans hs
 refine ⟨by rw [s3]; exact Nat.mod_lt _ hD0, ?_⟩
 have f1 := nv_split o j
 have f2 := nv_split o' j
 rw [t1, s3] at f2
 rw [← e1] at f1
 have hd := Nat.div_add_mod (sg o j (n + 1)) D
 rw [pw] at hi
 generalize sg o j (n + 1) / D = q at *
 generalize sg o j (n + 1) % D = r at *
 generalize sg o j (n + 1) = X at *
 generalize 2 ^ (64 * j) = B at *
 rw [f2, ← hi, f1, ← hd, Nat.add_mul, Nat.add_mul, Nat.mul_add]
 have g1 : q * B * D = B * (D * q) := by simp only [Nat.mul_comm, Nat.mul_left_comm]
 have g2 : 18446744073709551616 * Q * B * D = Q * (2 ^ 64 * B) * D := by rw [Nat.mul_comm 18446744073709551616 Q, Nat.mul_assoc Q]
 rw [g1, g2]
 omega
theorem div_any {u v : Value} {a b : Nat} {w : World} (h : CN w u a) (h' : CN w v b) (h0 : 0 < b) (ha : bl a ≤ 1073741824) (hb : bl b ≤ 1073741824) (hT : TB w) :
 Calls Tryz.prog 137 #[u, v] w fun en w' => ∃ q r, en = .returned (.tuple #[q, r]) ∧ PN w' w.heap.size q (a / b) ∧ PN w' w.heap.size r (a % b) ∧ BL w w' := by
 obtain ⟨A, na, ca, rfl⟩ := h.ex
 obtain ⟨B, nb, cb, rfl⟩ := h'.ex
 have HNA := yk (show (limbs a).length = na by obtain ⟨_, _, _, he, _, h2, _⟩ := h; injection he with e1 e2 e3; rw [h2, e2])
 have HNB := yk (show (limbs b).length = nb by obtain ⟨_, _, _, he, _, h2, _⟩ := h'; injection he with e1 e2 e3; rw [h2, e2])
 have la : na ≤ 67108864 := by rw [← HNA.out]; exact len_le (K := 67108864) (by omega)
 have lb : nb ≤ 67108864 := by rw [← HNB.out]; exact len_le (K := 67108864) (by omega)
 have nb0 : 0 < nb := Nat.pos_of_ne_zero (fun q => by have := limbs_zero_len.1 (HNB.out.trans q); omega)
 have QTa := yk (trim_c h (by omega))
 have QTb := yk (fun (m : World) (hm : BL w m) => trim_c (h'.below hm) (by omega))
 have CA := yk (fun (m : World) (hm : BL w m) => (h.below hm).cut)
 have CB := yk (fun (m : World) (hm : BL w m) => (h'.below hm).cut)
 have HBA := yk ha
 have HBB := yk hb
 have HB0 := yk h0
 have HT := yk hT
 have QC := yk (fun (m : World) (hm : BL w m) => cmp_n (CA.out m hm) (CB.out m hm) (by have := HBA.out; omega) (by have := HBB.out; omega))
 clear h h' h0 ha hb hT
 by_cases hab : a < b
 · have hc : cmpN a b = -1 := by unfold cmpN; rw [if_pos hab]
   rw [hc] at QC
   have HQ := yk (show a / b = 0 ∧ a % b = a from ⟨Nat.div_eq_of_lt hab, Nat.mod_eq_of_lt hab⟩)
   clear hc hab
   go_enter Tryz.func137, Tryz.ntmps137
   go_wp2_with (first
    | (go_at_call 109; refine (QTb.out _ HB1.out).mono ?_; rintro e w2 ⟨rfl, hb1⟩; have HB2 := yk (below_then HB1.out HB1.out.size hb1); have QC2 := yk (QC.out _ HB2.out); clear hb1)
    | (go_at_call 109; refine QTa.out.mono ?_; rintro e w1 ⟨rfl, hb1⟩; have HB1 := yk hb1; clear hb1)
    | (go_at_call 104; refine QC2.out.mono ?_; rintro e w3 ⟨rfl, hb1⟩; have HB3 := yk (below_then HB2.out HB2.out.size hb1); clear hb1)
    | ((with_reducible refine gate_builtin (b := .append) (xs := #[.const (.slice none 0 0), .tmp 23]) rfl ?_); at_builtin; go_must (refine Kd.R_append_row (fun n : Nat => Value.int .u64 (n : Int)) 0 (h1 := fun _ => rfl) (w0 := w) w.heap.size rfl (.const (.slice none 0 0)) (.tmp 23) 22 64 (.int .u64 0) 8 rfl Tryz.underlying22 info_word rfl (by decide) (.slice none 0 0) [] (limbs a) A na na (fun _ => True) rfl rfl (fun _ _ => trivial) (Kd.R_nil _ _ _ _ _) ?hC (HB3.out) HB3.out.size ?hl ?_; (case hC => obtain ⟨_, _, _, he, h1, _⟩ := CA.out _ HB3.out; injection he with e1 e2 e3; rw [e1, e2]; exact h1); (case hl => simp; omega); intro v4 w4 ho hb _ _; rw [List.nil_append] at ho; have HO := yk ho; have HB4 := yk hb; clear ho hb)))
   go_ret2
   exact ⟨_, _, rfl, by rw [HQ.out.1]; unfold PN; rw [limbs_zero]; exact PL.nil _ _, by rw [HQ.out.2]; exact PL.of_R HO.out, HB4.out⟩
 have hc0 : 0 ≤ cmpN a b := by unfold cmpN; rw [if_neg hab]; split <;> omega
 obtain ⟨cv, hcv⟩ : ∃ cv, cmpN a b = cv := ⟨_, rfl⟩
 rw [hcv] at QC hc0
 have HAB := yk (Nat.le_of_not_lt hab)
 clear hcv hab
 by_cases hn1 : nb = 1
 · subst hn1
   have hb64 : b < 18446744073709551616 := by have := (dv_len HB0.out).2; rw [HNB.out] at this; exact this
   have HWB := yk (fun (m : World) (hm : BL w m) => (by
    obtain ⟨ad, he, hc⟩ := (CB.out m hm).word (by decide)
    refine ⟨ad, he, ?_⟩
    have := hc 0 (by decide)
    rw [addr_zero, wd_eq (wf_limbs _), nv_limbs, Nat.mul_zero, Nat.pow_zero, Nat.div_one, Nat.mod_eq_of_lt (by exact hb64)] at this
    exact this : ∃ ad, B = some ad ∧ m.cell? ad = some (.int .u64 (b : Int))))
   have QS := yk (fun (m : World) (hm : BL w m) => (by
    obtain ⟨A', n', c', he, h1, h2, h3⟩ := CA.out m hm
    injection he with e1 e2 e3
    subst e1 e2 e3
    have := short_any (limbs a) A na na b h2 m h1 h3 (wf_limbs _) (by omega) HB0.out hb64
    rw [nv_limbs] at this
    exact this : Calls Tryz.prog 147 #[.slice A na na, .int .u64 (b : Int)] m fun e w' => ∃ v, e = .returned (.tuple #[v, .int .u64 ((a % b : Nat) : Int)]) ∧ PL w' m.heap.size v (limbs (a / b)) ∧ BL m w'))
   obtain ⟨bd, rfl, -⟩ := HWB.out w yr
   obtain ⟨rm, hrm⟩ : ∃ rm, a % b = rm := ⟨_, rfl⟩
   have lrm : rm < 18446744073709551616 := by rw [← hrm]; exact Nat.lt_trans (Nat.mod_lt _ HB0.out) hb64
   have QO := yk (fun (m : World) => of_n rm lrm m)
   rw [hrm] at QS
   have HRM := yk hrm
   clear hrm
   go_enter Tryz.func137, Tryz.ntmps137
   go_wp2_with (first
    | (go_at_call 109; refine (QTb.out _ HB1.out).mono ?_; rintro e w2 ⟨rfl, hb1⟩; have HB2 := yk (below_then HB1.out HB1.out.size hb1); have QC2 := yk (QC.out _ HB2.out); clear hb1)
    | (go_at_call 109; refine QTa.out.mono ?_; rintro e w1 ⟨rfl, hb1⟩; have HB1 := yk hb1; clear hb1)
    | (go_at_call 104; refine QC2.out.mono ?_; rintro e w3 ⟨rfl, hb1⟩; have HB3 := yk (below_then HB2.out HB2.out.size hb1); have QS3 := yk (QS.out _ HB3.out); obtain ⟨ad', he, hcell⟩ := HWB.out _ HB3.out; injection he with he; subst he; clear hb1)
    | (go_at_call 147; go_must (refine QS3.out.mono ?_; rintro e w4 ⟨v4, rfl, h4, hb1⟩; have HB4 := yk (below_then HB3.out HB3.out.size hb1); have H4 := yk (PL.lower h4 HB3.out.size); clear hb1 h4))
    | (go_at_call 110; go_must (refine (QO.out _).mono ?_; rintro e w5 ⟨v5, rfl, h5, hb1⟩; have HB5 := yk (below_then HB4.out HB4.out.size hb1); have H5 := yk (h5.lower HB4.out.size); replace H4 := yk (PL.below H4.out hb1); clear hb1 h5)))
   go_ret2
   exact ⟨_, _, rfl, H4.out, by rw [HRM.out]; exact H5.out, HB5.out⟩
 obtain ⟨n1, hn1'⟩ : ∃ n1, nb = n1 + 1 := ⟨nb - 1, by omega⟩
 obtain ⟨t, ht⟩ : ∃ t, wd (limbs b) n1 = t := ⟨_, rfl⟩
 obtain ⟨k, hk⟩ : ∃ k, k = 64 - bl t := ⟨_, rfl⟩
 obtain ⟨D, hD⟩ : ∃ D, D = b * 2 ^ k := ⟨_, rfl⟩
 obtain ⟨t0, t64, k63, bt, Dlo, Dhi, Dlen⟩ := dv_norm HB0.out HNB.out hn1' ht hk
 rw [← hD] at Dlo Dhi Dlen
 have en1 : (nb : Int) - 1 = (n1 : Int) := by omega
 have ln1 : n1 < nb := by omega
 have nb2 : 2 ≤ nb := by omega
 have eb1 : ((nb : Int) == 1) = false := by simp; omega
 have HWB := yk (fun (m : World) (hm : BL w m) => (by
  obtain ⟨ad, he, hc⟩ := (CB.out m hm).word nb0
  refine ⟨ad, he, ?_⟩
  have := hc n1 ln1
  rw [ht] at this
  exact this : ∃ ad, B = some ad ∧ m.cell? (ad.add n1) = some (.int .u64 (t : Int))))
 obtain ⟨bd, rfl, -⟩ := HWB.out w yr
 have QL := yk (fun (m : World) => (by
  have q := Tryz.bits_LeadingZeros64 (t : Int) m (by omega) (by omega)
  rw [Int.toNat_natCast, show (64 - (Lib.bitLen t : Int)) = (k : Int) by rw [bitLen_bl t64]; omega] at q
  exact q : Calls Tryz.prog 149 #[.int .u64 (t : Int)] m fun e w' => e = .returned (.int .i64 (k : Int)) ∧ w' = m))
 have QSb := yk (fun (m : World) (hm : BL w m) => (by
  have q := shl_n (k : Int) k rfl (CB.out m hm) (by have := HBB.out; omega) (by omega)
  rw [← hD] at q
  exact q : Calls Tryz.prog 131 #[.slice (some bd) nb nb, .int .i64 (k : Int)] m fun e w' => ∃ v, e = .returned v ∧ PN w' m.heap.size v D ∧ BL m w'))
 have QSa := yk (fun (m : World) (hm : BL w m) => shl_n (k : Int) k rfl (CA.out m hm) (by have := HBA.out; omega) (by omega))
 have HAN := yk (show a < 2 ^ (64 * na) by have := nv_lt (wf_limbs a); rwa [nv_limbs, HNA.out] at this)
 have hnab : nb ≤ na := by
  refine Classical.byContradiction fun hc => ?_
  have z1 := (dv_len HB0.out).1
  rw [HNB.out] at z1
  have z2 : (2 : Nat) ^ (64 * na) ≤ 2 ^ (64 * (nb - 1)) := Nat.pow_le_pow_right (by decide) (by omega)
  have z3 := HAN.out
  have z4 := HAB.out
  omega
 obtain ⟨L, hL⟩ : ∃ L, L = na + 1 := ⟨_, rfl⟩
 obtain ⟨M0, hM0⟩ : ∃ M0, M0 = na - nb := ⟨_, rfl⟩
 obtain ⟨M, hM⟩ : ∃ M, M = M0 + 1 := ⟨_, rfl⟩
 have eL : (na : Int) + 1 = (L : Int) := by omega
 have eM0 : (na : Int) - (nb : Int) = (M0 : Int) := by omega
 have eM : (M0 : Int) + 1 = (M : Int) := by omega
 have lL : L ≤ 67108865 := by omega
 have lM : M ≤ 67108865 := by omega
 have pL : 0 < L := by omega
 have pM : 0 < M := by omega
 have HL := yk hL
 have HMn := yk (show M + n1 = na ∧ M + nb = L by omega)
 have HD := yk hD
 have DLO := yk Dlo
 have DHI := yk Dhi
 have DLN := yk Dlen
 have HN1 := yk hn1'
 obtain ⟨a2, ha2⟩ : ∃ a2, a2 = a * 2 ^ k := ⟨_, rfl⟩
 rw [← ha2] at QSa
 have HA2 := yk ha2
 have HA2L := yk (show (limbs a2).length ≤ L by
  refine limbs_len_le ?_
  rw [ha2, HL.out, pw]
  have z1 := Nat.mul_lt_mul_of_pos_right HAN.out (Nat.two_pow_pos k)
  have z2 : 2 ^ (64 * na) * 2 ^ k ≤ 2 ^ (64 * na) * 2 ^ 64 := Nat.mul_le_mul_left _ (Nat.pow_le_pow_right (by decide) (by omega))
  rw [Nat.mul_comm (2 ^ 64)]
  exact Nat.lt_of_lt_of_le z1 z2)
 clear hn1 hn1' ht hk hD Dlo Dhi Dlen hL hM0 hM ha2 t0 bt
 go_enter Tryz.func137, Tryz.ntmps137
 go_wp2_with (first
  | (go_at_call 109; refine (QTb.out _ HB1.out).mono ?_; rintro e w2 ⟨rfl, hb1⟩; have HB2 := yk (below_then HB1.out HB1.out.size hb1); have QC2 := yk (QC.out _ HB2.out); clear hb1)
  | (go_at_call 109; refine QTa.out.mono ?_; rintro e w1 ⟨rfl, hb1⟩; have HB1 := yk hb1; clear hb1)
  | (go_at_call 104; refine QC2.out.mono ?_; rintro e w3 ⟨rfl, hb1⟩; have HB3 := yk (below_then HB2.out HB2.out.size hb1); obtain ⟨ad', he, hcell⟩ := HWB.out _ HB3.out; injection he with he; subst he; clear hb1)
  | (go_at_call 149; refine (QL.out _).mono ?_; rintro e w3' ⟨rfl, rfl⟩; clear hcell)
  | (go_at_call 131; refine (QSa.out _ HB5.out).mono ?_; rintro e w6 ⟨v6, rfl, h6, hb1⟩; replace HD9 := yk (HD9.out.below hb1); replace HO := yk (Kd.R_below HO.out hb1); have HB6 := yk (below_then HB5.out HB5.out.size hb1); obtain ⟨As, ns, cs, rfl⟩ := h6.ex; have H6 := yk h6.c; clear hb1 h6)
  | (go_at_call 131; refine (QSb.out _ HB3.out).mono ?_; rintro e w4 ⟨v4, rfl, h4, hb1⟩; obtain ⟨Ad, nd, cd, rfl⟩ := h4.ex; have hnd := h4.len; rw [DLN.out] at hnd; replace hnd := hnd.symm; subst hnd; have HD9 := yk (PN.dl (h4.lower HB3.out.size)); have HS4 := yk (Nat.le_refl w4.heap.size); have HB4 := yk (below_then HB3.out HB3.out.size hb1); clear hb1 h4)
  | ((with_reducible refine gate_dst (N := 52) rfl ?_); go_must (refine Kd.R_make kU (w0 := w4) w4.heap.size 64 rfl rfl 22 (.tmp 51) (.tmp 51) rfl (L : Int) ?mx ?my Tryz.underlying22 (.int .u64 0) 8 info_word rfl (by decide) (by decide) 0 (ok := fun _ => True) (okp := fun _ => False) ?mz (fun _ h => h.elim) trivial (by omega) ?ml yr (Nat.le_refl _) ?_; (case mx => rfl); (case my => rfl); (case mz => rfl); (case ml => omega); intro v_3 w_3 ho hb hg hown; obtain ⟨g, cap, rfl, hg1, hg2, hg3⟩ := Kd.R_form ho (by simp; omega); rw [show (List.replicate ((L : Int)).toNat (0 : Nat)).length = L by simp] at ho ⊢; have HO := yk (Kd.R_lower ho HB4.out.size); have HB5 := yk (below_then HB4.out HB4.out.size hb); have HG5 := yk hg1; replace HD9 := yk (HD9.out.below hb); clear ho hb hg hown hg1 hg2 hg3))
  | ((with_reducible refine gate_builtin (b := .copy) (xs := #[.tmp 53, .tmp 56]) rfl ?_); go_must (refine Kd.R_copy (enc := fun n : Nat => Value.int .u64 (n : Int)) (h1 := fun _ => rfl) 0 (w0 := w) w.heap.size rfl (.tmp 53) (.tmp 56) 22 22 64 rfl Tryz.underlying22 info_word1 (.slice (some ⟨g, 0, none⟩) L cap) _ (limbs a2) As ns cs (fun _ => True) rfl rfl HO.out ?hC HB6.out HB6.out.size ?_; (case hC => obtain ⟨_, _, _, he, h1, _⟩ := H6.out; injection he with e1 e2 e3; rw [e1, e2]; exact h1); intro w7 ho hb hg; rw [List.length_replicate, Int.toNat_natCast] at ho ⊢; obtain ⟨o0, ho0⟩ : ∃ o0, o0 = (limbs a2).take (min ns L) ++ (List.replicate L 0).drop (min ns L) := ⟨_, rfl⟩; rw [← ho0] at ho; have HO0 := yk (dv_copy HA2L.out (by obtain ⟨_, _, _, he, _, h2, _⟩ := H6.out; injection he with e1 e2 e3; rw [e2]; exact h2) ho0); have HB7 := yk hb; have HO7 := yk (Kd.R_mono (ok' := fun k => k < w7.heap.size) (Kd.R_bound ho) (fun k hk => hk.2.2.1)); have HGS := yk (show g < w7.heap.size by obtain ⟨g', cap', he, _, _, cs7, hc7⟩ := Kd.R_form ho (by rw [HO0.out.1]; exact pL); injection he with e1; injection e1 with e1; injection e1 with e1; rw [e1]; exact blk_lt hc7); replace HD9 := yk (HD9.out.grown (g := g) hg HG5.out); obtain ⟨mn, hmn⟩ : ∃ mn, min ns L = mn := ⟨_, rfl⟩; rw [hmn]; clear ho hb hg ho0 hmn))
  | ((with_reducible refine gate_dst (N := 64) rfl ?_); go_must (refine Kd.R_make kU (w0 := w7) w7.heap.size 64 rfl rfl 22 (.tmp 63) (.tmp 63) rfl (M : Int) ?mx ?my Tryz.underlying22 (.int .u64 0) 8 info_word rfl (by decide) (by decide) 0 (ok := fun _ => True) (okp := fun _ => False) ?mz (fun _ h => h.elim) trivial (by omega) ?ml yr (Nat.le_refl _) ?_; (case mx => rfl); (case my => rfl); (case mz => rfl); (case ml => omega); intro v_8 w8 ho hb hg hown; obtain ⟨g2, cap2, rfl, hg1, hg2, hg3⟩ := Kd.R_form ho (by simp; omega); rw [show (List.replicate ((M : Int)).toNat (0 : Nat)).length = M by simp] at ho ⊢; have HQ8 := yk ho; have HB8 := yk (below_then HB7.out HB7.out.size hb); have HG8 := yk hg1; replace HD9 := yk (HD9.out.below hb); replace HO7 := yk (Kd.R_below HO7.out hb); clear ho hb hg hown hg1 hg2 hg3)))
 go_loopw [12] (fun v12 wx => ∃ (m : Nat) (o qo : List Nat), v12 = .int .i64 ((m : Int) - 1) ∧ m ≤ M ∧ Aside0 (BL w wx) ∧ Aside0 (kU.R 64 wx w.heap.size (fun k => k < w7.heap.size) (.slice (some ⟨g, 0, none⟩) L cap) o) ∧ Aside0 (kU.R 64 wx w7.heap.size (fun _ => True) (.slice (some ⟨g2, 0, none⟩) M cap2) qo) ∧ Aside0 (DL wx w.heap.size w4.heap.size (.slice Ad nb cd) D) ∧ Aside0 (o.length = L ∧ Wf o ∧ qo.length = M ∧ Wf qo ∧ nv (o.drop m) < D ∧ nv o + nv (qo.drop m) * 2 ^ (64 * m) * D = a2)) (fun v12 _ => (intOf v12 + 1).toNat)
 case atStart => exact ⟨M, o0, _, by go_num, Nat.le_refl _, HB8, HO7, HQ8, HD9, ⟨HO0.out.1, HO0.out.2.1, by simp, Wf.replicate _, dv_start HAN.out k63 HO0.out.2.1 (by rw [HO0.out.2.2, nv_limbs, HA2.out]) HN1.out HMn.out.1 DLO.out, by rw [List.drop_eq_nil_of_le (by simp), HO0.out.2.2, nv_limbs]; simp [nv]⟩⟩
 case round =>
  obtain ⟨m, o, qo, rfl, hm, HBR, HOR, HQR, HDR, HIR⟩ := hrel
  by_cases hm0 : m = 0
  · subst hm0
    have HF := yk (show nv qo = a / b ∧ nv o / 2 ^ k = a % b by
     obtain ⟨_, _, _, _, h1, h2⟩ := HIR.out
     rw [List.drop_zero] at h1 h2
     rw [Nat.mul_zero, Nat.pow_zero, Nat.mul_one] at h2
     obtain ⟨s1, s2⟩ := Knu.shifted (N := a) (D := b) (s := k) HB0.out
     rw [← HA2.out, ← HD.out] at s1 s2
     have hDp : 0 < D := by omega
     rw [← s1, ← s2, ← h2, Nat.add_comm, Nat.mul_comm, Nat.mul_add_div hDp, Nat.div_eq_of_lt h1, Nat.add_zero, Nat.mul_add_mod, Nat.mod_eq_of_lt h1]
     exact ⟨rfl, rfl⟩)
    have QS := yk (by
     obtain ⟨hl, hcap, hC⟩ := Kd.R_reads' HOR.out
     have q := pshr_any o (some ⟨g, 0, none⟩) L cap k HIR.out.1 wr (by rw [HIR.out.1] at hC; exact hC) hcap HIR.out.2.1 (by omega) (by omega) (tab_below HT.out HBR.out)
     rw [HF.out.2] at q
     exact q : Calls Tryz.prog 133 #[.slice (some ⟨g, 0, none⟩) L cap, .int .i64 (k : Int)] wr fun e w' => ∃ v, e = .returned (.tuple #[v, .bool (nv o % 2 ^ k != 0)]) ∧ PL w' wr.heap.size v (limbs (a % b)) ∧ BL wr w')
    obtain ⟨bx, hbx⟩ : ∃ bx, (nv o % 2 ^ k != 0) = bx := ⟨_, rfl⟩
    rw [hbx] at QS
    clear hbx
    go_wp2_with (first
     | (go_at_call 133; go_must (refine QS.out.mono ?_; rintro e w9 ⟨v9, rfl, h9, hb1⟩; have H9 := yk (h9.lower HBR.out.size); have HB9 := yk (below_then HBR.out HBR.out.size hb1); have HQ9 := yk (trim_own (Kd.R_below HQR.out hb1) HIR.out.2.2.2.1 (by omega)); clear hb1 h9))
     | (go_at_call 109; go_must (refine HQ9.out.mono ?_; rintro e w10 ⟨v10, rfl, h10, nn, rfl⟩; rw [HF.out.1] at h10; have H10 := yk (h10.lower HB7.out.size); clear h10)))
    go_ret2
    exact ⟨_, _, rfl, H10.out, PL.below H9.out (pw_below_drewN yr _), pw_below_drewN HB9.out _⟩
  · obtain ⟨j, rfl⟩ : ∃ j, m = j + 1 := ⟨m - 1, by omega⟩
    clear hm0
    have hj : ((j + 1 : Nat) : Int) - 1 = (j : Int) := by omega
    rw [hj]
    have hjM : j < M := by omega
    obtain ⟨j1, hj1⟩ : ∃ j1, j1 = j + nb := ⟨_, rfl⟩
    obtain ⟨j2, hj2⟩ : ∃ j2, j2 = j1 + 1 := ⟨_, rfl⟩
    have ej1 : (j : Int) + (nb : Int) = (j1 : Int) := by omega
    have ej2 : (j1 : Int) + 1 = (j2 : Int) := by omega
    have lj : j1 + 1 ≤ L := by have := HMn.out; omega
    have hcapL : L ≤ cap := by have := (Kd.R_reads' HOR.out).2.1; have := HIR.out.1; omega
    have hsl := run_window g L cap j j2 (nb + 1) (by omega) (by omega) (by omega)
    have hj2c : j2 ≤ cap := by omega
    have hjj : j ≤ j2 := by omega
    obtain ⟨zw1, zw2⟩ := dv_window (n := nb) HIR.out.2.1 HIR.out.1 (by omega) HIR.out.2.2.2.2.1 DHI.out
    obtain ⟨qv, hqv⟩ : ∃ qv, qv = sg o j (nb + 1) / D := ⟨_, rfl⟩
    have qv64 : qv < 18446744073709551616 := by have := kn_great zw2; rw [← hqv] at this; omega
    have QST := yk (by
     have hc := HDR.out.c
     have q := step_any (j := j) (n := nb) (c' := cap - j) (cd := cd) HOR.out HIR.out.1 HIR.out.2.1 (by omega) (by omega) (by omega) (fun W hW => (HDR.out.grown hW HG5.out).c.1) hc.2.1 hc.2.2 (wf_limbs _) nb2 (by rw [nv_limbs]; exact zw2)
     rw [nv_limbs, ← hqv] at q
     exact q : Calls Tryz.prog 150 #[.slice (some ⟨g, j, none⟩) (nb + 1) (cap - j), .slice Ad nb cd] wr fun en w' => ∃ o', en = .returned (.int .u64 (qv : Int)) ∧ kU.R 64 w' w.heap.size (fun k => k < w7.heap.size) (.slice (some ⟨g, 0, none⟩) L cap) o' ∧ o'.length = L ∧ Wf o' ∧ sg o' j (nb + 1) = sg o j (nb + 1) % D ∧ (∀ m, m < j ∨ j + nb < m → o'[m]? = o[m]?) ∧ wr.grownBy w' (some g))
    have HLJ := yk (show j + nb + 1 ≤ L by omega)
    have HQV := yk hqv
    clear zw1 zw2 hqv hj1 hj2
    go_wp2_with (go_at_call 150; go_must (refine QST.out.mono ?_; rintro e w9 ⟨o', rfl, h9, hl9, hw9, hs9, hf9, hg9⟩; have HO9 := yk h9; have HP9 := yk (ya hl9 (ya hw9 (ya hs9 hf9))); have HQ9 := yk (R_ahead HQR.out hg9 HGS.out); have HD99 := yk (HDR.out.grown hg9 HG5.out); have HB9 := yk (HBR.out.grown hg9 HBR.out.size (fun k hk => by cases hk; exact Nat.le_trans HB4.out.size HG5.out)); obtain ⟨hw1, hw2, hput⟩ := put_word HQ9.out hjM; have HPUT := yk (hput qv); have HGP := yk (put_gr HQ9.out j qv); clear h9 hl9 hw9 hs9 hf9 hg9 hput))
    go_roundw
    case rel =>
     obtain ⟨l1, l2, l3, l4⟩ := HP9.out
     obtain ⟨t1, t2⟩ := dv_step HIR.out.2.1 l2 HIR.out.1 l1 HLJ.out HIR.out.2.2.2.2.1 DHI.out l3 l4 HIR.out.2.2.2.2.2
     rw [← HQV.out] at t2
     exact ⟨j, o', qo.set j qv, by go_num, by omega, ⟨HB9.out.setCell (Nat.le_trans HB7.out.size HG8.out) _⟩, ⟨R_past HO9.out HGP.out HG8.out⟩, HPUT, ⟨HD99.out.grown HGP.out (by have := HG8.out; have := HG5.out; have := HGS.out; omega)⟩, ⟨l1, l2, by simp [HIR.out.2.2.1], HIR.out.2.2.2.1.set qv64, t1, by rw [drop_set_word (by rw [HIR.out.2.2.1]; exact hjM)]; exact t2⟩⟩
    case measure => simp [intOf]
theorem div_n {u v : Value} {a b : Nat} {w : World} (h : CN w u a) (h' : CN w v b) (h0 : 0 < b) (ha : bl a ≤ 1073741824) (hb : bl b ≤ 1073741824) (hT : TB w) :
 Calls Tryz.prog 137 #[u, v] w fun en w' => ∃ q r, en = .returned (.tuple #[q, r]) ∧ PN w' w.heap.size q (a / b) ∧ PN w' w.heap.size r (a % b) ∧ BL w w' := by
 exact div_any h h' h0 ha hb hT
def Fn138_0 := [vb 0, vs 1, vb 2, vi 3, U, U, U, U, U, U, U, U, U, U, U, U, U, U, U, U]
def Fn138_1 := fs Fn138_0 [(8, ps 0 0)]
def Bn138_2 := [bb 25 o3]
def Rn138_3 : Rg := ⟨1, 4, 0, Fn138_0, Bn138_2, [pa 0 0], []⟩
def Fn138_4 := fs Fn138_1 [(1, vs 4), (9, vs 1), (10, vs 4)]
def Rn138_5 : Rg := ⟨2, 4, 1, Fn138_1, Bn138_2, [pv (vs 1) 0, pc (vs 4) 0 131 [vs 1, li 1] 1], [1]⟩
def Fn138_6 := fs Fn138_4 [(11, vb 2)]
def Rn138_7 : Rg := ⟨1, 5, 1, Fn138_4, Bn138_2, [pv (vb 2) 0], []⟩
def Fn138_8 := fs Fn138_6 [(1, vs 6), (12, vs 4), (13, vs 5), (14, vs 6)]
def Rn138_9 : Rg := ⟨3, 5, 1, Fn138_6, Bn138_2, [pv (vs 4) 0, pc (vs 5) 0 110 [lu 1] 1, pc (vs 6) 1 103 [vs 4, vs 5] 1], [1, 2]⟩
def Fn138_10 := fs Fn138_8 [(15, vb 0), (16, vs 6), (17, vi 3), (18, bo .sub (vi 3) (li 1)), (19, dg 7)]
def Rn138_11 : Rg := ⟨5, 7, 1, Fn138_8, Bn138_2, [pv (vb 0) 0, pv (vs 6) 0, pv (vi 3) 0, pv (bo .sub (vi 3) (li 1)) 0, pc (dg 7) 0 102 [vb 0, vs 6, bo .sub (vi 3) (li 1)] 3], [4]⟩
def Bn138_12 := [bb 25 (d3 7)]
def Fn138_13 := fs Fn138_6 [(15, vb 0), (16, vs 4), (17, vi 3), (18, bo .sub (vi 3) (li 1)), (19, dg 5)]
def Rn138_14 : Rg := ⟨5, 5, 1, Fn138_6, Bn138_2, [pv (vb 0) 0, pv (vs 4) 0, pv (vi 3) 0, pv (bo .sub (vi 3) (li 1)) 0, pc (dg 5) 0 102 [vb 0, vs 4, bo .sub (vi 3) (li 1)] 3], [4]⟩
def Bn138_15 := [bb 25 (d3 5)]
theorem sticky_q {v : Value} {m : Nat} {more : Bool} {x : Int} {w : World} (h : CN w v m) (hm : bl m ≤ 2147483648) (h1 : -536870912 ≤ x) (h2 : x ≤ 536870912) (hT : TB w) :
 Calls Tryz.prog 138 #[.bool false, v, .bool more, .int .i64 x] w fun en w' => ∃ v', en = .returned v' ∧ PDy w' w.heap.size v' ((2 * m + (if more = true then 1 else 0) : Nat) : Int) (x - 1) ∧ BL w w' := by
 obtain ⟨A0, n0, c0, rfl⟩ := h.ex
 have hw : IntKind.i64.wrap (x - 1) = x - 1 := i64_id (by omega) (by omega)
 have hbl : bl (m * 2 ^ 1 + 1) ≤ 4294967296 := by have := bl_mul (b := 2 ^ 1) hm (show bl (2 ^ 1) ≤ 2 by decide); have := bl_add (K := 2147483650) (a := m * 2 ^ 1) (b := 1) (by omega) (by decide); omega
 refine fn_enter (u := 64) (fn := Tryz.f138) Tryz.func138 rfl Fn138_0 [.bool false, .slice A0 n0 c0, .bool more, .int .i64 x] (by kernel_rfl) rfl (fun a0 S0 r0 => ?_)
 refine wp_seq (rk Rn138_3 [] Fn138_1 Bn138_2 S0 r0 ?_)
 intro _ _ _ r1 S1
 refine wp_seq (rk Rn138_5 [.mv (vs 4)] Fn138_4 Bn138_2 S1 r1 ?_)
 intro _ _ r2 _
 refine (shl_n _ 1 rfl (h.below r2.first) (by omega) (by decide)).mono ?_
 rintro _ V1 ⟨v, rfl, h1, k1⟩
 obtain ⟨A1, n1, c1, rfl⟩ := h1.ex
 replace h1 := h1.lower r2.fs
 refine ⟨[.slice A1 n1 c1], rfl, rfl, rfl, k1, ?_⟩
 intro _ _ _ r3 S3
 refine wp_seq ?_
 refine wp_seq (rk Rn138_7 [] Fn138_6 Bn138_2 S3 r3 ?_)
 intro _ _ _ r4 S4
 refine wp_cond_split (t := more) (S4.cnd (by kernel_rfl)) (fun q1 => ?_) (fun q1 => ?_)
 · refine rk Rn138_9 [.mv (vs 6)] Fn138_8 Bn138_2 S4 r4 ?_
   intro W5 g5 r5 _
   refine (of_n 1 (by decide) _).mono ?_
   rintro _ V2 ⟨v, rfl, h2, k2⟩
   obtain ⟨A2, n2, c2, rfl⟩ := h2.ex
   replace h2 := h2.lower r5.fs
   refine ⟨[.slice A2 n2 c2], rfl, rfl, rfl, k2, ?_⟩
   intro W6 g6 r6 _
   refine (add_n (h1.lat (r6.at_ 0 _ rfl)).c (h2.lat (r6.at_ 1 _ rfl)).c (by have := bl_mul (b := 2 ^ 1) hm (show bl (2 ^ 1) ≤ 2 by decide); omega) (by decide)).mono ?_
   rintro _ V3 ⟨v, rfl, h3, k3⟩
   obtain ⟨A3, n3, c3, rfl⟩ := h3.ex
   replace h3 := h3.lower r6.fs
   refine ⟨[.slice A3 n3 c3], rfl, rfl, rfl, k3, ?_⟩
   intro _ _ _ r7 S7
   refine wp_seq (rk Rn138_11 [.st 0 0 (d3 7)] Fn138_10 Bn138_12 S7 r7 ?_)
   intro W8 _ r8 _
   show Calls Tryz.prog 102 #[.bool false, .slice A3 n3 c3, .int .i64 (IntKind.i64.wrap (x - 1))] W8 _
   rw [hw]
   refine (form_n false (x - 1) (h3.lat (r8.at_ 2 _ rfl)).c hbl (by omega) (by omega) (tb hT r8)).mono ?_
   rintro _ V4 ⟨v, rfl, h4, k4⟩
   obtain ⟨b4, A4, n4, c4, x4, rfl⟩ := h4.ex
   replace h4 := h4.lower r8.fs
   refine ⟨[.bool b4, .slice A4 n4 c4, .int .i64 x4], rfl, rfl, rfl, k4, ?_⟩
   intro _ _ _ r9 S9
   exact rt S9 [.agg #[.bool b4, .slice A4 n4 c4, .int .i64 x4]] (⟨_, rfl, by rw [q1, if_pos rfl, show 2 * m + 1 = m * 2 ^ 1 + 1 by omega]; exact (h4.lat (r9.at_ 3 _ rfl)), r9.first⟩)
 · refine wp_skip ?_
   refine wp_seq (rk Rn138_14 [.st 0 0 (d3 5)] Fn138_13 Bn138_15 S4 r4 ?_)
   intro W5 g5 r5 _
   show Calls Tryz.prog 102 #[.bool false, .slice A1 n1 c1, .int .i64 (IntKind.i64.wrap (x - 1))] W5 _
   rw [hw]
   refine (form_n false (x - 1) (h1.lat (r5.at_ 0 _ rfl)).c (by have := bl_mul (b := 2 ^ 1) hm (show bl (2 ^ 1) ≤ 2 by decide); omega) (by omega) (by omega) (tb hT r5)).mono ?_
   rintro _ V5 ⟨v, rfl, h5, k5⟩
   obtain ⟨b5, A5, n5, c5, x5, rfl⟩ := h5.ex
   replace h5 := h5.lower r5.fs
   refine ⟨[.bool b5, .slice A5 n5 c5, .int .i64 x5], rfl, rfl, rfl, k5, ?_⟩
   intro _ g6 W6 r6 S6
   exact rt S6 [.agg #[.bool b5, .slice A5 n5 c5, .int .i64 x5]] (⟨_, rfl, by rw [q1, if_neg (by decide), show 2 * m + 0 = m * 2 ^ 1 by omega]; exact (h5.lat (r6.at_ 1 _ rfl)), r6.first⟩)
theorem over_down {Y : Rat} {q m p k : Nat} (hm : m = 2 * q + 1) (hb : bl m = p + k) (hk : 1 ≤ k) (hp : 1 ≤ p) (h1 : ((2 * q : Nat) : Rat) < Y) (h2 : Y < ((2 * q + 2 : Nat) : Rat)) : Dn Y ((m / 2 ^ k * 2 ^ k : Nat) : Rat) (ep p) ∧ Up Y (((m / 2 ^ k + 1) * 2 ^ k : Nat) : Rat) (ep p) := by
 obtain ⟨j, hj⟩ : ∃ j, k = j + 1 := ⟨k - 1, by omega⟩
 have hG : 2 ^ k = 2 * 2 ^ j := by rw [hj, Nat.pow_succ]; omega
 have hbig : 2 ^ (p + k - 1) ≤ 2 * q := by
  have := bl_le (n := m) (by omega)
  rw [hb] at this
  have e : 2 ^ (p + k - 1) = 2 * 2 ^ (p + k - 2) := by rw [show p + k - 1 = (p + k - 2) + 1 by omega, Nat.pow_succ]; omega
  omega
 have hY : ((2 ^ k : Nat) : Rat) ≤ Y * ep p := by
  have := cut_room (m := 2 * q) hp hbig
  have := Rat.mul_le_mul_of_nonneg_right (Rat.le_of_lt h1) (Rat.le_of_lt (ep_pos p))
  grind
 have hd := Nat.div_add_mod m (2 ^ k)
 have hr := Nat.mod_lt m (Nat.two_pow_pos k)
 have c1 : m / 2 ^ k * 2 ^ k ≤ 2 * q := by
  have e : m / 2 ^ k * 2 ^ k = 2 * (m / 2 ^ k * 2 ^ j) := by rw [hG]; ac_rfl
  have := Nat.div_mul_le_self m (2 ^ k)
  omega
 have c2 : 2 * q + 2 ≤ (m / 2 ^ k + 1) * 2 ^ k := by
  have e : (m / 2 ^ k + 1) * 2 ^ k = 2 * ((m / 2 ^ k + 1) * 2 ^ j) := by rw [hG]; ac_rfl
  have e2 : (m / 2 ^ k + 1) * 2 ^ k = m / 2 ^ k * 2 ^ k + 2 ^ k := by rw [Nat.add_mul, Nat.one_mul]
  rw [Nat.mul_comm] at hd
  omega
 have c3 : (m / 2 ^ k + 1) * 2 ^ k = m / 2 ^ k * 2 ^ k + 2 ^ k := by rw [Nat.add_mul, Nat.one_mul]
 have d1 := Rat.natCast_le_natCast.2 c1
 have d2 := Rat.natCast_le_natCast.2 c2
 rw [c3] at d2 ⊢
 rw [Rat.natCast_add (m / 2 ^ k * 2 ^ k)] at d2 ⊢
 generalize ((m / 2 ^ k * 2 ^ k : Nat) : Rat) = C at *
 generalize ((2 ^ k : Nat) : Rat) = G at *
 refine ⟨⟨?_, ?_⟩, ?_, ?_⟩ <;> grind
theorem over_pure {up : Bool} {a b k p : Nat} {E : Int} {c : Rat} (hb0 : 0 < b) (hp : 1 ≤ p) (hs : p + 2 + bl b ≤ bl (a * 2 ^ k)) (ha0 : 0 < a)
 (hc : CutOf up (Dv ((2 * (a * 2 ^ k / b) + (if decide (a * 2 ^ k % b ≠ 0) = true then 1 else 0) : Nat) : Int) (E - 1)) c (ep p))
 (hx : CutX up p (Dv ((2 * (a * 2 ^ k / b) + (if decide (a * 2 ^ k % b ≠ 0) = true then 1 else 0) : Nat) : Int) (E - 1)) c) :
 CutOf up ((a : Rat) * (b : Rat)⁻¹ * (2 : Rat) ^ (E + (k : Int))) c (ep p) := by
 have hB : (0 : Rat) < (b : Rat) := upos hb0
 have hBi : (b : Rat) * (b : Rat)⁻¹ = 1 := Rat.mul_inv_cancel _ (by grind)
 obtain ⟨A, hA⟩ : ∃ A, A = a * 2 ^ k := ⟨_, rfl⟩
 have hAr : (A : Rat) = (a : Rat) * (2 : Rat) ^ (k : Int) := by rw [hA, Rat.natCast_mul, two_w]
 have hX : (a : Rat) * (b : Rat)⁻¹ * (2 : Rat) ^ (E + (k : Int)) = (A : Rat) * (b : Rat)⁻¹ * (2 : Rat) ^ E := by
  rw [hAr, Int.add_comm E, Rat.zpow_add two_ne]; grind
 have hE : (2 : Rat) ^ E = 2 * (2 : Rat) ^ (E - 1) := by
  rw [show E = (E - 1) + 1 by omega, Rat.zpow_add two_ne, Rat.zpow_one, show E - 1 + 1 - 1 = E - 1 by omega]; grind
 rw [hX]
 rw [← hA] at hc hx hs
 have hd := Nat.div_add_mod A b
 have hr := Nat.mod_lt A hb0
 obtain ⟨q, hq⟩ : ∃ q, q = A / b := ⟨_, rfl⟩
 obtain ⟨r, hr'⟩ : ∃ r, r = A % b := ⟨_, rfl⟩
 rw [← hq, ← hr'] at hc hx hd
 rw [← hr'] at hr
 have hAe : (A : Rat) = (b : Rat) * (q : Rat) + (r : Rat) := by rw [← hd, Rat.natCast_add, Rat.natCast_mul]
 have hu : (0 : Rat) < (2 : Rat) ^ (E - 1) := Dv_pow_pos _
 by_cases h0 : r = 0
 · subst h0
   rw [if_neg (by simp), Nat.add_zero] at hc
   have e : Dv ((2 * q : Nat) : Int) (E - 1) = (A : Rat) * (b : Rat)⁻¹ * (2 : Rat) ^ E := by
    show ((2 * q : Nat) : Rat) * _ = _
    rw [hAe, hE, Rat.natCast_mul, show ((2 : Nat) : Rat) = 2 from rfl, show ((0 : Nat) : Rat) = 0 from rfl]
    grind
   rw [← e]; exact hc
 · rw [if_pos (by simpa using h0)] at hx
   have hq1 : p + 2 ≤ bl q := by
    refine Classical.byContradiction fun hn => ?_
    have h1 : q < 2 ^ (p + 1) := bl_le_iff.1 (by omega)
    have h2 := bl_lt b
    have h3 : A < 2 ^ (p + 1) * 2 ^ bl b := by
     have : A < (q + 1) * b := by rw [Nat.add_mul, Nat.one_mul, Nat.mul_comm]; omega
     exact Nat.lt_of_lt_of_le this (Nat.mul_le_mul h1 (Nat.le_of_lt h2))
    rw [← Nat.pow_add] at h3
    have := bl_le_iff.2 h3
    omega
   obtain ⟨m, hm⟩ : ∃ m, m = 2 * q + 1 := ⟨_, rfl⟩
   rw [← hm] at hx
   have hbm : p + 3 ≤ bl m := by
    refine Classical.byContradiction fun hn => ?_
    have h1 : m < 2 ^ (p + 2) := bl_le_iff.1 (by omega)
    have h2 : 2 ^ (p + 2) = 2 * 2 ^ (p + 1) := by rw [show p + 2 = (p + 1) + 1 by omega, Nat.pow_succ]; omega
    have : bl q ≤ p + 1 := bl_le_iff.2 (by omega)
    omega
   obtain ⟨k', hk'⟩ : ∃ k', bl m = p + k' := ⟨bl m - p, by omega⟩
   have hce := hx m (E - 1) k' rfl (by omega) hk' (by omega)
   have hAB : (A : Rat) * (b : Rat)⁻¹ * (b : Rat) = (A : Rat) := by rw [Rat.mul_assoc, Rat.mul_comm ((b : Rat)⁻¹), hBi, Rat.mul_one]
   have hY : (A : Rat) * (b : Rat)⁻¹ * (2 : Rat) ^ E = (2 * ((A : Rat) * (b : Rat)⁻¹)) * (2 : Rat) ^ (E - 1) := by rw [hE]; grind
   have y1 : ((2 * q : Nat) : Rat) < 2 * ((A : Rat) * (b : Rat)⁻¹) := by
    have : (0 : Rat) < (r : Rat) := upos (by omega)
    have : (q : Rat) < (A : Rat) * (b : Rat)⁻¹ := by
     refine Rat.lt_of_mul_lt_mul_right ?_ (Rat.le_of_lt hB)
     rw [hAB, hAe, Rat.mul_comm]
     clear hX hc hx hAr hu; grind
    rw [Rat.natCast_mul, show ((2 : Nat) : Rat) = 2 from rfl]; grind
   have y2 : 2 * ((A : Rat) * (b : Rat)⁻¹) < ((2 * q + 2 : Nat) : Rat) := by
    have : (r : Rat) < (b : Rat) := Rat.natCast_lt_natCast.2 hr
    have : (A : Rat) * (b : Rat)⁻¹ < (q : Rat) + 1 := by
     refine Rat.lt_of_mul_lt_mul_right ?_ (Rat.le_of_lt hB)
     rw [hAB, hAe]
     clear hX hc hx hAr hu; grind
    rw [Rat.natCast_add, Rat.natCast_mul, show ((2 : Nat) : Rat) = 2 from rfl]; grind
   obtain ⟨o1, o2⟩ := over_down hm hk' (by omega) hp y1 y2
   have hxp : 0 < (A : Rat) * (b : Rat)⁻¹ * (2 : Rat) ^ E := by
    rw [hY]
    refine Rat.mul_pos ?_ hu
    have : (0 : Rat) ≤ ((2 * q : Nat) : Rat) := Rat.natCast_nonneg
    grind
   have hcv : ∀ j : Nat, Dv ((j : Nat) : Int) (E - 1 + (k' : Int)) = ((j * 2 ^ k' : Nat) : Rat) * (2 : Rat) ^ (E - 1) := by
    intro j
    show (j : Rat) * _ = _
    rw [Rat.zpow_add two_ne, two_w, Rat.natCast_mul]; grind
   refine ⟨fun _ => ?_, fun h => absurd h (by grind)⟩
   rw [hce, hcv, hY]
   cases up
   · simp only [Bool.false_eq_true, if_false, Nat.add_zero]; exact o1.scale (Rat.le_of_lt hu)
   · simp only [if_true]; exact o2.scale (Rat.le_of_lt hu)
def Fn113_0 := [dg 0, dg 3, vi 6, vb 7, U, U, U, U, U, U, U, U, U, U, U, U, U, U, U, U, U, U, U, U, U, U, U, U, U, U, U, U, U, U, U, U, U, U, U, U, U, U, U, U, U, U, U, U, U, U, U, U, U, U, U, U, U, U, U, U]
def Fn113_1 := fs Fn113_0 [(4, ps 0 0), (5, ps 1 0), (8, ps 2 0)]
def Bn113_2 := [bb 25 (d3 0), bb 25 (d3 3), bb 25 o3]
def Rn113_3 : Rg := ⟨3, 8, 0, Fn113_0, Bn113_2, [pa 0 0, pa 1 0, pa 2 0], []⟩
def Fn113_4 := fs Fn113_1 [(12, dg 0), (13, dg 8), (14, dg 3), (15, dg 11)]
def Rn113_5 : Rg := ⟨4, 8, 3, Fn113_1, Bn113_2, [pl (dg 0) 0 0 0, pc (dg 8) 0 66 [dg 0] 3, pl (dg 3) 0 1 0, pc (dg 11) 1 66 [dg 3] 3], [1, 3]⟩
def Bn113_6 := [bb 25 (d3 8), bb 25 (d3 11), bb 25 o3]
def Fn113_7 := fs Fn113_4 [(16, dg 8), (17, vb 14)]
def Rn113_8 : Rg := ⟨2, 14, 3, Fn113_4, Bn113_6, [pl (dg 8) 0 0 0, pc (vb 14) 0 79 [dg 8] 1], [1]⟩
def Fn113_9 := fs Fn113_7 [(9, f2 mxF (bo .sub (bo .add (bo .add (vi 6) (li 2)) (vi 15)) (vi 16)) (li 0)), (19, vi 6), (20, bo .add (vi 6) (li 2)), (21, ps 1 1), (22, vs 12), (23, vi 15), (24, bo .add (bo .add (vi 6) (li 2)) (vi 15)), (25, ps 0 1), (26, vs 9), (27, vi 16), (28, bo .sub (bo .add (bo .add (vi 6) (li 2)) (vi 15)) (vi 16)), (29, f2 mxF (bo .sub (bo .add (bo .add (vi 6) (li 2)) (vi 15)) (vi 16)) (li 0))]
def Rn113_10 : Rg := ⟨12, 15, 3, Fn113_7, Bn113_6, [pv (vi 6) 0, pv (bo .add (vi 6) (li 2)) 0, pv (ps 1 1) 0, pl (vs 12) 0 1 1, pc (vi 15) 0 116 [vs 12] 1, pv (bo .add (bo .add (vi 6) (li 2)) (vi 15)) 1, pv (ps 0 1) 0, pl (vs 9) 0 0 1, pc (vi 16) 1 116 [vs 9] 1, pv (bo .sub (bo .add (bo .add (vi 6) (li 2)) (vi 15)) (vi 16)) 2, pv (f2 mxF (bo .sub (bo .add (bo .add (vi 6) (li 2)) (vi 15)) (vi 16)) (li 0)) 2, pv (f2 mxF (bo .sub (bo .add (bo .add (vi 6) (li 2)) (vi 15)) (vi 16)) (li 0)) 2], [4, 8]⟩
def Fn113_11 := fs Fn113_9 [(10, vs 18), (11, vs 19), (30, tu [vs 18, vs 19]), (31, ps 0 1), (32, vs 9), (33, f2 mxF (bo .sub (bo .add (bo .add (vi 6) (li 2)) (vi 15)) (vi 16)) (li 0)), (34, vs 17), (35, ps 1 1), (36, vs 12), (37, tu [vs 18, vs 19]), (38, vs 18), (39, vs 19)]
def Rn113_12 : Rg := ⟨12, 17, 3, Fn113_9, Bn113_6, [pv (ps 0 1) 0, pl (vs 9) 0 0 1, pv (f2 mxF (bo .sub (bo .add (bo .add (vi 6) (li 2)) (vi 15)) (vi 16)) (li 0)) 0, pc (vs 17) 0 131 [vs 9, f2 mxF (bo .sub (bo .add (bo .add (vi 6) (li 2)) (vi 15)) (vi 16)) (li 0)] 1, pv (ps 1 1) 0, pl (vs 12) 0 1 1, pc (tu [vs 18, vs 19]) 1 137 [vs 17, vs 12] 2, pv (tu [vs 18, vs 19]) 2, pv (vs 18) 2, pv (vs 19) 2, pv (vs 18) 2, pv (vs 19) 2], [3, 6]⟩
def Fn113_13 := fs Fn113_11 [(40, ps 0 0), (41, vb 8), (42, ps 1 0), (43, vb 11), (44, bo .neq (vb 8) (vb 11)), (45, vs 18), (46, vs 19), (47, f1 lnF (vs 19)), (48, bo .gtr (f1 lnF (vs 19)) (li 0)), (49, ps 0 2), (50, vi 10), (51, ps 1 2), (52, vi 13), (53, bo .sub (vi 10) (vi 13)), (54, f2 mxF (bo .sub (bo .add (bo .add (vi 6) (li 2)) (vi 15)) (vi 16)) (li 0)), (55, bo .sub (bo .sub (vi 10) (vi 13)) (f2 mxF (bo .sub (bo .add (bo .add (vi 6) (li 2)) (vi 15)) (vi 16)) (li 0))), (56, dg 20), (57, vi 6), (58, vb 7), (59, dg 23)]
def Rn113_14 : Rg := ⟨20, 20, 3, Fn113_11, Bn113_6, [pv (ps 0 0) 0, pl (vb 8) 0 0 0, pv (ps 1 0) 0, pl (vb 11) 0 1 0, pv (bo .neq (vb 8) (vb 11)) 0, pv (vs 18) 0, pv (vs 19) 0, pv (f1 lnF (vs 19)) 0, pv (bo .gtr (f1 lnF (vs 19)) (li 0)) 0, pv (ps 0 2) 0, pl (vi 10) 0 0 2, pv (ps 1 2) 0, pl (vi 13) 0 1 2, pv (bo .sub (vi 10) (vi 13)) 0, pv (f2 mxF (bo .sub (bo .add (bo .add (vi 6) (li 2)) (vi 15)) (vi 16)) (li 0)) 0, pv (bo .sub (bo .sub (vi 10) (vi 13)) (f2 mxF (bo .sub (bo .add (bo .add (vi 6) (li 2)) (vi 15)) (vi 16)) (li 0))) 0, pc (dg 20) 0 138 [bo .neq (vb 8) (vb 11), vs 18, bo .gtr (f1 lnF (vs 19)) (li 0), bo .sub (bo .sub (vi 10) (vi 13)) (f2 mxF (bo .sub (bo .add (bo .add (vi 6) (li 2)) (vi 15)) (vi 16)) (li 0))] 3, pv (vi 6) 0, pv (vb 7) 0, pc (dg 23) 1 111 [dg 20, vi 6, vb 7] 3], [16, 19]⟩
def Bn113_15 := [bb 25 (d3 8), bb 25 (d3 11), bb 25 (d3 23)]
theorem over_k {p a b : Nat} (hp : p ≤ 67108864) (ha : a ≤ 67108864) (hb : b ≤ 67108864) : ∃ k : Nat, (if 0 > IntKind.i64.wrap (IntKind.i64.wrap (IntKind.i64.wrap ((p : Int) + 2) + (b : Int)) - (a : Int)) then 0 else IntKind.i64.wrap (IntKind.i64.wrap (IntKind.i64.wrap ((p : Int) + 2) + (b : Int)) - (a : Int))) = (k : Int) ∧ k ≤ p + 2 + b ∧ (0 < a → p + 2 + b ≤ a + k) := by
 have e : IntKind.i64.wrap (IntKind.i64.wrap (IntKind.i64.wrap ((p : Int) + 2) + (b : Int)) - (a : Int)) = (p : Int) + 2 + b - a := by
  rw [i64_id (x := (p : Int) + 2) (by omega) (by omega), i64_id (x := (p : Int) + 2 + b) (by omega) (by omega), i64_id (by omega) (by omega)]
 rw [e]
 refine ⟨((p : Int) + 2 + b - a).toNat, ?_, by omega, by omega⟩
 split <;> omega
theorem bl_pow_le (k : Nat) : bl (2 ^ k) ≤ k + 1 := bl_le_iff.2 (Nat.pow_lt_pow_right (by decide) (by omega))
theorem len_pos {m : Nat} : decide ((((limbs m).length : Nat) : Int) > 0) = decide (m ≠ 0) := by
 by_cases h : m = 0
 · subst h; simp [limbs]
 · have : (limbs m).length ≠ 0 := fun q => h (limbs_zero_len.1 q)
   rw [decide_eq_true (by omega), decide_eq_true h]
theorem over_bd {m B : Nat} {s : Bool} {E : Int} (h1 : bl m + 2 ≤ B) (h2 : -(B : Int) ≤ E) (h3 : E ≤ (B : Int)) : Bd B (((2 * m + (if s = true then 1 else 0) : Nat) : Int)) E := by
 refine ⟨?_, h2, h3⟩
 rw [Int.natAbs_natCast, ← bl_le_iff]
 have := bl_add (K := bl m + 1) (a := 2 * m) (b := if s = true then 1 else 0) (by have := bl_mul (a := 2) (b := m) (K := 2) (by decide) (Nat.le_refl _); rw [bl_le_iff] at *; have := bl_lt m; rw [Nat.pow_succ]; omega) (by cases s <;> simp <;> first | exact Nat.le_trans (by decide : bl 1 ≤ 1) (by omega) | exact Nat.zero_le _)
 omega
theorem over_val {z e y f : Int} (hz : 0 < z) (hy : 0 < y) : Dv z e * (Dv y f)⁻¹ = (cman z : Rat) * (cman y : Rat)⁻¹ * (2 : Rat) ^ (cexp z e - cexp y f) := by
 have hnz : cneg z = false := by unfold cneg; exact decide_eq_false (by omega)
 have hny : cneg y = false := by unfold cneg; exact decide_eq_false (by omega)
 rw [Dv_form z e, Dv_form y f, hnz, hny]
 show (cman z : Rat) * (2 : Rat) ^ cexp z e * ((cman y : Rat) * (2 : Rat) ^ cexp y f)⁻¹ = _
 rw [Rat.inv_mul_rev, Rat.mul_comm ((2 : Rat) ^ cexp y f)⁻¹, ← Rat.zpow_neg, show cexp z e - cexp y f = cexp z e + -(cexp y f) by omega, Rat.zpow_add two_ne]
 grind
theorem over_fin {up : Bool} {a b k p : Nat} {D : Int} {c : Rat} (hb0 : 0 < b) (hp : 1 ≤ p) (hk : p + 2 + bl b ≤ bl a + k) (ha0 : 0 < a)
 (hc : CutOf up (Dv ((2 * (a * 2 ^ k / b) + (if decide (a * 2 ^ k % b ≠ 0) = true then 1 else 0) : Nat) : Int) (D - (k : Int) - 1)) c (ep p))
 (hx : CutX up p (Dv ((2 * (a * 2 ^ k / b) + (if decide (a * 2 ^ k % b ≠ 0) = true then 1 else 0) : Nat) : Int) (D - (k : Int) - 1)) c) :
 CutOf up ((a : Rat) * (b : Rat)⁻¹ * (2 : Rat) ^ D) c (ep p) := by
 have := over_pure hb0 hp (by rw [bl_mul_pow (by omega)]; exact hk) ha0 hc hx
 rw [show D - (k : Int) + (k : Int) = D by omega] at this
 exact this
theorem over_q {u v : Value} {x y : Rat} {N M p : Nat} {up : Bool} {w : World} (h : CQ w u x N) (h' : CQ w v y M) (hx : 0 < x) (hy : 0 < y) (hN : N + M ≤ 1000000) (hp : 1 ≤ p) (hp2 : p ≤ 1000000) (hT : TB w) :
 Calls Tryz.prog 113 #[u, v, .int .i64 (p : Int), .bool up] w fun en w' => ∃ v' c, en = .returned v' ∧ PQ w' w.heap.size v' c (3 * (N + M) + 2 * p + 201) ∧ CutOf up (x * y⁻¹) c (ep p) ∧ Short p c ∧ BL w w' := by
 obtain ⟨z, e, h, rfl, hB⟩ := h
 obtain ⟨y, f, h', rfl, hB'⟩ := h'
 obtain ⟨b0, A0, n0, c0, x0, rfl⟩ := h.ex
 obtain ⟨b9, A9, n9, c9, x9, rfl⟩ := h'.ex
 have l := bd_len hB; have lo := bd_lo hB; have hi := bd_hi hB
 have l' := bd_len hB'; have lo' := bd_lo hB'; have hi' := bd_hi hB'
 have hbl : bl (cman z) ≤ N := bl_le_iff.2 (bd_man hB)
 have hbl' : bl (cman y) ≤ M := bl_le_iff.2 (bd_man hB')
 have hz := Dv_pos.1 hx; have hy := Dv_pos.1 hy
 have hmz : 0 < cman z := Nat.pos_of_ne_zero fun h => by have := cman_eq_zero.1 h; omega
 have hmy : 0 < cman y := Nat.pos_of_ne_zero fun h => by have := cman_eq_zero.1 h; omega
 have hnz : cneg z = false := by unfold cneg; exact decide_eq_false (by omega)
 have hny : cneg y = false := by unfold cneg; exact decide_eq_false (by omega)
 obtain ⟨k, hk, hk2, hk3⟩ := over_k (p := p) (a := bl (cman z)) (b := bl (cman y)) (by omega) (by omega) (by omega)
 have hz2 : z ≠ 0 := by omega
 refine fn_enter (u := 64) (fn := Tryz.f113) Tryz.func113 rfl Fn113_0 [.bool b0, .slice A0 n0 c0, .int .i64 x0, .bool b9, .slice A9 n9 c9, .int .i64 x9, .int .i64 (p : Int), .bool up] (by kernel_rfl) rfl (fun a0 S0 r0 => ?_)
 refine wp_seq (rk Rn113_3 [] Fn113_1 Bn113_2 S0 r0 ?_)
 intro _ _ _ r1 S1
 refine wp_seq (rk Rn113_5 [.st 0 0 (d3 8), .st 1 0 (d3 11)] Fn113_4 Bn113_6 S1 r1 ?_)
 intro _ _ r2 _
 refine (pone_dy _ z e _ (h.below r2.first) (by omega) (by omega) (by omega) (tb hT r2)).mono ?_
 rintro _ V1 ⟨v, rfl, h1, k1⟩
 obtain ⟨b1, A1, n1, c1, x1, rfl⟩ := h1.ex
 replace h1 := h1.lower r2.fs
 refine ⟨[.bool b1, .slice A1 n1 c1, .int .i64 x1], rfl, rfl, rfl, k1, ?_⟩
 obtain ⟨hb1, hx1, p1⟩ := h1.cells
 intro _ _ r3 _
 refine (pone_dy _ y f _ (h'.below r3.first) (by omega) (by omega) (by omega) (tb hT r3)).mono ?_
 rintro _ V2 ⟨v, rfl, h2, k2⟩
 obtain ⟨b2, A2, n2, c2, x2, rfl⟩ := h2.ex
 replace h2 := h2.lower r3.fs
 refine ⟨[.bool b2, .slice A2 n2 c2, .int .i64 x2], rfl, rfl, rfl, k2, ?_⟩
 obtain ⟨hb2, hx2, p2⟩ := h2.cells
 intro _ _ _ r4 S4
 refine wp_seq ?_
 refine wp_seq (rk Rn113_8 [] Fn113_7 Bn113_6 S4 r4 ?_)
 intro _ _ r5 _
 refine (pzero_dy _ z e _ (h1.lat (r5.at_ 0 _ rfl)).c (by omega)).mono ?_
 rintro _ V3 ⟨rfl, k3⟩
 refine ⟨[.bool (decide (z = 0))], rfl, rfl, rfl, k3, ?_⟩
 intro _ _ _ r6 S6
 refine wp_cond_split (t := (decide (z = 0))) (S6.cnd (by kernel_rfl)) (fun q1 => ?_) (fun q1 => ?_)
 · exact absurd (of_decide_eq_true q1) hz2
 · refine wp_skip ?_
   refine wp_seq (rk Rn113_10 [] Fn113_9 Bn113_6 S6 r6 ?_)
   intro _ g7 r7 _
   refine (len_n (p2.lat (r7.at_ 1 _ rfl)).c (by omega)).mono ?_
   rintro _ V4 ⟨rfl, k4⟩
   refine ⟨[.int .i64 (bl (cman y) : Int)], rfl, rfl, rfl, k4, ?_⟩
   intro _ _ r8 _
   refine (len_n (p1.lat (r8.at_ 0 _ rfl)).c (by omega)).mono ?_
   rintro _ V5 ⟨rfl, k5⟩
   refine ⟨[.int .i64 (bl (cman z) : Int)], rfl, rfl, rfl, k5, ?_⟩
   intro _ _ _ r9 S9
   refine wp_seq (rk Rn113_12 [] Fn113_11 Bn113_6 S9 r9 ?_)
   intro W10 _ r10 _
   show Calls Tryz.prog 131 #[.slice A1 n1 c1, .int .i64 (if 0 > IntKind.i64.wrap ((IntKind.i64.wrap ((IntKind.i64.wrap ((p : Int) + 2)) + (bl (cman y) : Int))) - (bl (cman z) : Int)) then 0 else IntKind.i64.wrap ((IntKind.i64.wrap ((IntKind.i64.wrap ((p : Int) + 2)) + (bl (cman y) : Int))) - (bl (cman z) : Int)))] W10 _
   refine (shl_n _ k hk (p1.lat (r10.at_ 0 _ rfl)).c (by omega) (by omega)).mono ?_
   rintro _ V6 ⟨v, rfl, h6, k6⟩
   obtain ⟨A6, n6, c6, rfl⟩ := h6.ex
   replace h6 := h6.lower r10.fs
   refine ⟨[.slice A6 n6 c6], rfl, rfl, rfl, k6, ?_⟩
   intro _ _ r11 _
   refine (div_n (h6.lat (r11.at_ 5 _ rfl)).c (p2.lat (r11.at_ 1 _ rfl)).c hmy (by have := bl_mul (b := 2 ^ k) hbl (bl_pow_le k); omega) (by omega) (tb hT r11)).mono ?_
   rintro _ V7 ⟨v, r, rfl, h7, g7, k7⟩
   obtain ⟨A7, n7, c7, rfl⟩ := h7.ex
   obtain ⟨B7, m7, d7, rfl⟩ := g7.ex
   replace h7 := h7.lower r11.fs
   replace g7 := g7.lower r11.fs
   refine ⟨[.slice A7 n7 c7, .slice B7 m7 d7], rfl, rfl, rfl, k7, ?_⟩
   have hlen : decide (((m7 : Nat) : Int) > 0) = decide (cman z * 2 ^ k % cman y ≠ 0) := by rw [g7.len]; exact len_pos
   have hE : IntKind.i64.wrap (IntKind.i64.wrap (x1 - x2) - (if 0 > IntKind.i64.wrap (IntKind.i64.wrap (IntKind.i64.wrap ((p : Int) + 2) + (bl (cman y) : Int)) - (bl (cman z) : Int)) then 0 else IntKind.i64.wrap (IntKind.i64.wrap (IntKind.i64.wrap ((p : Int) + 2) + (bl (cman y) : Int)) - (bl (cman z) : Int)))) = cexp z e - cexp y f - (k : Int) := by rw [hk, hx1, hx2, i64_id (x := cexp z e - cexp y f) (by omega) (by omega), i64_id (by omega) (by omega)]
   have hqb : bl (cman z * 2 ^ k / cman y) ≤ 1073741824 := by have := bl_div (d := cman y) (bl_mul (b := 2 ^ k) hbl (bl_pow_le k)); omega
   have hneg : (!(b1 == b2)) = false := by rw [hb1, hb2, hnz, hny]; rfl
   intro _ _ _ r12 S12
   refine wp_seq (rk Rn113_14 [.st 2 0 (d3 23)] Fn113_13 Bn113_15 S12 r12 ?_)
   intro W13 _ r13 _
   show Calls Tryz.prog 138 #[.bool (!(b1 == b2)), .slice A7 n7 c7, .bool (decide (((m7 : Nat) : Int) > 0)), .int .i64 (IntKind.i64.wrap ((IntKind.i64.wrap (x1 - x2)) - (if 0 > IntKind.i64.wrap ((IntKind.i64.wrap ((IntKind.i64.wrap ((p : Int) + 2)) + (bl (cman y) : Int))) - (bl (cman z) : Int)) then 0 else IntKind.i64.wrap ((IntKind.i64.wrap ((IntKind.i64.wrap ((p : Int) + 2)) + (bl (cman y) : Int))) - (bl (cman z) : Int)))))] W13 _
   rw [hlen, hE, hneg]
   refine (sticky_q (m := cman z * 2 ^ k / cman y) (more := decide (cman z * 2 ^ k % cman y ≠ 0)) (h7.lat (r13.at_ 6 _ rfl)).c (by omega) (by omega) (by omega) (tb hT r13)).mono ?_
   rintro _ V8 ⟨v, rfl, h8, k8⟩
   obtain ⟨b8, A8, n8, c8, x8, rfl⟩ := h8.ex
   replace h8 := h8.lower r13.fs
   refine ⟨[.bool b8, .slice A8 n8 c8, .int .i64 x8], rfl, rfl, rfl, k8, ?_⟩
   have hS : Bd (3 * (N + M) + 2 * p + 200) (((2 * (cman z * 2 ^ k / cman y) + (if decide (cman z * 2 ^ k % cman y ≠ 0) = true then 1 else 0) : Nat) : Int)) (cexp z e - cexp y f - (k : Int) - 1) := over_bd (by have := bl_div (d := cman y) (bl_mul (b := 2 ^ k) hbl (bl_pow_le k)); omega) (by omega) (by omega)
   intro _ _ r14 _
   refine (cut_q (p := p) (up := up) (N := 3 * (N + M) + 2 * p + 200) ⟨_, _, (h8.lat (r14.at_ 7 _ rfl)).c, rfl, hS⟩ (by omega) hp (by omega) (tb hT r14)).mono ?_
   rintro _ V9 ⟨v, c, rfl, h9, ec, sc, zc, k9⟩
   obtain ⟨b9, A9, n9, c9, x9, rfl⟩ := h9.ex
   replace h9 := h9.lower r14.fs
   refine ⟨[.bool b9, .slice A9 n9 c9, .int .i64 x9], rfl, rfl, rfl, k9, ?_⟩
   intro _ _ _ r15 S15
   exact rt S15 [.agg #[.bool b9, .slice A9 n9 c9, .int .i64 x9]] (⟨_, _, rfl, (h9.lat (r15.at_ 8 _ rfl)), by rw [over_val hz hy]; exact over_fin hmy hp (hk3 (by rw [bl_pos (by omega)]; omega)) hmz ec zc, sc, r15.first⟩)
theorem div_lo {q : Nat → Rat} {x : Nat → Rat} {t e : Rat} {i : Nat} (ht : 0 < t) (he : 0 ≤ e) (he1 : e ≤ 1) (hi : i < 4) (hq : ∀ k, k < 4 → q i ≤ q k) (k0 : Nat) (hk0 : k0 < 4) (hx0 : x k0 = t) (hx : ∀ k, k < 4 → t ≤ x k) (hc : ∀ k, k < 4 → CutOf false (x k) (q k) e) : CutOf false t (q i) e := by
 have h1 := (hc k0 hk0).1 (by rw [hx0]; exact Rat.le_of_lt ht)
 have h2 := (hc i hi).1 (Rat.le_trans (Rat.le_of_lt ht) (hx i hi))
 rw [hx0] at h1
 refine ⟨fun _ => ⟨Rat.le_trans (hq k0 hk0) h1.1, ?_⟩, fun h => absurd h (by grind)⟩
 have := Rat.mul_le_mul_of_nonneg_right (hx i hi) (show 0 ≤ 1 - e by grind)
 exact Rat.le_trans this h2.2
theorem div_hi {q : Nat → Rat} {x : Nat → Rat} {t e : Rat} {i : Nat} (ht : 0 < t) (he : 0 ≤ e) (hi : i < 4) (hq : ∀ k, k < 4 → q k ≤ q i) (k0 : Nat) (hk0 : k0 < 4) (hx0 : x k0 = t) (h0 : ∀ k, k < 4 → 0 ≤ x k) (hx : ∀ k, k < 4 → x k ≤ t) (hc : ∀ k, k < 4 → CutOf true (x k) (q k) e) : CutOf true t (q i) e := by
 have h1 := (hc k0 hk0).1 (by rw [hx0]; exact Rat.le_of_lt ht)
 have h2 := (hc i hi).1 (h0 i hi)
 rw [hx0] at h1
 refine ⟨fun _ => ⟨Rat.le_trans h1.1 (hq k0 hk0), ?_⟩, fun h => absurd h (by grind)⟩
 have := Rat.mul_le_mul_of_nonneg_right (hx i hi) (show 0 ≤ 1 + e by grind)
 exact Rat.le_trans h2.2 this
def quo4 (a b c d : Rat) : Nat → Rat | 0 => a * c⁻¹ | 1 => a * d⁻¹ | 2 => b * c⁻¹ | _ => b * d⁻¹
theorem quo_between {a b c d : Rat} (ha : 0 < a) (hab : a ≤ b) (hc : 0 < c) (hcd : c ≤ d) : ∀ k, k < 4 → a * d⁻¹ ≤ quo4 a b c d k ∧ quo4 a b c d k ≤ b * c⁻¹ := by
 have hd : 0 < d := by grind
 have i1 : d⁻¹ ≤ c⁻¹ := inv_le hc hcd
 have i0 : 0 < d⁻¹ := Rat.inv_pos.2 hd
 have i2 : 0 < c⁻¹ := Rat.inv_pos.2 hc
 have e1 := Rat.mul_le_mul_of_nonneg_left i1 (Rat.le_of_lt ha)
 have e2 := Rat.mul_le_mul_of_nonneg_right hab (Rat.le_of_lt i0)
 have e3 := Rat.mul_le_mul_of_nonneg_right hab (Rat.le_of_lt i2)
 have e4 := Rat.mul_le_mul_of_nonneg_left i1 (show 0 ≤ b by grind)
 exact four_of ⟨e1, e3⟩ ⟨Rat.le_refl, Rat.le_trans e2 e4⟩ ⟨Rat.le_trans e1 e3, Rat.le_refl⟩ ⟨e2, e4⟩
def Fo72_0 := [ig 0, ig 6, vi 12, U, U, U, U, U, U, U, U, U, U, U, U, U, U, U, U, U, U, U, U, U, U, U, U, U, U, U, U, U, U, U, U, U, U, U, U, U, U, U, U, U, U, U, U, U, U, U, U, U, U, U, U, U, U, U, U, U, U, U, U, U, U, U]
def Fo72_1 := fs Fo72_0 [(3, ps 0 0), (4, ps 1 0), (6, ps 2 0)]
def Bo72_2 := [bb 28 (i6 0), bb 28 (i6 6), bb 28 o6]
def Ro72_3 : Rg := ⟨3, 13, 0, Fo72_0, Bo72_2, [pa 0 0, pa 1 0, pa 2 0], []⟩
def Fo72_4 := fs Fo72_1 [(7, ps 4 0), (9, ps 0 0), (10, dg 0), (11, ps 1 0), (12, dg 6), (13, vi 12), (14, dg 13), (15, ps 0 0), (16, dg 0), (17, ps 1 3), (18, dg 9), (19, vi 12), (20, dg 16), (21, ps 0 3), (22, dg 3), (23, ps 1 0), (24, dg 6), (25, vi 12), (26, dg 19), (27, ps 0 3), (28, dg 3), (29, ps 1 3), (30, dg 9), (31, vi 12), (32, dg 22), (33, osl (ps 3 0) 4), (34, ig 25)]
def Bo72_5 := [bb 28 (i6 0), bb 28 (i6 6), bb 28 o6, bb 25 [vb 13, vs 14, vi 15, vb 16, vs 17, vi 18, vb 19, vs 20, vi 21, vb 22, vs 23, vi 24], bb 28 o6]
def Ro72_6 : Rg := ⟨27, 13, 3, Fo72_1, Bo72_5, [pv (ps 0 0) 0, pl (dg 0) 0 0 0, pv (ps 1 0) 0, pl (dg 6) 0 1 0, pv (vi 12) 0, pc (dg 13) 0 113 [dg 0, dg 6, vi 12, lb false] 3, pv (ps 0 0) 0, pl (dg 0) 0 0 0, pv (ps 1 3) 0, pl (dg 9) 0 1 3, pv (vi 12) 0, pc (dg 16) 1 113 [dg 0, dg 9, vi 12, lb false] 3, pv (ps 0 3) 0, pl (dg 3) 0 0 3, pv (ps 1 0) 0, pl (dg 6) 0 1 0, pv (vi 12) 0, pc (dg 19) 2 113 [dg 3, dg 6, vi 12, lb false] 3, pv (ps 0 3) 0, pl (dg 3) 0 0 3, pv (ps 1 3) 0, pl (dg 9) 0 1 3, pv (vi 12) 0, pc (dg 22) 3 113 [dg 3, dg 9, vi 12, lb false] 3, ⟨osl (ps 3 0) 4, 4, [3], .al 3, osl (ps 3 0) 4⟩, ⟨ig 25, 4, [], .cl 4 112 [osl (ps 3 0) 4] 6 [3], ig 25⟩, pa 4 0], [5, 11, 17, 23, 25]⟩
def Bo72_7 := [bb 28 (i6 0), bb 28 (i6 6), bb 28 o6, bb 25 [vb 13, vs 14, vi 15, vb 16, vs 17, vi 18, vb 19, vs 20, vi 21, vb 22, vs 23, vi 24], bb 28 (i6 25)]
def Fo72_8 := fs Fo72_4 [(8, ps 6 0), (35, ps 0 0), (36, dg 0), (37, ps 1 0), (38, dg 6), (39, vi 12), (40, dg 31), (41, ps 0 0), (42, dg 0), (43, ps 1 3), (44, dg 9), (45, vi 12), (46, dg 34), (47, ps 0 3), (48, dg 3), (49, ps 1 0), (50, dg 6), (51, vi 12), (52, dg 37), (53, ps 0 3), (54, dg 3), (55, ps 1 3), (56, dg 9), (57, vi 12), (58, dg 40), (59, osl (ps 5 0) 4), (60, ig 43)]
def Bo72_9 := [bb 28 (i6 0), bb 28 (i6 6), bb 28 o6, bb 25 [vb 13, vs 14, vi 15, vb 16, vs 17, vi 18, vb 19, vs 20, vi 21, vb 22, vs 23, vi 24], bb 28 (i6 25), bb 25 [vb 31, vs 32, vi 33, vb 34, vs 35, vi 36, vb 37, vs 38, vi 39, vb 40, vs 41, vi 42], bb 28 o6]
def Ro72_10 : Rg := ⟨27, 31, 5, Fo72_4, Bo72_9, [pv (ps 0 0) 0, pl (dg 0) 0 0 0, pv (ps 1 0) 0, pl (dg 6) 0 1 0, pv (vi 12) 0, pc (dg 31) 0 113 [dg 0, dg 6, vi 12, lb true] 3, pv (ps 0 0) 0, pl (dg 0) 0 0 0, pv (ps 1 3) 0, pl (dg 9) 0 1 3, pv (vi 12) 0, pc (dg 34) 1 113 [dg 0, dg 9, vi 12, lb true] 3, pv (ps 0 3) 0, pl (dg 3) 0 0 3, pv (ps 1 0) 0, pl (dg 6) 0 1 0, pv (vi 12) 0, pc (dg 37) 2 113 [dg 3, dg 6, vi 12, lb true] 3, pv (ps 0 3) 0, pl (dg 3) 0 0 3, pv (ps 1 3) 0, pl (dg 9) 0 1 3, pv (vi 12) 0, pc (dg 40) 3 113 [dg 3, dg 9, vi 12, lb true] 3, ⟨osl (ps 5 0) 4, 4, [5], .al 5, osl (ps 5 0) 4⟩, ⟨ig 43, 4, [], .cl 4 112 [osl (ps 5 0) 4] 6 [5], ig 43⟩, pa 6 0], [5, 11, 17, 23, 25]⟩
def Bo72_11 := [bb 28 (i6 0), bb 28 (i6 6), bb 28 o6, bb 25 [vb 13, vs 14, vi 15, vb 16, vs 17, vi 18, vb 19, vs 20, vi 21, vb 22, vs 23, vi 24], bb 28 (i6 25), bb 25 [vb 31, vs 32, vi 33, vb 34, vs 35, vi 36, vb 37, vs 38, vi 39, vb 40, vs 41, vi 42], bb 28 (i6 43)]
def Fo72_12 := fs Fo72_8 [(61, ps 4 0), (62, dg 25), (63, ps 6 3), (64, dg 46), (65, ag [vb 25, vs 26, vi 27, vb 46, vs 47, vi 48])]
def Ro72_13 : Rg := ⟨5, 49, 7, Fo72_8, Bo72_11, [pv (ps 4 0) 0, pl (dg 25) 0 4 0, pv (ps 6 3) 0, pl (dg 46) 0 6 3, pv (ag [vb 25, vs 26, vi 27, vb 46, vs 47, vi 48]) 0], []⟩
def Bo72_14 := [bb 28 (i6 0), bb 28 (i6 6), bb 28 [vb 25, vs 26, vi 27, vb 46, vs 47, vi 48], bb 25 [vb 13, vs 14, vi 15, vb 16, vs 17, vi 18, vb 19, vs 20, vi 21, vb 22, vs 23, vi 24], bb 28 (i6 25), bb 25 [vb 31, vs 32, vi 33, vb 34, vs 35, vi 36, vb 37, vs 38, vi 39, vb 40, vs 41, vi 42], bb 28 (i6 43)]
theorem divi_q {u v : Value} {a b c d : Rat} {N M p : Nat} {w : World} (h : CI w u a b N) (h' : CI w v c d M) (ha : 0 < a) (hab : a ≤ b) (hc : 0 < c) (hcd : c ≤ d) (hN : N + M ≤ 1000000) (hp : 1 ≤ p) (hp2 : p ≤ 1000000) (hT : TB w) :
 Calls Tryz.prog 72 #[u, v, .int .i64 (p : Int)] w fun en w' => ∃ v' l r, en = .returned v' ∧ PI w' w.heap.size v' l r (3 * (N + M) + 2 * p + 201) ∧ CutOf false (a * d⁻¹) l (ep p) ∧ CutOf true (b * c⁻¹) r (ep p) ∧ Short p l ∧ Short p r ∧ BL w w' := by
 obtain ⟨b0, A0, n0, c0, x0, d0, B0, m0, e0, y0, rfl⟩ := h.ex
 obtain ⟨b99, A99, n99, c99, x99, d99, B99, m99, e99, y99, rfl⟩ := h'.ex
 have hb : 0 < b := by grind
 have hd : 0 < d := by grind
 refine fn_enter (u := 64) (fn := Tryz.f72) Tryz.func72 rfl Fo72_0 [.bool b0, .slice A0 n0 c0, .int .i64 x0, .bool d0, .slice B0 m0 e0, .int .i64 y0, .bool b99, .slice A99 n99 c99, .int .i64 x99, .bool d99, .slice B99 m99 e99, .int .i64 y99, .int .i64 (p : Int)] (by kernel_rfl) rfl (fun a0 S0 r0 => ?_)
 refine wp_seq (rk Ro72_3 [] Fo72_1 Bo72_2 S0 r0 ?_)
 intro _ _ _ r1 S1
 refine wp_seq (rk Ro72_6 [.st 4 0 (i6 25)] Fo72_4 Bo72_7 S1 r1 ?_)
 intro _ _ r2 _
 refine (over_q (N := N) (M := M) (p := p) (up := false) (h.below r2.first).lo (h'.below r2.first).lo ha hc (by omega) hp (by omega) (tb hT r2)).mono ?_
 rintro _ V1 ⟨v, y1, rfl, h1, e1, s1, k1⟩
 obtain ⟨b1, A1, n1, c1, x1, rfl⟩ := h1.ex
 replace h1 := h1.lower r2.fs
 refine ⟨[.bool b1, .slice A1 n1 c1, .int .i64 x1], rfl, rfl, rfl, k1, ?_⟩
 intro _ _ r3 _
 refine (over_q (N := N) (M := M) (p := p) (up := false) (h.below r3.first).lo (h'.below r3.first).hi ha hd (by omega) hp (by omega) (tb hT r3)).mono ?_
 rintro _ V2 ⟨v, y2, rfl, h2, e2, s2, k2⟩
 obtain ⟨b2, A2, n2, c2, x2, rfl⟩ := h2.ex
 replace h2 := h2.lower r3.fs
 refine ⟨[.bool b2, .slice A2 n2 c2, .int .i64 x2], rfl, rfl, rfl, k2, ?_⟩
 intro _ _ r4 _
 refine (over_q (N := N) (M := M) (p := p) (up := false) (h.below r4.first).hi (h'.below r4.first).lo hb hc (by omega) hp (by omega) (tb hT r4)).mono ?_
 rintro _ V3 ⟨v, y3, rfl, h3, e3, s3, k3⟩
 obtain ⟨b3, A3, n3, c3, x3, rfl⟩ := h3.ex
 replace h3 := h3.lower r4.fs
 refine ⟨[.bool b3, .slice A3 n3 c3, .int .i64 x3], rfl, rfl, rfl, k3, ?_⟩
 intro _ _ r5 _
 refine (over_q (N := N) (M := M) (p := p) (up := false) (h.below r5.first).hi (h'.below r5.first).hi hb hd (by omega) hp (by omega) (tb hT r5)).mono ?_
 rintro _ V4 ⟨v, y4, rfl, h4, e4, s4, k4⟩
 obtain ⟨b4, A4, n4, c4, x4, rfl⟩ := h4.ex
 replace h4 := h4.lower r5.fs
 refine ⟨[.bool b4, .slice A4 n4 c4, .int .i64 x4], rfl, rfl, rfl, k4, ?_⟩
 intro W6 g6 r6 q6
 refine (span_q (eb := (fun | 0 => b1 | 1 => b2 | 2 => b3 | _ => b4)) (eA := (fun | 0 => A1 | 1 => A2 | 2 => A3 | _ => A4)) (en := (fun | 0 => n1 | 1 => n2 | 2 => n3 | _ => n4)) (ec := (fun | 0 => c1 | 1 => c2 | 2 => c3 | _ => c4)) (ex := (fun | 0 => x1 | 1 => x2 | 2 => x3 | _ => x4)) (q := (fun | 0 => y1 | 1 => y2 | 2 => y3 | _ => y4)) (g0 := g6 3) (N := 3 * (N + M) + 2 * p + 201) (q6 3 (by decide) _ rfl) (four_of (h1.lat (r6.at_ 0 _ rfl)).c (h2.lat (r6.at_ 1 _ rfl)).c (h3.lat (r6.at_ 2 _ rfl)).c (h4.lat (r6.at_ 3 _ rfl)).c) (by omega) (tb hT r6)).mono ?_
 rintro _ V5 ⟨i5, j5, hi5, hj5, hq5, rfl, k5⟩
 refine ⟨[.bool ((fun | 0 => b1 | 1 => b2 | 2 => b3 | _ => b4) i5), .slice ((fun | 0 => A1 | 1 => A2 | 2 => A3 | _ => A4) i5) ((fun | 0 => n1 | 1 => n2 | 2 => n3 | _ => n4) i5) ((fun | 0 => c1 | 1 => c2 | 2 => c3 | _ => c4) i5), .int .i64 ((fun | 0 => x1 | 1 => x2 | 2 => x3 | _ => x4) i5), .bool ((fun | 0 => b1 | 1 => b2 | 2 => b3 | _ => b4) j5), .slice ((fun | 0 => A1 | 1 => A2 | 2 => A3 | _ => A4) j5) ((fun | 0 => n1 | 1 => n2 | 2 => n3 | _ => n4) j5) ((fun | 0 => c1 | 1 => c2 | 2 => c3 | _ => c4) j5), .int .i64 ((fun | 0 => x1 | 1 => x2 | 2 => x3 | _ => x4) j5)], rfl, rfl, rfl, k5, ?_⟩
 intro _ _ _ r7 S7
 refine wp_seq (rk Ro72_10 [.st 6 0 (i6 43)] Fo72_8 Bo72_11 S7 r7 ?_)
 intro _ _ r8 _
 refine (over_q (N := N) (M := M) (p := p) (up := true) (h.below r8.first).lo (h'.below r8.first).lo ha hc (by omega) hp (by omega) (tb hT r8)).mono ?_
 rintro _ V6 ⟨v, y6, rfl, h6, e6, s6, k6⟩
 obtain ⟨b6, A6, n6, c6, x6, rfl⟩ := h6.ex
 replace h6 := h6.lower r8.fs
 refine ⟨[.bool b6, .slice A6 n6 c6, .int .i64 x6], rfl, rfl, rfl, k6, ?_⟩
 intro _ _ r9 _
 refine (over_q (N := N) (M := M) (p := p) (up := true) (h.below r9.first).lo (h'.below r9.first).hi ha hd (by omega) hp (by omega) (tb hT r9)).mono ?_
 rintro _ V7 ⟨v, y7, rfl, h7, e7, s7, k7⟩
 obtain ⟨b7, A7, n7, c7, x7, rfl⟩ := h7.ex
 replace h7 := h7.lower r9.fs
 refine ⟨[.bool b7, .slice A7 n7 c7, .int .i64 x7], rfl, rfl, rfl, k7, ?_⟩
 intro _ _ r10 _
 refine (over_q (N := N) (M := M) (p := p) (up := true) (h.below r10.first).hi (h'.below r10.first).lo hb hc (by omega) hp (by omega) (tb hT r10)).mono ?_
 rintro _ V8 ⟨v, y8, rfl, h8, e8, s8, k8⟩
 obtain ⟨b8, A8, n8, c8, x8, rfl⟩ := h8.ex
 replace h8 := h8.lower r10.fs
 refine ⟨[.bool b8, .slice A8 n8 c8, .int .i64 x8], rfl, rfl, rfl, k8, ?_⟩
 intro _ _ r11 _
 refine (over_q (N := N) (M := M) (p := p) (up := true) (h.below r11.first).hi (h'.below r11.first).hi hb hd (by omega) hp (by omega) (tb hT r11)).mono ?_
 rintro _ V9 ⟨v, y9, rfl, h9, e9, s9, k9⟩
 obtain ⟨b9, A9, n9, c9, x9, rfl⟩ := h9.ex
 replace h9 := h9.lower r11.fs
 refine ⟨[.bool b9, .slice A9 n9 c9, .int .i64 x9], rfl, rfl, rfl, k9, ?_⟩
 intro W12 g12 r12 q12
 refine (span_q (eb := (fun | 0 => b6 | 1 => b7 | 2 => b8 | _ => b9)) (eA := (fun | 0 => A6 | 1 => A7 | 2 => A8 | _ => A9)) (en := (fun | 0 => n6 | 1 => n7 | 2 => n8 | _ => n9)) (ec := (fun | 0 => c6 | 1 => c7 | 2 => c8 | _ => c9)) (ex := (fun | 0 => x6 | 1 => x7 | 2 => x8 | _ => x9)) (q := (fun | 0 => y6 | 1 => y7 | 2 => y8 | _ => y9)) (g0 := g12 5) (N := 3 * (N + M) + 2 * p + 201) (q12 5 (by decide) _ rfl) (four_of (h6.lat (r12.at_ 5 _ rfl)).c (h7.lat (r12.at_ 6 _ rfl)).c (h8.lat (r12.at_ 7 _ rfl)).c (h9.lat (r12.at_ 8 _ rfl)).c) (by omega) (tb hT r12)).mono ?_
 rintro _ V10 ⟨i10, j10, hi10, hj10, hq10, rfl, k10⟩
 refine ⟨[.bool ((fun | 0 => b6 | 1 => b7 | 2 => b8 | _ => b9) i10), .slice ((fun | 0 => A6 | 1 => A7 | 2 => A8 | _ => A9) i10) ((fun | 0 => n6 | 1 => n7 | 2 => n8 | _ => n9) i10) ((fun | 0 => c6 | 1 => c7 | 2 => c8 | _ => c9) i10), .int .i64 ((fun | 0 => x6 | 1 => x7 | 2 => x8 | _ => x9) i10), .bool ((fun | 0 => b6 | 1 => b7 | 2 => b8 | _ => b9) j10), .slice ((fun | 0 => A6 | 1 => A7 | 2 => A8 | _ => A9) j10) ((fun | 0 => n6 | 1 => n7 | 2 => n8 | _ => n9) j10) ((fun | 0 => c6 | 1 => c7 | 2 => c8 | _ => c9) j10), .int .i64 ((fun | 0 => x6 | 1 => x7 | 2 => x8 | _ => x9) j10)], rfl, rfl, rfl, k10, ?_⟩
 intro _ _ _ r13 S13
 refine wp_seq (rk Ro72_13 [.st 2 0 [vb 25, vs 26, vi 27, vb 46, vs 47, vi 48]] Fo72_12 Bo72_14 S13 r13 ?_)
 intro _ _ _ r14 S14
 exact rt S14 [.agg #[.bool ((fun | 0 => b1 | 1 => b2 | 2 => b3 | _ => b4) i5), .slice ((fun | 0 => A1 | 1 => A2 | 2 => A3 | _ => A4) i5) ((fun | 0 => n1 | 1 => n2 | 2 => n3 | _ => n4) i5) ((fun | 0 => c1 | 1 => c2 | 2 => c3 | _ => c4) i5), .int .i64 ((fun | 0 => x1 | 1 => x2 | 2 => x3 | _ => x4) i5), .bool ((fun | 0 => b6 | 1 => b7 | 2 => b8 | _ => b9) j10), .slice ((fun | 0 => A6 | 1 => A7 | 2 => A8 | _ => A9) j10) ((fun | 0 => n6 | 1 => n7 | 2 => n8 | _ => n9) j10) ((fun | 0 => c6 | 1 => c7 | 2 => c8 | _ => c9) j10), .int .i64 ((fun | 0 => x6 | 1 => x7 | 2 => x8 | _ => x9) j10)]] (⟨_, _, _, rfl, .mk ((four_of (p := fun k => PQ _ w.heap.size (.agg #[.bool ((fun | 0 => b1 | 1 => b2 | 2 => b3 | _ => b4) k), .slice ((fun | 0 => A1 | 1 => A2 | 2 => A3 | _ => A4) k) ((fun | 0 => n1 | 1 => n2 | 2 => n3 | _ => n4) k) ((fun | 0 => c1 | 1 => c2 | 2 => c3 | _ => c4) k), .int .i64 ((fun | 0 => x1 | 1 => x2 | 2 => x3 | _ => x4) k)]) ((fun | 0 => y1 | 1 => y2 | 2 => y3 | _ => y4) k) (3 * (N + M) + 2 * p + 201)) (h1.lat (r14.at_ 0 _ rfl)) (h2.lat (r14.at_ 1 _ rfl)) (h3.lat (r14.at_ 2 _ rfl)) (h4.lat (r14.at_ 3 _ rfl)) i5 hi5)) ((four_of (p := fun k => PQ _ w.heap.size (.agg #[.bool ((fun | 0 => b6 | 1 => b7 | 2 => b8 | _ => b9) k), .slice ((fun | 0 => A6 | 1 => A7 | 2 => A8 | _ => A9) k) ((fun | 0 => n6 | 1 => n7 | 2 => n8 | _ => n9) k) ((fun | 0 => c6 | 1 => c7 | 2 => c8 | _ => c9) k), .int .i64 ((fun | 0 => x6 | 1 => x7 | 2 => x8 | _ => x9) k)]) ((fun | 0 => y6 | 1 => y7 | 2 => y8 | _ => y9) k) (3 * (N + M) + 2 * p + 201)) (h6.lat (r14.at_ 5 _ rfl)) (h7.lat (r14.at_ 6 _ rfl)) (h8.lat (r14.at_ 7 _ rfl)) (h9.lat (r14.at_ 8 _ rfl)) j10 hj10)), div_lo (x := quo4 a b c d) (Rat.mul_pos ha (Rat.inv_pos.2 hd)) (Rat.le_of_lt (ep_pos p)) (ep_small hp) hi5 (fun k hk => (hq5 k hk).1) 1 (by decide) rfl (fun k hk => (quo_between ha hab hc hcd k hk).1) (four_of e1 e2 e3 e4), div_hi (x := quo4 a b c d) (Rat.mul_pos hb (Rat.inv_pos.2 hc)) (Rat.le_of_lt (ep_pos p)) hj10 (fun k hk => (hq10 k hk).2) 2 (by decide) rfl (fun k hk => Rat.le_trans (Rat.le_of_lt (Rat.mul_pos ha (Rat.inv_pos.2 hd))) (quo_between ha hab hc hcd k hk).1) (fun k hk => (quo_between ha hab hc hcd k hk).2) (four_of e6 e7 e8 e9), four_of (p := fun k => Short p ((fun | 0 => y1 | 1 => y2 | 2 => y3 | _ => y4) k)) s1 s2 s3 s4 i5 hi5, four_of (p := fun k => Short p ((fun | 0 => y6 | 1 => y7 | 2 => y8 | _ => y9) k)) s6 s7 s8 s9 j10 hj10, r14.first⟩)
def Fo73_0 : List Sy := [U, U, U]
def Fo73_1 := fs Fo73_0 [(0, ps 0 0)]
def Bo73_2 := [bb 28 o6]
def Ro73_3 : Rg := ⟨1, 0, 0, Fo73_0, Bo73_2, [pa 0 0], []⟩
def Fo73_4 := fs Fo73_1 [(1, dg 0), (2, ig 3)]
def Ro73_5 : Rg := ⟨2, 0, 1, Fo73_1, Bo73_2, [pc (dg 0) 0 69 [li 1] 3, pc (ig 3) 1 83 [dg 0] 6], [0, 1]⟩
def Bo73_6 := [bb 28 (i6 3)]
theorem eone_q (w : World) (hT : TB w) :
 Calls Tryz.prog 73 #[] w fun en w' => ∃ v', en = .returned v' ∧ PI w' w.heap.size v' 1 1 64 ∧ BL w w' := by
 refine fn_enter (u := 64) (fn := Tryz.f73) Tryz.func73 rfl Fo73_0 [] (by kernel_rfl) rfl (fun a0 S0 r0 => ?_)
 refine wp_seq (rk Ro73_3 [] Fo73_1 Bo73_2 S0 r0 ?_)
 intro _ _ _ r1 S1
 refine wp_seq (rk Ro73_5 [.st 0 0 (i6 3)] Fo73_4 Bo73_6 S1 r1 ?_)
 intro _ _ r2 _
 refine (int_q 1 _ (by decide) (by decide) (tb hT r2)).mono ?_
 rintro _ V1 ⟨v, rfl, h1, k1⟩
 obtain ⟨b1, A1, n1, c1, x1, rfl⟩ := h1.ex
 replace h1 := h1.lower r2.fs
 refine ⟨[.bool b1, .slice A1 n1 c1, .int .i64 x1], rfl, rfl, rfl, k1, ?_⟩
 intro _ _ r3 _
 refine (point_q (h1.lat (r3.at_ 0 _ rfl)).c (by decide) (tb hT r3)).mono ?_
 rintro _ V2 ⟨v, rfl, h2, k2⟩
 obtain ⟨b2, A2, n2, c2, x2, d2, B2, m2, e2, y2, rfl⟩ := h2.ex
 replace h2 := h2.lower r3.fs
 refine ⟨[.bool b2, .slice A2 n2 c2, .int .i64 x2, .bool d2, .slice B2 m2 e2, .int .i64 y2], rfl, rfl, rfl, k2, ?_⟩
 intro _ _ _ r4 S4
 exact rt S4 [.agg #[.bool b2, .slice A2 n2 c2, .int .i64 x2, .bool d2, .slice B2 m2 e2, .int .i64 y2]] (⟨_, rfl, (h2.lat (r4.at_ 1 _ rfl)), r4.first⟩)
theorem Ab.exs {k : Nat} {x l h : Rat} (a : Ab k x l h) (hx : 0 ≤ x) : Enc l h x (ep k) := ⟨⟨a.nar.1, a.le, .inl ⟨hx, a.ex⟩⟩, a.nar⟩
theorem enc_size {k n : Nat} {x l h : Rat} (hn : n = 8192) (a : Enc l h x (ep k)) (hk : 1 ≤ k) (hx : -16384 ≤ x) (hx2 : x ≤ 16384) : (((2 ^ (3 * n + 1) : Nat) : Rat))⁻¹ ≤ l ∧ h ≤ ((2 ^ (3 * n + 1) : Nat) : Rat) := by
 have h2 : h ≤ l * 2 := by
  have := a.2.2
  have l0 := a.2.1
  have e := ep_small hk
  have := Rat.mul_le_mul_of_nonneg_left e (Rat.le_of_lt l0)
  grind
 have e : ((2 * n : Nat) : Rat) = 16384 := by rw [hn]; decide +kernel
 exact a.1.sizes (n := n) (by rw [e]; exact hx) (by rw [e]; exact hx2) h2
theorem PI.enc_fit {w : World} {b N P k : Nat} {v : Value} {x l u : Rat} (h : PI w b v l u N) (a : Enc l u x (ep k)) (hk : 1 ≤ k) (hx : -16384 ≤ x) (hx2 : x ≤ 16384) (s1 : Short P l) (s2 : Short P u) (hP : P ≤ 8000) : PI w b v l u 32768 := by
 obtain ⟨n, hn⟩ : ∃ n, n = 8192 := ⟨_, rfl⟩
 obtain ⟨q1, q2⟩ := enc_size hn a hk hx hx2
 exact h.fit s1 s2 q1 a.1.2.1 q2 (by omega)
theorem inv_enc {p : Nat} {t l u l' u' : Rat} (a : Ab (p + 50) (-t) l u) (ht : t ≤ 0) (h1 : CutOf false (1 * u⁻¹) l' (ep (p + 64))) (h2 : CutOf true (1 * l⁻¹) u' (ep (p + 64))) : Enc l' u' t (ep (p + 49)) := by
 rw [Rat.one_mul] at h1 h2
 have e := (a.exs (by grind)).inv h1 h2 (Rat.le_of_lt (ep_pos _)) (ep_small (by omega)) (Rat.le_of_lt (ep_pos _)) (by
  have := eight_ep (p + 61); have := ep_small (p := p + 61) (by omega); rw [show p + 64 = p + 61 + 3 by omega]; grind)
 rw [Rat.neg_neg] at e
 refine ⟨e.1, e.2.more ?_⟩
 have h5 := ep_succ (p + 49)
 have h3 := eight_ep (p + 50)
 have := ep_le (p := p + 53) (q := p + 64) (by omega)
 rw [show p + 50 + 3 = p + 53 by omega] at h3
 rw [show p + 49 + 1 = p + 50 by omega] at h5
 have h6 := ep_pos (p + 53)
 clear e h1 h2 a
 generalize ep (p + 50) = A at *
 generalize ep (p + 64) = B at *
 generalize ep (p + 53) = C at *
 generalize ep (p + 49) = D at *
 grind
theorem ab_nonneg (t : Rat) : 0 ≤ ab t := by unfold ab; split <;> grind
theorem ab_le {t M : Rat} (h1 : -M ≤ t) (h2 : t ≤ M) : ab t ≤ M := by unfold ab; split <;> grind
theorem ab_neg {t : Rat} (h : t ≤ 0) : ab t = -t := by unfold ab; split <;> grind
theorem ab_pos {t : Rat} (h : 0 ≤ t) : ab t = t := by unfold ab; rw [if_pos h]
theorem neg_le {z e : Int} (h : cneg z = true) : Dv z e ≤ 0 := by
 have : z < 0 := of_decide_eq_true h
 exact Rat.le_of_lt (Dv_lt_zero.2 this)
theorem neg_ge {z e : Int} (h : cneg z = false) : 0 ≤ Dv z e := by
 have : ¬ z < 0 := of_decide_eq_false h
 exact Dv_nonneg.2 (by omega)
def Fo33_0 := [dg 0, vi 3, U, U, U, U, U, U, U, U, U, U, U, U, U, U, U, U]
def Fo33_1 := fs Fo33_0 [(2, ps 0 0), (4, ps 1 0)]
def Bo33_2 := [bb 25 (d3 0), bb 28 o6]
def Ro33_3 : Rg := ⟨2, 4, 0, Fo33_0, Bo33_2, [pa 0 0, pa 1 0], []⟩
def Fo33_4 := fs Fo33_1 [(5, ps 2 0), (6, dg 0), (7, dg 4), (8, vi 3), (9, ig 7)]
def Bo33_5 := [bb 25 (d3 0), bb 28 o6, bb 28 o6]
def Ro33_6 : Rg := ⟨5, 4, 2, Fo33_1, Bo33_5, [pl (dg 0) 0 0 0, pc (dg 4) 0 68 [dg 0] 3, pv (vi 3) 0, pc (ig 7) 1 71 [dg 4, vi 3] 6, pa 2 0], [1, 3]⟩
def Bo33_7 := [bb 25 (d3 0), bb 28 o6, bb 28 (i6 7)]
def Fo33_8 := fs Fo33_4 [(10, ps 0 0), (11, vb 0)]
def Ro33_9 : Rg := ⟨2, 13, 3, Fo33_4, Bo33_7, [pv (ps 0 0) 0, pl (vb 0) 0 0 0], []⟩
def Fo33_10 := fs Fo33_8 [(12, ig 13), (13, ig 7), (14, vi 3), (15, bo .add (vi 3) (li 64)), (16, ig 19)]
def Ro33_11 : Rg := ⟨5, 13, 3, Fo33_8, Bo33_7, [pc (ig 13) 0 73 [] 6, pl (ig 7) 0 2 0, pv (vi 3) 0, pv (bo .add (vi 3) (li 64)) 0, pc (ig 19) 1 72 [ig 13, ig 7, bo .add (vi 3) (li 64)] 6], [0, 4]⟩
def Bo33_12 := [bb 25 (d3 0), bb 28 (i6 19), bb 28 (i6 7)]
def Fo33_13 := fs Fo33_8 [(17, ig 7)]
def Ro33_14 : Rg := ⟨1, 13, 3, Fo33_8, Bo33_7, [pl (ig 7) 0 2 0], []⟩
def Bo33_15 := [bb 25 (d3 0), bb 28 (i6 7), bb 28 (i6 7)]
theorem power_q {v : Value} {t : Rat} {N p : Nat} {w : World} (h : CQ w v t N) (ht : -16384 ≤ t) (ht2 : t ≤ 16384) (hN : N ≤ 16777216) (hp : 8 ≤ p) (hp2 : p ≤ 5000) (hT : TB w) :
 Calls Tryz.prog 33 #[v, .int .i64 (p : Int)] w fun en w' => ∃ v' l u, en = .returned v' ∧ PI w' w.heap.size v' l u 32768 ∧ Enc l u t (ep (p + 49)) ∧ BL w w' := by
 obtain ⟨z, e, hz, rfl, hB⟩ := h
 have h : CQ w v (Dv z e) N := ⟨z, e, hz, rfl, hB⟩
 obtain ⟨t, et⟩ : ∃ t, t = Dv z e := ⟨_, rfl⟩
 rw [← et] at ht ht2 h ⊢
 obtain ⟨b0, A0, n0, c0, x0, rfl⟩ := h.ex
 have hb0 := (CDy.cells hz).1
 have hw : IntKind.i64.wrap ((p : Int) + 64) = ((p + 64 : Nat) : Int) := i64_id (by omega) (by omega)
 refine fn_enter (u := 64) (fn := Tryz.f33) Tryz.func33 rfl Fo33_0 [.bool b0, .slice A0 n0 c0, .int .i64 x0, .int .i64 (p : Int)] (by kernel_rfl) rfl (fun a0 S0 r0 => ?_)
 refine wp_seq (rk Ro33_3 [] Fo33_1 Bo33_2 S0 r0 ?_)
 intro _ _ _ r1 S1
 refine wp_seq (rk Ro33_6 [.st 2 0 (i6 7)] Fo33_4 Bo33_7 S1 r1 ?_)
 intro _ _ r2 _
 refine (abs_q (h.below r2.first) (by omega) (tb hT r2)).mono ?_
 rintro _ V1 ⟨v, rfl, h1, k1⟩
 obtain ⟨b1, A1, n1, c1, x1, rfl⟩ := h1.ex
 replace h1 := h1.lower r2.fs
 refine ⟨[.bool b1, .slice A1 n1 c1, .int .i64 x1], rfl, rfl, rfl, k1, ?_⟩
 intro _ _ r3 _
 refine (above_q (h1.lat (r3.at_ 0 _ rfl)).c (ab_nonneg t) (ab_le ht ht2) (by omega) hp hp2 (tb hT r3)).mono ?_
 rintro _ V2 ⟨v, l, u, rfl, h2, f2, k2⟩
 obtain ⟨b2, A2, n2, c2, x2, d2, B2, m2, e2, y2, rfl⟩ := h2.ex
 replace h2 := h2.lower r3.fs
 refine ⟨[.bool b2, .slice A2 n2 c2, .int .i64 x2, .bool d2, .slice B2 m2 e2, .int .i64 y2], rfl, rfl, rfl, k2, ?_⟩
 intro _ _ _ r4 S4
 refine wp_seq ?_
 refine wp_seq (rk Ro33_9 [] Fo33_8 Bo33_7 S4 r4 ?_)
 intro _ _ _ r5 S5
 refine wp_cond_split (t := b0) (S5.cnd (by kernel_rfl)) (fun q1 => ?_) (fun q1 => ?_)
 · have htn : t ≤ 0 := by rw [et]; exact neg_le (by rw [← hb0]; exact q1)
   refine wp_seq (rk Ro33_11 [.st 1 0 (i6 19)] Fo33_10 Bo33_12 S5 r5 ?_)
   intro W6 g6 r6 _
   refine (eone_q _ (tb hT r6)).mono ?_
   rintro _ V3 ⟨v, rfl, h3, k3⟩
   obtain ⟨b3, A3, n3, c3, x3, d3, B3, m3, e3, y3, rfl⟩ := h3.ex
   replace h3 := h3.lower r6.fs
   refine ⟨[.bool b3, .slice A3 n3 c3, .int .i64 x3, .bool d3, .slice B3 m3 e3, .int .i64 y3], rfl, rfl, rfl, k3, ?_⟩
   intro W7 _ r7 _
   show Calls Tryz.prog 72 #[.agg #[.bool b3, .slice A3 n3 c3, .int .i64 x3, .bool d3, .slice B3 m3 e3, .int .i64 y3], .agg #[.bool b2, .slice A2 n2 c2, .int .i64 x2, .bool d2, .slice B2 m2 e2, .int .i64 y2], .int .i64 (IntKind.i64.wrap ((p : Int) + 64))] W7 _
   rw [hw]
   refine (divi_q (p := p + 64) (h3.lat (r7.at_ 2 _ rfl)).c (h2.lat (r7.at_ 1 _ rfl)).c (by decide +kernel) Rat.le_refl f2.nar.1 f2.le (by decide) (by omega) (by omega) (tb hT r7)).mono ?_
   rintro _ V4 ⟨v, l', u', rfl, h4, d1, d2, s1, s2, k4⟩
   obtain ⟨b4, A4, n4, c4, x4, d4, B4, m4, e4, y4, rfl⟩ := h4.ex
   replace h4 := h4.lower r7.fs
   have henc := inv_enc (t := t) (by rw [← ab_neg htn]; exact f2) htn d1 d2
   replace h4 := h4.enc_fit henc (by omega) ht ht2 s1 s2 (by omega)
   refine ⟨[.bool b4, .slice A4 n4 c4, .int .i64 x4, .bool d4, .slice B4 m4 e4, .int .i64 y4], rfl, rfl, rfl, k4, ?_⟩
   intro _ _ _ r8 S8
   exact wp_ret (then_ret (ret_ok S8 [.agg #[.bool b4, .slice A4 n4 c4, .int .i64 x4, .bool d4, .slice B4 m4 e4, .int .i64 y4]] (by kernel_rfl) (⟨_, _, _, rfl, (h4.lat (r8.at_ 3 _ rfl)), henc, r8.first⟩)))
 · have htp : 0 ≤ t := by rw [et]; exact neg_ge (by rw [← hb0]; exact q1)
   refine wp_skip ?_
   refine wp_seq (rk Ro33_14 [.st 1 0 (i6 7)] Fo33_13 Bo33_15 S5 r5 ?_)
   intro _ g6 W6 r6 S6
   exact rt S6 [.agg #[.bool b2, .slice A2 n2 c2, .int .i64 x2, .bool d2, .slice B2 m2 e2, .int .i64 y2]] (⟨_, _, _, rfl, (h2.lat (r6.at_ 1 _ rfl)), by have := f2.exs (ab_nonneg t); rw [ab_pos htp] at this; exact ⟨this.1, this.2.more (ep_le (by omega))⟩, r6.first⟩)
theorem trim_all (l : List Nat) (A : Option Addr) (c : Nat) (w : World) (hr : kU.C w A l.length l) (hc : l.length ≤ c) (hw : Wf l) :
 Calls Tryz.prog 109 #[.slice A l.length c] w fun e w' => e = .returned (.slice A (limbs (nv l)).length (limbs (nv l)).length) ∧ ∃ m, w' = w.drewN m := by
 have hl : l.length ≤ 9223372036854775807 := Kd.C_max hr
 have HR := yk hr
 have HW := yk hw
 clear hr hw
 go_enter Tryz.func109, Tryz.ntmps109
 go_wp2
 go_loopw [3] (fun i wr => ∃ k : Nat, i = .int .i64 k ∧ k ≤ l.length ∧ Aside0 (∃ n, wr = w.drewN n) ∧ Aside0 (∀ j x, k ≤ j → l[j]? = some x → x = 0)) (fun i _ => (intOf i).toNat)
 case atStart => exact ⟨l.length, rfl, Nat.le_refl _, ⟨⟨0, rfl⟩⟩, ⟨fun j x hj hx => by rw [List.getElem?_eq_none hj] at hx; cases hx⟩⟩
 case round =>
  obtain ⟨k, rfl, hk, HWR, HG⟩ := hrel
  obtain ⟨nw, rfl⟩ := HWR.out
  clear HWR
  have hkc : k ≤ c := by omega
  have HBB := yk (pw_below_drewN (Below.refl w.heap.size w) nw)
  have hsl := run_full l.length A c k hc hk
  by_cases hk0 : k = 0
  · have HK := yk (limbs_take HW.out hk HG.out (fun h => by omega))
    have HKL := yk (show (limbs (nv l)).length = k by rw [HK.out, List.length_take]; omega)
    have hkn : k ≤ 0 := by omega
    have hkd2 : decide (0 < k) = false := decide_eq_false (by omega)
    have hkd : decide (0 < (k : Int)) = false := decide_eq_false (by omega)
    clear hk0
    go_wp2
    go_ret
    exact ⟨by rw [HKL.out]; rfl, ⟨nw, rfl⟩⟩
  · have hkd : decide (0 < (k : Int)) = true := decide_eq_true (by omega)
    have hkp : 0 < k := by omega
    obtain ⟨ad, x, rfl, hx0, hcell⟩ := at_word HR.out rfl (k - 1) (by omega)
    have hx := yk hx0
    have e1 : IntKind.i64.wrap ((k : Int) - 1) = (k : Int) - 1 := by unfold IntKind.wrap; simp [IntKind.bits, IntKind.signed]; omega
    have e2 : ((k : Int) - 1).toNat = k - 1 := by omega
    have e3 : 0 ≤ (k : Int) - 1 := by omega
    have e4 : (k : Int) - 1 < l.length := by omega
    clear hx0 hk0
    by_cases hz : x = 0
    · subst hz
      clear hsl
      go_wp2
      go_roundw
      case rel =>
       refine ⟨k - 1, by rw [show ((k - 1 : Nat) : Int) = (k : Int) - 1 by omega], by omega, ⟨⟨nw, rfl⟩⟩, ⟨fun j y hj hy => ?_⟩⟩
       by_cases hjk : j = k - 1
       · subst hjk
         have := hx.out
         rw [hy] at this
         exact Option.some.inj this
       · exact HG.out j y (by omega) hy
      case measure => simp [intOf]; omega
    · have HK := yk (limbs_take HW.out hk HG.out (fun _ => ⟨x, hx.out, hz⟩))
      have HKL := yk (show (limbs (nv l)).length = k by rw [HK.out, List.length_take]; omega)
      have hxz : ((x : Int) == 0) = false := by simp; exact hz
      go_wp2
      go_ret
      exact ⟨by rw [HKL.out]; rfl, ⟨nw, rfl⟩⟩
def AN (w : World) (v : Value) (m : Nat) : Prop := ∃ A n c l, v = .slice A n c ∧ kU.C w A n l ∧ l.length = n ∧ n ≤ c ∧ Wf l ∧ nv l = m
theorem AN.below {w w1 : World} {m : Nat} {v : Value} (h : AN w v m) (hb : BL w w1) : AN w1 v m := by
 obtain ⟨A, n, c, l, h1, h2, h3⟩ := h; exact ⟨A, n, c, l, h1, Kd.C_below h2 hb, h3⟩
theorem AN.ex {w : World} {m : Nat} {v : Value} (h : AN w v m) : ∃ A n c, v = .slice A n c := by
 obtain ⟨A, n, c, l, rfl, _⟩ := h; exact ⟨A, n, c, rfl⟩
theorem trim_n {w : World} {A : Option Addr} {n c m : Nat} (h : AN w (.slice A n c) m) :
 Calls Tryz.prog 109 #[.slice A n c] w fun e w' => e = .returned (.slice A (limbs m).length (limbs m).length) ∧ BL w w' := by
 obtain ⟨A', n', c', l, he, h2, h3, h4, h5, h6⟩ := h
 obtain ⟨rfl, rfl, rfl⟩ := slice_inj he
 subst h3
 refine (trim_all l A c w h2 h4 h5).mono ?_
 rintro e w' ⟨rfl, k, rfl⟩
 rw [h6]
 exact ⟨rfl, pw_below_drewN yr _⟩
theorem AN.trimmed {w : World} {A : Option Addr} {n c m : Nat} (h : AN w (.slice A n c) m) : CN w (.slice A (limbs m).length (limbs m).length) m := by
 obtain ⟨A', n', c', l, he, h2, h3, h4, h5, h6⟩ := h
 obtain ⟨rfl, rfl, rfl⟩ := slice_inj he
 subst h3
 have := C_trim h2 h5
 rw [h6] at this
 exact ⟨_, _, _, rfl, this, rfl, Nat.le_refl _⟩
theorem low_n {w : World} {v : Value} {m : Nat} (h : CN w v m) (hm : bl m ≤ 4294967296) (hT : TB w) :
 Calls Tryz.prog 132 #[v] w fun e w' => e = .returned (.int .i64 (tz m : Int)) ∧ BL w w' := by
 obtain ⟨A, n, c, rfl, h1, rfl, h3⟩ := h
 have hl := len_le (K := 67108864) hm
 refine (plow_any (limbs m) A c w h1 h3 (wf_limbs _) (by omega) hT).mono ?_
 rintro e w' ⟨rfl, n, rfl⟩
 rw [nv_limbs]
 exact ⟨rfl, pw_below_drewN yr _⟩
theorem PDy.zero0 (w : World) (b : Nat) (x : Int) : PDy w b (.agg #[.bool false, .slice none 0 0, .int .i64 0]) 0 x := by
 refine ⟨none, 0, 0, rfl, ?_⟩
 rw [cman_zero]
 exact ⟨none, 0, 0, 0, [], rfl, by simp [limbs], Nat.le_refl _, by simp [limbs], Kd.R_nil _ _ _ _ _⟩
theorem PDy.of_cells {w : World} {b : Nat} {v : Value} {s : Bool} {m : Nat} {x X : Int} (h : PN w b v (m / 2 ^ tz m)) (hm : m ≠ 0) (hX : X = x + (tz m : Int)) : PDy w b (.agg #[.bool s, v, .int .i64 X]) (sgn s m) x := by
 obtain ⟨A, n, c, rfl⟩ := h.ex
 refine ⟨A, n, c, ?_, ?_⟩
 · rw [cneg_sgn hm, cexp_sgn hm, hX]
 · rw [cman_sgn]; exact h
theorem len_zero {m : Nat} (h : ((((limbs m).length : Nat) : Int) == 0) = true) : m = 0 := by
 have h2 : (((limbs m).length : Nat) : Int) = 0 := eq_of_beq h
 exact limbs_zero_len.1 (by omega)
theorem tz_le_bl {m : Nat} (h : m ≠ 0) : tz m ≤ bl m := Nat.le_of_lt (tz_lt_bl h)
def Fp102_0 := [vb 0, vs 1, vi 2, U, U, U, U, U, U, U, U, U, U, U, U, U, U, U, U, U, U, U, U, U, U, U, U, U, U, U]
def Fp102_1 := fs Fp102_0 [(6, ps 0 0)]
def Bp102_2 := [bb 25 o3]
def Rp102_3 : Rg := ⟨1, 3, 0, Fp102_0, Bp102_2, [pa 0 0], []⟩
def Fp102_4 := fs Fp102_1 [(1, vs 3), (10, vs 1), (11, vs 3)]
def Rp102_5 : Rg := ⟨2, 3, 1, Fp102_1, Bp102_2, [pv (vs 1) 0, pc (vs 3) 0 109 [vs 1] 1], [1]⟩
def Fp102_6 := fs Fp102_4 [(12, vs 3), (13, f1 lnF (vs 3)), (14, bo .eql (f1 lnF (vs 3)) (li 0))]
def Rp102_7 : Rg := ⟨3, 4, 1, Fp102_4, Bp102_2, [pv (vs 3) 0, pv (f1 lnF (vs 3)) 0, pv (bo .eql (f1 lnF (vs 3)) (li 0)) 0], []⟩
def Fp102_8 := fs Fp102_6 [(15, ag o3)]
def Rp102_9 : Rg := ⟨1, 4, 1, Fp102_6, Bp102_2, [pv (ag o3) 0], []⟩
def Fp102_10 := fs Fp102_6 [(7, vi 4), (16, vs 3), (17, vi 4)]
def Rp102_11 : Rg := ⟨3, 4, 1, Fp102_6, Bp102_2, [pv (vs 3) 0, pc (vi 4) 0 132 [vs 3] 1, pv (vi 4) 1], [1]⟩
def Fp102_12 := fs Fp102_10 [(8, vs 5), (9, vb 6), (18, tu [vs 5, vb 6]), (19, vs 3), (20, vi 4), (21, tu [vs 5, vb 6]), (22, vs 5), (23, vb 6)]
def Rp102_13 : Rg := ⟨8, 5, 1, Fp102_10, Bp102_2, [pv (vs 3) 0, pv (vi 4) 0, pc (tu [vs 5, vb 6]) 0 133 [vs 3, vi 4] 2, pv (tu [vs 5, vb 6]) 1, pv (vs 5) 1, pv (vb 6) 1, pv (vs 5) 1, pv (vb 6) 1], [2]⟩
def Fp102_14 := fs Fp102_12 [(24, vb 0), (25, vs 5), (26, vi 2), (27, vi 4), (28, bo .add (vi 2) (vi 4)), (29, ag [vb 0, vs 5, bo .add (vi 2) (vi 4)])]
def Rp102_15 : Rg := ⟨6, 7, 1, Fp102_12, Bp102_2, [pv (vb 0) 0, pv (vs 5) 0, pv (vi 2) 0, pv (vi 4) 0, pv (bo .add (vi 2) (vi 4)) 0, pv (ag [vb 0, vs 5, bo .add (vi 2) (vi 4)]) 0], []⟩
def Bp102_16 := [bb 25 [vb 0, vs 5, bo .add (vi 2) (vi 4)]]
theorem form_all {v : Value} {m : Nat} (neg : Bool) (x : Int) {w : World} (h : AN w v m) (hm : bl m ≤ 4294967296) (h1 : -1099511627776 ≤ x) (h2 : x ≤ 1099511627776) (hT : TB w) :
 Calls Tryz.prog 102 #[.bool neg, v, .int .i64 x] w fun en w' => ∃ v', en = .returned v' ∧ PDy w' w.heap.size v' (sgn neg m) x ∧ BL w w' := by
 obtain ⟨A0, n0, c0, rfl⟩ := h.ex
 have ht := h.trimmed
 refine fn_enter (u := 64) (fn := Tryz.f102) Tryz.func102 rfl Fp102_0 [.bool neg, .slice A0 n0 c0, .int .i64 x] (by kernel_rfl) rfl (fun a0 S0 r0 => ?_)
 refine wp_seq (rk Rp102_3 [] Fp102_1 Bp102_2 S0 r0 ?_)
 intro _ _ _ r1 S1
 refine wp_seq (rk Rp102_5 [.mv (vs 3)] Fp102_4 Bp102_2 S1 r1 ?_)
 intro _ _ r2 _
 refine (trim_n (h.below r2.first)).mono ?_
 rintro _ V1 ⟨rfl, k1⟩
 refine ⟨[.slice A0 (limbs m).length (limbs m).length], rfl, rfl, rfl, k1, ?_⟩
 intro _ _ _ r3 S3
 refine wp_seq ?_
 refine wp_seq (rk Rp102_7 [] Fp102_6 Bp102_2 S3 r3 ?_)
 intro _ _ _ r4 S4
 refine wp_cond_split (t := (((limbs m).length : Nat) : Int) == 0) (S4.cnd (by kernel_rfl)) (fun q1 => ?_) (fun q1 => ?_)
 · have hm0 : m = 0 := len_zero q1
   refine wp_seq (rk Rp102_9 [.st 0 0 o3] Fp102_8 Bp102_2 S4 r4 ?_)
   intro _ g5 W5 r5 S5
   exact wp_ret (then_ret (ret_ok S5 [.agg #[.bool false, .slice none 0 0, .int .i64 0]] (by kernel_rfl) (⟨_, rfl, by rw [hm0, sgn_zero]; exact .zero0 _ _ _, r5.first⟩)))
 · have hm0 : m ≠ 0 := fun h => by rw [h] at q1; simp [limbs] at q1
   refine wp_skip ?_
   refine wp_seq (rk Rp102_11 [] Fp102_10 Bp102_2 S4 r4 ?_)
   intro W5 g5 r5 _
   refine (low_n (ht.below r5.first) hm (tb hT r5)).mono ?_
   rintro _ V2 ⟨rfl, k2⟩
   refine ⟨[.int .i64 (tz m : Int)], rfl, rfl, rfl, k2, ?_⟩
   intro _ _ _ r6 S6
   refine wp_seq (rk Rp102_13 [] Fp102_12 Bp102_2 S6 r6 ?_)
   intro _ _ r7 _
   refine (shr_n _ (tz m) rfl (ht.below r7.first) hm (by have := tz_le_bl hm0; omega) (tb hT r7)).mono ?_
   rintro _ V3 ⟨v, rfl, h3, k3⟩
   obtain ⟨A3, n3, c3, rfl⟩ := h3.ex
   replace h3 := h3.lower r7.fs
   refine ⟨[.slice A3 n3 c3, .bool (m % 2 ^ (tz m) != 0)], rfl, rfl, rfl, k3, ?_⟩
   intro _ _ _ r8 S8
   refine wp_seq (rk Rp102_15 [.st 0 0 [vb 0, vs 5, bo .add (vi 2) (vi 4)]] Fp102_14 Bp102_16 S8 r8 ?_)
   intro _ _ _ r9 S9
   exact rt S9 [.agg #[.bool neg, .slice A3 n3 c3, .int .i64 (IntKind.i64.wrap (x + (tz m : Int)))]] (⟨_, rfl, .of_cells (h3.lat (r9.at_ 2 _ rfl)) hm0 (i64_id (by have := tz_le_bl hm0; omega) (by have := tz_le_bl hm0; omega)), r9.first⟩)
def ADy (w : World) (v : Value) (s : Bool) (m : Nat) (x : Int) : Prop := ∃ A n c, v = .agg #[.bool s, .slice A n c, .int .i64 x] ∧ AN w (.slice A n c) m
theorem ADy.below {w w1 : World} {s : Bool} {m : Nat} {x : Int} {v : Value} (h : ADy w v s m x) (hb : BL w w1) : ADy w1 v s m x := by
 obtain ⟨A, n, c, h1, h2⟩ := h; exact ⟨A, n, c, h1, h2.below hb⟩
theorem ADy.n {w : World} {s b : Bool} {m n c : Nat} {x y : Int} {A : Option Addr} (h : ADy w (.agg #[.bool b, .slice A n c, .int .i64 y]) s m x) : AN w (.slice A n c) m := by
 obtain ⟨A', n', c', h1, h2⟩ := h
 obtain ⟨_, e2, _⟩ := agg_inj h1
 obtain ⟨rfl, rfl, rfl⟩ := slice_inj e2
 exact h2
def Fit (m : Nat) (x : Int) : Bool := decide ((limbs m).length ≤ 1024 ∧ -32768 ≤ x ∧ x ≤ 32768)
theorem fit_if {m : Nat} {x : Int} : (if (if decide ((((limbs m).length : Nat) : Int) ≤ 1024) = true then decide (x ≥ -32768) else false) = true then decide (x ≤ 32768) else false) = Fit m x := by
 unfold Fit
 by_cases h1 : (limbs m).length ≤ 1024
 · rw [decide_eq_true (show (((limbs m).length : Nat) : Int) ≤ 1024 by omega), if_pos rfl]
   by_cases h2 : x ≥ -32768
   · rw [decide_eq_true h2, if_pos rfl]
     exact decide_eq_decide.2 ⟨fun h => ⟨h1, by omega, h⟩, fun h => h.2.2⟩
   · rw [decide_eq_false h2, decide_eq_false (p := (limbs m).length ≤ 1024 ∧ -32768 ≤ x ∧ x ≤ 32768) (by omega)]; rfl
 · rw [decide_eq_false (show ¬ (((limbs m).length : Nat) : Int) ≤ 1024 by omega), decide_eq_false (p := (limbs m).length ≤ 1024 ∧ -32768 ≤ x ∧ x ≤ 32768) (by omega)]; rfl
def Fp66_0 := [dg 0, U, U, U, U, U, U, U, U, U]
def Fp66_1 := fs Fp66_0 [(1, ps 0 0), (2, ps 1 0)]
def Bp66_2 := [bb 25 (d3 0), bb 25 o3]
def Rp66_3 : Rg := ⟨2, 3, 0, Fp66_0, Bp66_2, [pa 0 0, pa 1 0], []⟩
def Fp66_4 := fs Fp66_1 [(3, ps 0 0), (4, vb 0), (5, ps 0 1), (6, vs 1), (7, ps 0 2), (8, vi 2), (9, dg 3)]
def Rp66_5 : Rg := ⟨7, 3, 2, Fp66_1, Bp66_2, [pv (ps 0 0) 0, pl (vb 0) 0 0 0, pv (ps 0 1) 0, pl (vs 1) 0 0 1, pv (ps 0 2) 0, pl (vi 2) 0 0 2, pc (dg 3) 0 102 (d3 0) 3], [6]⟩
def Bp66_6 := [bb 25 (d3 0), bb 25 (d3 3)]
theorem one_all {v : Value} {s : Bool} {m : Nat} {x : Int} {w : World} (h : ADy w v s m x) (hm : bl m ≤ 4294967296) (h1 : -1099511627776 ≤ x) (h2 : x ≤ 1099511627776) (hT : TB w) :
 Calls Tryz.prog 66 #[v] w fun en w' => ∃ v', en = .returned v' ∧ PDy w' w.heap.size v' (sgn s m) x ∧ BL w w' := by
 obtain ⟨A0, n0, c0, rfl, h⟩ := h
 have h : ADy w (.agg #[.bool s, .slice A0 n0 c0, .int .i64 x]) s m x := ⟨_, _, _, rfl, h⟩
 refine fn_enter (u := 64) (fn := Tryz.f66) Tryz.func66 rfl Fp66_0 [.bool s, .slice A0 n0 c0, .int .i64 x] (by kernel_rfl) rfl (fun a0 S0 r0 => ?_)
 refine wp_seq (rk Rp66_3 [] Fp66_1 Bp66_2 S0 r0 ?_)
 intro _ _ _ r1 S1
 refine wp_seq (rk Rp66_5 [.st 1 0 (d3 3)] Fp66_4 Bp66_6 S1 r1 ?_)
 intro _ _ r2 _
 refine (form_all s x (h.below r2.first).n hm h1 h2 (tb hT r2)).mono ?_
 rintro _ V1 ⟨v, rfl, h1, k1⟩
 obtain ⟨b1, A1, n1, c1, x1, rfl⟩ := h1.ex
 replace h1 := h1.lower r2.fs
 refine ⟨[.bool b1, .slice A1 n1 c1, .int .i64 x1], rfl, rfl, rfl, k1, ?_⟩
 intro _ _ _ r3 S3
 exact rt S3 [.agg #[.bool b1, .slice A1 n1 c1, .int .i64 x1]] (⟨_, rfl, (h1.lat (r3.at_ 0 _ rfl)), r3.first⟩)
def Fp65_0 := [dg 0, U, U, U, U, U, U, U, U, U, U, U, U, U, U, U, U, U]
def Fp65_1 := fs Fp65_0 [(1, ps 0 0), (2, lb false)]
def Bp65_2 := [bb 25 (d3 0)]
def Rp65_3 : Rg := ⟨2, 3, 0, Fp65_0, Bp65_2, [pa 0 0, pv (lb false) 0], []⟩
def Fp65_4 := fs Fp65_1 [(2, pk (pk (bo .leq (f1 lnF (vs 3)) (li 1024)) (bo .geq (vi 2) (li (-32768))) (lb false)) (bo .leq (vi 2) (li 32768)) (lb false)), (3, ps 0 1), (4, vs 1), (5, vs 3), (6, f1 lnF (vs 3)), (7, bo .leq (f1 lnF (vs 3)) (li 1024)), (8, bo .leq (f1 lnF (vs 3)) (li 1024)), (9, gd true (bo .leq (f1 lnF (vs 3)) (li 1024)) (ps 0 2)), (10, gd true (bo .leq (f1 lnF (vs 3)) (li 1024)) (vi 2)), (11, gd true (bo .leq (f1 lnF (vs 3)) (li 1024)) (bo .geq (vi 2) (li (-32768)))), (12, pk (bo .leq (f1 lnF (vs 3)) (li 1024)) (bo .geq (vi 2) (li (-32768))) (lb false)), (13, pk (bo .leq (f1 lnF (vs 3)) (li 1024)) (bo .geq (vi 2) (li (-32768))) (lb false)), (14, gd true (pk (bo .leq (f1 lnF (vs 3)) (li 1024)) (bo .geq (vi 2) (li (-32768))) (lb false)) (ps 0 2)), (15, gd true (pk (bo .leq (f1 lnF (vs 3)) (li 1024)) (bo .geq (vi 2) (li (-32768))) (lb false)) (vi 2)), (16, gd true (pk (bo .leq (f1 lnF (vs 3)) (li 1024)) (bo .geq (vi 2) (li (-32768))) (lb false)) (bo .leq (vi 2) (li 32768))), (17, pk (pk (bo .leq (f1 lnF (vs 3)) (li 1024)) (bo .geq (vi 2) (li (-32768))) (lb false)) (bo .leq (vi 2) (li 32768)) (lb false))]
def Rp65_5 : Rg := ⟨16, 3, 1, Fp65_1, Bp65_2, [pv (ps 0 1) 0, pl (vs 1) 0 0 1, pc (vs 3) 0 109 [vs 1] 1, pv (f1 lnF (vs 3)) 1, pv (bo .leq (f1 lnF (vs 3)) (li 1024)) 1, pv (bo .leq (f1 lnF (vs 3)) (li 1024)) 1, ⟨ps 0 2, 1, [], .val, gd true (bo .leq (f1 lnF (vs 3)) (li 1024)) (ps 0 2)⟩, ⟨vi 2, 1, [], .ld 0 2, gd true (bo .leq (f1 lnF (vs 3)) (li 1024)) (vi 2)⟩, ⟨bo .geq (vi 2) (li (-32768)), 1, [], .val, gd true (bo .leq (f1 lnF (vs 3)) (li 1024)) (bo .geq (vi 2) (li (-32768)))⟩, ⟨pk (bo .leq (f1 lnF (vs 3)) (li 1024)) (bo .geq (vi 2) (li (-32768))) (lb false), 1, [], .pk, pk (bo .leq (f1 lnF (vs 3)) (li 1024)) (bo .geq (vi 2) (li (-32768))) (lb false)⟩, pv (pk (bo .leq (f1 lnF (vs 3)) (li 1024)) (bo .geq (vi 2) (li (-32768))) (lb false)) 1, ⟨ps 0 2, 1, [], .val, gd true (pk (bo .leq (f1 lnF (vs 3)) (li 1024)) (bo .geq (vi 2) (li (-32768))) (lb false)) (ps 0 2)⟩, ⟨vi 2, 1, [], .ld 0 2, gd true (pk (bo .leq (f1 lnF (vs 3)) (li 1024)) (bo .geq (vi 2) (li (-32768))) (lb false)) (vi 2)⟩, ⟨bo .leq (vi 2) (li 32768), 1, [], .val, gd true (pk (bo .leq (f1 lnF (vs 3)) (li 1024)) (bo .geq (vi 2) (li (-32768))) (lb false)) (bo .leq (vi 2) (li 32768))⟩, ⟨pk (pk (bo .leq (f1 lnF (vs 3)) (li 1024)) (bo .geq (vi 2) (li (-32768))) (lb false)) (bo .leq (vi 2) (li 32768)) (lb false), 1, [], .pk, pk (pk (bo .leq (f1 lnF (vs 3)) (li 1024)) (bo .geq (vi 2) (li (-32768))) (lb false)) (bo .leq (vi 2) (li 32768)) (lb false)⟩, pv (pk (pk (bo .leq (f1 lnF (vs 3)) (li 1024)) (bo .geq (vi 2) (li (-32768))) (lb false)) (bo .leq (vi 2) (li 32768)) (lb false)) 1], [2]⟩
theorem fits_all {v : Value} {s : Bool} {m : Nat} {x : Int} {w : World} (h : ADy w v s m x) :
 Calls Tryz.prog 65 #[v] w fun en w' => en = .returned (.bool (Fit m x)) ∧ BL w w' := by
 obtain ⟨A0, n0, c0, rfl, h⟩ := h
 have h : ADy w (.agg #[.bool s, .slice A0 n0 c0, .int .i64 x]) s m x := ⟨_, _, _, rfl, h⟩
 refine fn_enter (u := 64) (fn := Tryz.f65) Tryz.func65 rfl Fp65_0 [.bool s, .slice A0 n0 c0, .int .i64 x] (by kernel_rfl) rfl (fun a0 S0 r0 => ?_)
 refine wp_seq (rk Rp65_3 [] Fp65_1 Bp65_2 S0 r0 ?_)
 intro _ _ _ r1 S1
 refine wp_seq (rk Rp65_5 [] Fp65_4 Bp65_2 S1 r1 ?_)
 intro _ _ r2 _
 refine (trim_n (h.below r2.first).n).mono ?_
 rintro _ V1 ⟨rfl, k1⟩
 refine ⟨[.slice A0 (limbs m).length (limbs m).length], rfl, rfl, rfl, k1, ?_⟩
 intro _ _ _ r3 S3
 exact rt S3 [.bool (if if decide ((((limbs m).length : Nat) : Int) ≤ 1024) then decide (x ≥ (-32768)) else false then decide (x ≤ 32768) else false)] (⟨by rw [← fit_if]; rfl, r3.first⟩)
theorem CDy.any {w : World} {v : Value} {z e : Int} (h : CDy w v z e) : ADy w v (cneg z) (cman z) (cexp z e) := by
 obtain ⟨A, n, c, rfl, h1, h2, h3⟩ := h
 exact ⟨A, n, c, rfl, A, n, c, _, rfl, h1, h2, h3, wf_limbs _, nv_limbs _⟩
theorem fits_z {v : Value} {z e : Int} {w : World} (h : CDy w v z e) :
 Calls Tryz.prog 65 #[v] w fun en w' => en = .returned (.bool (Fit (cman z) (cexp z e))) ∧ BL w w' := fits_all h.any
def FitQ (q : Rat) : Prop := ∃ z e, q = Dv z e ∧ Fit (cman z) (cexp z e) = true
theorem same_form {z e y f : Int} (h : Dv z e = Dv y f) : cman z = cman y ∧ cexp z e = cexp y f ∧ cneg z = cneg y := by
 obtain ⟨g, i, j, rfl, rfl, _⟩ := Dv_common e f
 rw [← Dv_shift, ← Dv_shift] at h
 have h2 := Dv_inj h
 have a1 := cman_mul z i; have a2 := cexp_mul z g i; have a3 := cneg_mul z i
 rw [h2, cman_mul] at a1; rw [h2, cexp_mul] at a2; rw [h2, cneg_mul] at a3
 exact ⟨a1.symm, a2.symm, a3.symm⟩
theorem fitq_iff {z e : Int} : FitQ (Dv z e) ↔ Fit (cman z) (cexp z e) = true := by
 constructor
 · rintro ⟨y, f, h, hf⟩
   obtain ⟨h1, h2, _⟩ := same_form h
   rw [h1, h2]; exact hf
 · intro h; exact ⟨z, e, rfl, h⟩
theorem fits_q {v : Value} {q : Rat} {N : Nat} {w : World} (h : CQ w v q N) :
 Calls Tryz.prog 65 #[v] w fun en w' => ∃ r : Bool, en = .returned (.bool r) ∧ (r = true ↔ FitQ q) ∧ BL w w' := by
 obtain ⟨z, e, h, rfl, hB⟩ := h
 refine (fits_z h).mono ?_
 rintro en w' ⟨rfl, hb⟩
 exact ⟨_, rfl, fitq_iff.symm, hb⟩
theorem cmpQ_le {a b : Rat} : decide (cmpQ a b ≤ 0) = decide (a ≤ b) := by
 unfold cmpQ
 by_cases h : a < b
 · rw [if_pos h, decide_eq_true (Rat.le_of_lt h)]; rfl
 · rw [if_neg h]
   by_cases h' : b < a
   · rw [if_pos h', decide_eq_false (p := a ≤ b) (Rat.not_le.2 h')]; rfl
   · rw [if_neg h', decide_eq_true (Rat.not_lt.1 h')]; rfl
def Fq48_0 := [ig 0, U, U, U, U, U, U, U, U, U, U, U, U, U, U, U, U, U, U]
def Fq48_1 := fs Fq48_0 [(1, ps 0 0), (2, lb false)]
def Bq48_2 := [bb 28 (i6 0)]
def Rq48_3 : Rg := ⟨2, 6, 0, Fq48_0, Bq48_2, [pa 0 0, pv (lb false) 0], []⟩
def Fq48_4 := fs Fq48_1 [(2, pk (pk (vb 6) (vb 7) (lb false)) (bo .leq (vi 8) (li 0)) (lb false)), (3, ps 0 0), (4, dg 0), (5, vb 6), (6, vb 6), (7, gd true (vb 6) (ps 0 3)), (8, gd true (vb 6) (dg 3)), (9, gd true (vb 6) (vb 7)), (10, pk (vb 6) (vb 7) (lb false)), (11, pk (vb 6) (vb 7) (lb false)), (12, gd true (pk (vb 6) (vb 7) (lb false)) (ps 0 0)), (13, gd true (pk (vb 6) (vb 7) (lb false)) (dg 0)), (14, gd true (pk (vb 6) (vb 7) (lb false)) (ps 0 3)), (15, gd true (pk (vb 6) (vb 7) (lb false)) (dg 3)), (16, gd true (pk (vb 6) (vb 7) (lb false)) (vi 8)), (17, gd true (pk (vb 6) (vb 7) (lb false)) (bo .leq (vi 8) (li 0))), (18, pk (pk (vb 6) (vb 7) (lb false)) (bo .leq (vi 8) (li 0)) (lb false))]
def Rq48_5 : Rg := ⟨17, 6, 1, Fq48_1, Bq48_2, [pv (ps 0 0) 0, pl (dg 0) 0 0 0, pc (vb 6) 0 65 [dg 0] 1, pv (vb 6) 1, ⟨ps 0 3, 1, [], .val, gd true (vb 6) (ps 0 3)⟩, ⟨dg 3, 1, [], .ld 0 3, gd true (vb 6) (dg 3)⟩, ⟨vb 7, 1, [], .cl 1 65 [dg 3] 1 [], gd true (vb 6) (vb 7)⟩, ⟨pk (vb 6) (vb 7) (lb false), 2, [], .pk, pk (vb 6) (vb 7) (lb false)⟩, pv (pk (vb 6) (vb 7) (lb false)) 2, ⟨ps 0 0, 2, [], .val, gd true (pk (vb 6) (vb 7) (lb false)) (ps 0 0)⟩, ⟨dg 0, 2, [], .ld 0 0, gd true (pk (vb 6) (vb 7) (lb false)) (dg 0)⟩, ⟨ps 0 3, 2, [], .val, gd true (pk (vb 6) (vb 7) (lb false)) (ps 0 3)⟩, ⟨dg 3, 2, [], .ld 0 3, gd true (pk (vb 6) (vb 7) (lb false)) (dg 3)⟩, ⟨vi 8, 2, [], .cl 2 67 [dg 0, dg 3] 1 [], gd true (pk (vb 6) (vb 7) (lb false)) (vi 8)⟩, ⟨bo .leq (vi 8) (li 0), 3, [], .val, gd true (pk (vb 6) (vb 7) (lb false)) (bo .leq (vi 8) (li 0))⟩, ⟨pk (pk (vb 6) (vb 7) (lb false)) (bo .leq (vi 8) (li 0)) (lb false), 3, [], .pk, pk (pk (vb 6) (vb 7) (lb false)) (bo .leq (vi 8) (li 0)) (lb false)⟩, pv (pk (pk (vb 6) (vb 7) (lb false)) (bo .leq (vi 8) (li 0)) (lb false)) 3], [2, 6, 13]⟩
theorem right_q {v : Value} {a b : Rat} {N : Nat} {w : World} (h : CI w v a b N) (hN : N ≤ 33554432) (hT : TB w) :
 Calls Tryz.prog 48 #[v] w fun en w' => ∃ r : Bool, en = .returned (.bool r) ∧ (r = true ↔ FitQ a ∧ FitQ b ∧ a ≤ b) ∧ BL w w' := by
 obtain ⟨b0, A0, n0, c0, x0, d0, B0, m0, e0, y0, rfl⟩ := h.ex
 refine fn_enter (u := 64) (fn := Tryz.f48) Tryz.func48 rfl Fq48_0 [.bool b0, .slice A0 n0 c0, .int .i64 x0, .bool d0, .slice B0 m0 e0, .int .i64 y0] (by kernel_rfl) rfl (fun a0 S0 r0 => ?_)
 refine wp_seq (rk Rq48_3 [] Fq48_1 Bq48_2 S0 r0 ?_)
 intro _ _ _ r1 S1
 refine wp_seq (rk Rq48_5 [] Fq48_4 Bq48_2 S1 r1 ?_)
 intro _ _ r2 _
 refine (fits_q (h.below r2.first).lo).mono ?_
 rintro _ V1 ⟨ra, rfl, hra, k1⟩
 refine ⟨[.bool ra], rfl, rfl, rfl, k1, ?_⟩
 refine ⟨fun c3 => ?_, fun c3 => ?_⟩
 · replace c3 := yv (b := ra) c3
   intro _ _ r4 _
   refine (fits_q (h.below r4.first).hi).mono ?_
   rintro _ V2 ⟨rb, rfl, hrb, k2⟩
   refine ⟨[.bool rb], rfl, rfl, rfl, k2, ?_⟩
   refine ⟨fun c5 => ?_, fun c5 => ?_⟩
   · replace c5 := yv (b := if ra then rb else false) c5
     intro W6 g6 r6 _
     refine (cmp_q (h.below r6.first).lo (h.below r6.first).hi (by omega) (tb hT r6)).mono ?_
     rintro _ V3 ⟨rfl, k3⟩
     refine ⟨[.int .i64 (cmpQ a b)], rfl, rfl, rfl, k3, ?_⟩
     intro _ _ _ r7 S7
     exact rt S7 [.bool (if if ra then rb else false then decide ((cmpQ a b) ≤ 0) else false)] (⟨_, rfl, by rw [c5, if_pos rfl, cmpQ_le]; exact ⟨fun h => ⟨hra.1 c3, hrb.1 (by rw [c3, if_pos rfl] at c5; exact c5), of_decide_eq_true h⟩, fun h => decide_eq_true h.2.2⟩, r7.first⟩)
   · replace c5 := yn (b := if ra then rb else false) c5
     intro _ g6 W6 r6 S6
     exact rt S6 [.bool (if if ra then rb else false then decide (0 ≤ 0) else false)] (⟨_, rfl, by rw [c5, if_neg (by decide)]; exact ⟨fun h => absurd h (by decide), fun h => by rw [c3, if_pos rfl, hrb.2 h.2.1] at c5; cases c5⟩, r6.first⟩)
 · replace c3 := yn (b := ra) c3
   refine ⟨fun c4 => ?_, fun c4 => ?_⟩
   · replace c4 := yv (b := if ra then false else false) c4
     rw [c3, if_neg (by decide)] at c4; cases c4
   · replace c4 := yn (b := if ra then false else false) c4
     intro _ _ _ r5 S5
     exact rt S5 [.bool (if if ra then false else false then decide (0 ≤ 0) else false)] (⟨_, rfl, by rw [c3]; exact ⟨fun h => absurd h (by decide), fun h => by rw [hra.2 h.1] at c3; cases c3⟩, r5.first⟩)
theorem top_ab {v : Value} {q : Rat} {N : Nat} {w : World} (h : CQ w v q N) (h0 : q ≠ 0) (hN : N ≤ 67108864) :
 Calls Tryz.prog 80 #[v] w fun en w' => ∃ T : Int, en = .returned (.int .i64 T) ∧ (2 : Rat) ^ T ≤ ab q ∧ ab q < (2 : Rat) ^ (T + 1) ∧ -67108865 ≤ T ∧ T ≤ 268435456 ∧ BL w w' := by
 obtain ⟨z, e, h, rfl, hB⟩ := h
 have l := bd_len hB; have lo := bd_lo hB; have hi := bd_hi hB
 have hbl : bl (cman z) ≤ N := bl_le_iff.2 (bd_man hB)
 have hz : z ≠ 0 := fun hz => h0 (by rw [hz, Dv_zero])
 obtain ⟨h1, h2⟩ := top_pure (z := (z.natAbs : Int)) (e := e) (by omega)
 rw [cman_abs, cexp_abs] at h1 h2
 refine (ptop_dy v z e w h (by omega) (by omega) (by omega)).mono ?_
 rintro en w' ⟨rfl, hb⟩
 rw [ab_Dv]
 exact ⟨_, rfl, h1, h2, by omega, by omega, hb⟩
structure Le1 (k : Nat) (t l u : Rat) : Prop where
 encl : ∃ a b, Exs a b t ∧ l ≤ a - 1 ∧ b - 1 ≤ u
 pos : 0 < t → Nar l u (ep k)
 neg : t < 0 → Nar (-u) (-l) (ep k)
theorem ep_six {a b k : Nat} (ha : k + 3 ≤ a) (hb : k + 3 ≤ b) : ep a + 5 * ep b ≤ ep k := by
 have h1 := ep_le ha
 have h2 := ep_le hb
 have h3 := eight_ep k
 have h4 := ep_pos (k + 3)
 generalize ep a = A at *
 generalize ep b = B at *
 generalize ep (k + 3) = C at *
 generalize ep k = D at *
 grind
theorem ep_three {a b k : Nat} (ha : k + 3 ≤ a) (hb : k + 3 ≤ b) : ep a + 2 * ep b ≤ ep k := by
 have h1 := ep_six ha hb
 have h2 := ep_pos b
 generalize ep a = A at *
 generalize ep b = B at *
 generalize ep k = D at *
 grind
theorem ep_1024 (p : Nat) : 1024 * ep (p + 10) = ep p := by
 have := ep_add p 10
 rw [show ((2 ^ 10 : Nat) : Rat) = 1024 by decide +kernel] at this
 exact this
theorem ep8 {p : Nat} (h : 4 ≤ p) : 8 * ep p ≤ 1 := by
 have h1 := eight_ep (p - 3)
 rw [show p - 3 + 3 = p by omega] at h1
 rw [h1]; exact ep_small (by omega)
theorem le1_big {p : Nat} {t l0 u0 l u : Rat} (n : Enc l0 u0 t (ep (p + 73))) (ht : 1 ≤ 256 * ab t) (hl : CutOf false (l0 + -1) l (ep (p + 40))) (hu : CutOf true (u0 + -1) u (ep (p + 40))) : Le1 (p + 30) t l u := by
 have e1 : 1024 * ep (p + 73) = ep (p + 63) := by have := ep_1024 (p + 63); rwa [show p + 63 + 10 = p + 73 by omega] at this
 have e2 : 1024 * ep (p + 73) ≤ 1 := by rw [e1]; exact ep_small (by omega)
 have c1 : l ≤ l0 - 1 := by have := hl.le; grind
 have c2 : u0 - 1 ≤ u := by have := hu.ge; grind
 refine ⟨⟨l0, u0, n.1, c1, c2⟩, fun hp => ?_, fun hn => ?_⟩
 · rw [ab_pos (Rat.le_of_lt hp)] at ht
   have m := n.less_pos ht (Rat.le_of_lt (ep_pos _)) e2
   rw [e1] at m
   have d1 := hl.1 (by have := m.1; grind)
   have d2 := hu.1 (by have := m.1; have := n.1.2.1; grind)
   refine (Nar.cut (lo := l0 - 1) (hi := u0 - 1) m (by rw [show l0 - 1 = l0 + -1 by grind]; exact d1) (by rw [show u0 - 1 = u0 + -1 by grind]; exact d2) (Rat.le_of_lt (ep_pos _)) (ep_small (by omega)) (Rat.le_of_lt (ep_pos _)) (ep8 (by omega))).more (ep_six (by omega) (by omega))
 · rw [ab_neg (Rat.le_of_lt hn)] at ht
   have m := n.less_neg (by grind) (Rat.le_of_lt (ep_pos _)) e2
   rw [e1] at m
   have d1 := hl.2 (by have := m.1; have := n.1.2.1; grind)
   have d2 := hu.2 (by have := m.1; grind)
   refine (Nar.cut (lo := 1 - u0) (hi := 1 - l0) m (by rw [show 1 - u0 = -(u0 + -1) by grind]; exact d2) (by rw [show 1 - l0 = -(l0 + -1) by grind]; exact d1) (Rat.le_of_lt (ep_pos _)) (ep_small (by omega)) (Rat.le_of_lt (ep_pos _)) (ep8 (by omega))).more (ep_six (by omega) (by omega))
structure Lsm (p : Nat) (a l u : Rat) : Prop where
 ex : ∃ lo hi, Ex (1 + a * lo) (1 + a * hi) a ∧ 1 ≤ lo ∧ l ≤ a * lo ∧ a * hi ≤ u ∧ a * hi < 1 ∧ lo ≤ hi
 nar : Nar l u (ep (p + 46))
 le : l ≤ u
theorem four_pt {a lo hi x y : Rat} (ha : 0 < a) (h : lo ≤ hi) (f : Four (mul4 a a lo hi) x y) : x = a * lo ∧ y = a * hi := by
 obtain ⟨i, j, hi', hj, hq, rfl, rfl⟩ := f
 have e := Rat.mul_le_mul_of_nonneg_left h (Rat.le_of_lt ha)
 have lo' : ∀ k, a * lo ≤ mul4 a a lo hi k ∧ mul4 a a lo hi k ≤ a * hi := fun k => by
  unfold mul4; split
  · exact ⟨Rat.le_refl, e⟩
  · exact ⟨e, Rat.le_refl⟩
  · exact ⟨Rat.le_refl, e⟩
  · exact ⟨e, Rat.le_refl⟩
 exact ⟨Rat.le_antisymm (hq 0 (by decide)).1 (lo' i).1, Rat.le_antisymm (lo' j).2 (hq 3 (by decide)).2⟩
theorem lsm_of {p : Nat} {a lo hi l u : Rat} (ha : 0 < a) (ha2 : 256 * a ≤ 1) (s : Sml 1 (p + 64) a lo hi) (h : ∃ x y, Four (mul4 a a lo hi) x y ∧ CutOf false x l (ep (p + 64)) ∧ CutOf true y u (ep (p + 64))) : Lsm p a l u := by
 obtain ⟨x, y, f, c1, c2⟩ := h
 obtain ⟨rfl, rfl⟩ := four_pt ha s.le f
 have hn : Nar lo hi (ep (p + 50)) := by
  have h1 := s.nar
  rw [show p + 64 - 14 = p + 50 by omega] at h1
  have h2 := Rat.mul_le_mul_of_nonneg_right s.one (Rat.le_of_lt (ep_pos (p + 50)))
  exact ⟨by have := s.one; grind, by grind⟩
 have hs := hn.scale ha
 have l0 := hs.1
 have hle := Rat.mul_le_mul_of_nonneg_left s.le (Rat.le_of_lt ha)
 have d1 := c1.1 (Rat.le_of_lt l0)
 have d2 := c2.1 (Rat.le_trans (Rat.le_of_lt l0) hle)
 have hnar := (Nar.cut hs d1 d2 (Rat.le_of_lt (ep_pos _)) (ep_small (by omega)) (Rat.le_of_lt (ep_pos _)) (ep8 (by omega))).more (d' := ep (p + 46)) (ep_six (by omega) (by omega))
 refine ⟨⟨lo, hi, Ex.less (Rat.le_of_lt ha) s.encl, s.one, d1.1, d2.1, ?_, s.le⟩, hnar, Rat.le_trans d1.1 (Rat.le_trans hle d2.1)⟩
 have h3 : hi ≤ 3 := by
  have h1 := s.nar; have := s.two
  have := ep_small (p := p + 64 - 14) (by omega)
  grind
 have h4 := Rat.mul_le_mul_of_nonneg_left h3 (Rat.le_of_lt ha)
 grind
theorem le1_small {p : Nat} {a l u : Rat} (ha : 0 < a) (s : Lsm p a l u) : Le1 (p + 30) a l u := by
 obtain ⟨⟨lo, hi, h1, h2, h3, h4, h5, h6⟩, hn, _⟩ := s
 have hlo := Rat.mul_le_mul_of_nonneg_left h6 (Rat.le_of_lt ha)
 have hp : 0 ≤ a * lo := Rat.mul_nonneg (Rat.le_of_lt ha) (by grind)
 exact ⟨⟨1 + a * lo, 1 + a * hi, ⟨by grind, by grind, .inl ⟨Rat.le_of_lt ha, h1⟩⟩, by grind, by grind⟩, fun _ => hn.more (ep_le (by omega)), fun h => absurd h (by grind)⟩
theorem le1_neg {p : Nat} {a l u e1 e2 l3 u3 : Rat} (ha : 0 < a) (s : Lsm p a l u) (b : Ab (p + 50) a e1 e2) (c1 : CutOf false (l * e2⁻¹) l3 (ep (p + 64))) (c2 : CutOf true (u * e1⁻¹) u3 (ep (p + 64))) : Le1 (p + 30) (-a) (-u3) (-l3) := by
 obtain ⟨⟨lo, hi, h1, h2, h3, h4, h5, h6⟩, hn, hlu⟩ := s
 obtain ⟨m, hm1, hm2, hm3⟩ : ∃ m, 1 ≤ m ∧ e1 ≤ m ∧ Ex m e2 a := by
  by_cases h : e1 ≤ 1
  · refine ⟨1, Rat.le_refl, h, ?_⟩
    obtain ⟨n0, hn0⟩ := b.ex
    refine ⟨n0 + 1, fun n hn' => ⟨?_, (hn0 n (by omega)).2⟩⟩
    obtain ⟨n', rfl⟩ : ∃ n', n = n' + 1 := ⟨n - 1, by omega⟩
    exact sm_one (Rat.le_of_lt ha) n'
  · exact ⟨e1, by grind, Rat.le_refl, b.ex⟩
 have lo0 : 0 < a * lo := Rat.mul_pos ha (by grind)
 have p1 := b.nar.1
 have p2 : 0 < e2 := by have := b.le; grind
 have q := Exs.of_quot (Rat.le_of_lt ha) h1 hm3 lo0 hm1 (by grind)
 have i1 : m⁻¹ ≤ e1⁻¹ := inv_le p1 hm2
 have i0 : 0 < m⁻¹ := Rat.inv_pos.2 (by grind)
 have j0 : 0 < e2⁻¹ := Rat.inv_pos.2 p2
 have k1 : a * hi * m⁻¹ ≤ u * e1⁻¹ := mul_le h4 i1 (by have := Rat.mul_le_mul_of_nonneg_left h6 (Rat.le_of_lt ha); grind) (by have := Rat.inv_pos.2 p1; grind)
 have k2 : l * e2⁻¹ ≤ a * lo * e2⁻¹ := Rat.mul_le_mul_of_nonneg_right h3 (Rat.le_of_lt j0)
 refine ⟨⟨_, _, q, by have := c2.ge; grind, by have := c1.le; grind⟩, fun h => absurd h (by grind), fun _ => ?_⟩
 rw [Rat.neg_neg, Rat.neg_neg]
 have n1 := hn.over b.nar b.le (Rat.le_trans (Rat.le_of_lt hn.1) hlu) (Rat.le_of_lt (ep_pos _)) (ep_small (by omega)) (Rat.le_of_lt (ep_pos _))
 have n2 := n1.more (d' := ep (p + 40)) (ep_three (by omega) (by omega))
 have d1 := c1.1 (Rat.le_of_lt n2.1)
 have d2 := c2.1 (by have := Rat.inv_pos.2 p1; exact Rat.mul_nonneg (Rat.le_trans (Rat.le_of_lt hn.1) hlu) (Rat.le_of_lt this))
 exact (Nar.cut n2 d1 d2 (Rat.le_of_lt (ep_pos _)) (ep_small (by omega)) (Rat.le_of_lt (ep_pos _)) (ep8 (by omega))).more (ep_six (by omega) (by omega))
theorem bd_zero (N : Nat) : Bd N 0 0 := ⟨Nat.two_pow_pos N, by omega, by omega⟩
theorem top_big {a : Rat} {T : Int} (h : (2 : Rat) ^ T ≤ a) (hT : T ≥ -8) : 1 ≤ 256 * a := by
 have h1 := pw_mono (a := -8) (b := T) (by omega)
 have e8 : (256 : Rat) * (2 : Rat) ^ (-8 : Int) = 1 := by decide +kernel
 have := Rat.mul_le_mul_of_nonneg_left (Rat.le_trans h1 h) (show (0 : Rat) ≤ 256 by decide +kernel)
 rw [e8] at this; exact this
theorem top_small {a : Rat} {T : Int} (h : a < (2 : Rat) ^ (T + 1)) (hT : T < -8) : 256 * a ≤ 1 := by
 have h1 := pw_mono (a := T + 1) (b := -8) (by omega)
 have e8 : (256 : Rat) * (2 : Rat) ^ (-8 : Int) = 1 := by decide +kernel
 have := Rat.mul_le_mul_of_nonneg_left (Rat.le_trans (Rat.le_of_lt h) h1) (show (0 : Rat) ≤ 256 by decide +kernel)
 rw [e8] at this; exact this
theorem ab_ne {t : Rat} (h : t ≠ 0) : 0 < ab t := by unfold ab; split <;> grind
def Fs39_0 := [dg 0, vi 3, U, U, U, U, U, U, U, U, U, U, U, U, U, U, U, U, U, U, U, U, U, U, U, U, U, U, U, U, U, U, U, U, U, U, U, U, U, U, U, U, U, U, U]
def Fs39_1 := fs Fs39_0 [(2, ps 0 0), (4, ps 1 0)]
def Bs39_2 := [bb 25 (d3 0), bb 28 o6]
def Rs39_3 : Rg := ⟨2, 4, 0, Fs39_0, Bs39_2, [pa 0 0, pa 1 0], []⟩
def Fs39_4 := fs Fs39_1 [(7, vb 4), (8, dg 0), (9, vb 4)]
def Rs39_5 : Rg := ⟨3, 4, 2, Fs39_1, Bs39_2, [pl (dg 0) 0 0 0, pc (vb 4) 0 79 [dg 0] 1, pv (vb 4) 1], [1]⟩
def Fs39_6 := fs Fs39_4 [(10, ag o6)]
def Rs39_7 : Rg := ⟨1, 5, 2, Fs39_4, Bs39_2, [pv (ag o6) 0], []⟩
def Fs39_8 := fs Fs39_4 [(11, bo .geq (vi 5) (li (-8))), (12, dg 0), (13, vi 5), (14, bo .geq (vi 5) (li (-8)))]
def Rs39_9 : Rg := ⟨4, 5, 2, Fs39_4, Bs39_2, [pl (dg 0) 0 0 0, pc (vi 5) 0 80 [dg 0] 1, pv (bo .geq (vi 5) (li (-8))) 1, pv (bo .geq (vi 5) (li (-8))) 1], [1]⟩
def Fs39_10 := fs Fs39_8 [(15, dg 0), (16, vi 3), (17, bo .add (vi 3) (li 24)), (18, ig 6), (19, ig 12), (20, vi 3), (21, bo .add (vi 3) (li 40)), (22, ig 18)]
def Rs39_11 : Rg := ⟨8, 6, 2, Fs39_8, Bs39_2, [pl (dg 0) 0 0 0, pv (vi 3) 0, pv (bo .add (vi 3) (li 24)) 0, pc (ig 6) 0 33 [dg 0, bo .add (vi 3) (li 24)] 6, pc (ig 12) 1 73 [] 6, pv (vi 3) 0, pv (bo .add (vi 3) (li 40)) 0, pc (ig 18) 2 81 [ig 6, ig 12, bo .add (vi 3) (li 40)] 6], [3, 4, 7]⟩
def Bs39_12 := [bb 25 (d3 0), bb 28 (i6 18)]
def Fs39_13 := fs Fs39_8 [(5, bo .add (vi 3) (li 64)), (23, vi 3), (24, bo .add (vi 3) (li 64))]
def Rs39_14 : Rg := ⟨3, 6, 2, Fs39_8, Bs39_2, [pv (vi 3) 0, pv (bo .add (vi 3) (li 64)) 0, pv (bo .add (vi 3) (li 64)) 0], []⟩
def Fs39_15 := fs Fs39_13 [(6, ps 2 0), (25, dg 0), (26, dg 6), (27, ig 9), (28, dg 0), (29, dg 15), (30, bo .add (vi 3) (li 64)), (31, ig 18), (32, bo .add (vi 3) (li 64)), (33, ig 24)]
def Bs39_16 := [bb 25 (d3 0), bb 28 o6, bb 28 o6]
def Rs39_17 : Rg := ⟨10, 6, 2, Fs39_13, Bs39_16, [pl (dg 0) 0 0 0, pc (dg 6) 0 68 [dg 0] 3, pc (ig 9) 1 83 [dg 6] 6, pl (dg 0) 0 0 0, pc (dg 15) 2 68 [dg 0] 3, pv (bo .add (vi 3) (li 64)) 0, pc (ig 18) 3 84 [dg 15, bo .add (vi 3) (li 64), li 1] 6, pv (bo .add (vi 3) (li 64)) 0, pc (ig 24) 4 82 [ig 9, ig 18, bo .add (vi 3) (li 64)] 6, pa 2 0], [1, 2, 4, 6, 8]⟩
def Bs39_18 := [bb 25 (d3 0), bb 28 o6, bb 28 (i6 24)]
def Fs39_19 := fs Fs39_15 [(34, ps 0 0), (35, vb 0)]
def Rs39_20 : Rg := ⟨2, 30, 3, Fs39_15, Bs39_18, [pv (ps 0 0) 0, pl (vb 0) 0 0 0], []⟩
def Fs39_21 := fs Fs39_19 [(36, ig 24), (37, dg 0), (38, dg 30), (39, vi 3), (40, ig 33), (41, bo .add (vi 3) (li 64)), (42, ig 39), (43, ig 45)]
def Rs39_22 : Rg := ⟨8, 30, 3, Fs39_19, Bs39_18, [pl (ig 24) 0 2 0, pl (dg 0) 0 0 0, pc (dg 30) 0 68 [dg 0] 3, pv (vi 3) 0, pc (ig 33) 1 71 [dg 30, vi 3] 6, pv (bo .add (vi 3) (li 64)) 0, pc (ig 39) 2 72 [ig 24, ig 33, bo .add (vi 3) (li 64)] 6, pc (ig 45) 3 85 [ig 39] 6], [2, 4, 6, 7]⟩
def Bs39_23 := [bb 25 (d3 0), bb 28 (i6 45), bb 28 (i6 24)]
def Fs39_24 := fs Fs39_19 [(44, ig 24)]
def Rs39_25 : Rg := ⟨1, 30, 3, Fs39_19, Bs39_18, [pl (ig 24) 0 2 0], []⟩
def Bs39_26 := [bb 25 (d3 0), bb 28 (i6 24), bb 28 (i6 24)]
theorem eless_q {v : Value} {t : Rat} {N p : Nat} {w : World} (h : CQ w v t N) (ht : -16384 ≤ t) (ht2 : t ≤ 16384) (hN : N ≤ 131072) (hp : 8 ≤ p) (hp2 : p ≤ 4900) (hT : TB w) :
 Calls Tryz.prog 39 #[v, .int .i64 (p : Int)] w fun en w' => ∃ v' l u, en = .returned v' ∧ PI w' w.heap.size v' l u 1000000 ∧ ((t = 0 ∧ l = 0 ∧ u = 0) ∨ (t ≠ 0 ∧ Le1 (p + 30) t l u)) ∧ BL w w' := by
 obtain ⟨z, e, hz, rfl, hB⟩ := h
 have h : CQ w v (Dv z e) N := ⟨z, e, hz, rfl, hB⟩
 obtain ⟨t, et⟩ : ∃ t, t = Dv z e := ⟨_, rfl⟩
 rw [← et] at ht ht2 h ⊢
 obtain ⟨b0, A0, n0, c0, x0, rfl⟩ := h.ex
 have hb0 := (CDy.cells hz).1
 have hw24 : IntKind.i64.wrap ((p : Int) + 24) = ((p + 24 : Nat) : Int) := i64_id (by omega) (by omega)
 have hw40 : IntKind.i64.wrap ((p : Int) + 40) = ((p + 40 : Nat) : Int) := i64_id (by omega) (by omega)
 have hw64 : IntKind.i64.wrap ((p : Int) + 64) = ((p + 64 : Nat) : Int) := i64_id (by omega) (by omega)
 refine fn_enter (u := 64) (fn := Tryz.f39) Tryz.func39 rfl Fs39_0 [.bool b0, .slice A0 n0 c0, .int .i64 x0, .int .i64 (p : Int)] (by kernel_rfl) rfl (fun a0 S0 r0 => ?_)
 refine wp_seq (rk Rs39_3 [] Fs39_1 Bs39_2 S0 r0 ?_)
 intro _ _ _ r1 S1
 refine wp_seq ?_
 refine wp_block ?_
 refine wp_seq (rk Rs39_5 [] Fs39_4 Bs39_2 S1 r1 ?_)
 intro _ _ r2 _
 refine (zero_q (h.below r2.first) (by omega)).mono ?_
 rintro _ V1 ⟨rfl, k1⟩
 refine ⟨[.bool (decide (t = 0))], rfl, rfl, rfl, k1, ?_⟩
 intro _ _ _ r3 S3
 refine wp_cond_split (t := (decide (t = 0))) (S3.cnd (by kernel_rfl)) (fun q1 => ?_) (fun q1 => ?_)
 · have h0 : t = 0 := of_decide_eq_true q1
   refine wp_seq (rk Rs39_7 [.st 1 0 o6] Fs39_6 Bs39_2 S3 r3 ?_)
   intro _ g4 W4 r4 S4
   exact wp_ret (blk_ret (then_ret (ret_ok S4 [.agg #[.bool false, .slice none 0 0, .int .i64 0, .bool false, .slice none 0 0, .int .i64 0]] (by kernel_rfl) (⟨_, _, _, rfl, .mk ⟨0, 0, .zero0 _ _ _, (Dv_zero 0).symm, bd_zero _⟩ ⟨0, 0, .zero0 _ _ _, (Dv_zero 0).symm, bd_zero _⟩, .inl ⟨h0, rfl, rfl⟩, r4.first⟩))))
 · have h0 : t ≠ 0 := of_decide_eq_false q1
   refine wp_seq (rk Rs39_9 [] Fs39_8 Bs39_2 S3 r3 ?_)
   intro W4 g4 r4 _
   refine (top_ab (h.below r4.first) h0 (by omega)).mono ?_
   rintro _ V2 ⟨T, rfl, t1, t2, t3, t4, k2⟩
   refine ⟨[.int .i64 T], rfl, rfl, rfl, k2, ?_⟩
   intro _ _ _ r5 S5
   refine wp_cond_split (t := decide (T ≥ (-8))) (S5.cnd (by kernel_rfl)) (fun q2 => ?_) (fun q2 => ?_)
   · have hbig := top_big t1 (of_decide_eq_true q2)
     refine wp_seq (rk Rs39_11 [.st 1 0 (i6 18)] Fs39_10 Bs39_12 S5 r5 ?_)
     intro W6 g6 r6 _
     show Calls Tryz.prog 33 #[.agg #[.bool b0, .slice A0 n0 c0, .int .i64 x0], .int .i64 (IntKind.i64.wrap ((p : Int) + 24))] W6 _
     rw [hw24]
     refine (power_q (p := p + 24) (h.below r6.first) ht ht2 (by omega) (by omega) (by omega) (tb hT r6)).mono ?_
     rintro _ V3 ⟨v, l, u, rfl, h3, f3, k3⟩
     obtain ⟨b3, A3, n3, c3, x3, d3, B3, m3, e3, y3, rfl⟩ := h3.ex
     replace h3 := h3.lower r6.fs
     refine ⟨[.bool b3, .slice A3 n3 c3, .int .i64 x3, .bool d3, .slice B3 m3 e3, .int .i64 y3], rfl, rfl, rfl, k3, ?_⟩
     intro W7 g7 r7 _
     refine (eone_q _ (tb hT r7)).mono ?_
     rintro _ V4 ⟨v, rfl, h4, k4⟩
     obtain ⟨b4, A4, n4, c4, x4, d4, B4, m4, e4, y4, rfl⟩ := h4.ex
     replace h4 := h4.lower r7.fs
     refine ⟨[.bool b4, .slice A4 n4 c4, .int .i64 x4, .bool d4, .slice B4 m4 e4, .int .i64 y4], rfl, rfl, rfl, k4, ?_⟩
     intro W8 g8 r8 _
     show Calls Tryz.prog 81 #[.agg #[.bool b3, .slice A3 n3 c3, .int .i64 x3, .bool d3, .slice B3 m3 e3, .int .i64 y3], .agg #[.bool b4, .slice A4 n4 c4, .int .i64 x4, .bool d4, .slice B4 m4 e4, .int .i64 y4], .int .i64 (IntKind.i64.wrap ((p : Int) + 40))] W8 _
     rw [hw40]
     refine (less_q (p := p + 40) (h3.lat (r8.at_ 2 _ rfl)).c (h4.lat (r8.at_ 3 _ rfl)).c (by decide) (by omega) (by omega) (tb hT r8)).mono ?_
     rintro _ V5 ⟨v, l', u', rfl, h5, d1, d2, s1, s2, k5⟩
     obtain ⟨b5, A5, n5, c5, x5, d5, B5, m5, e5, y5, rfl⟩ := h5.ex
     replace h5 := h5.lower r8.fs
     refine ⟨[.bool b5, .slice A5 n5 c5, .int .i64 x5, .bool d5, .slice B5 m5 e5, .int .i64 y5], rfl, rfl, rfl, k5, ?_⟩
     intro _ g9 W9 r9 S9
     exact wp_ret (blk_ret (then_ret (ret_ok S9 [.agg #[.bool b5, .slice A5 n5 c5, .int .i64 x5, .bool d5, .slice B5 m5 e5, .int .i64 y5]] (by kernel_rfl) (⟨_, _, _, rfl, (h5.lat (r9.at_ 4 _ rfl)).more (by omega), .inr ⟨h0, le1_big (by rw [show p + 73 = p + 24 + 49 by omega]; exact f3) hbig d1 d2⟩, r9.first⟩))))
   · have ha2 := top_small t2 (by have := of_decide_eq_false q2; omega)
     have hap : 0 < ab t := ab_ne h0
     refine wp_skip ?_
     refine wp_seq (rk Rs39_14 [] Fs39_13 Bs39_2 S5 r5 ?_)
     intro _ g6 W6 r6 S6
     refine wp_seq (rk Rs39_17 [.st 2 0 (i6 24)] Fs39_15 Bs39_18 S6 r6 ?_)
     intro W7 g7 r7 _
     refine (abs_q (h.below r7.first) (by omega) (tb hT r7)).mono ?_
     rintro _ V6 ⟨v, rfl, ha1, k6⟩
     obtain ⟨b6, A6, n6, c6, x6, rfl⟩ := ha1.ex
     replace ha1 := ha1.lower r7.fs
     refine ⟨[.bool b6, .slice A6 n6 c6, .int .i64 x6], rfl, rfl, rfl, k6, ?_⟩
     intro W8 g8 r8 _
     refine (point_q (ha1.lat (r8.at_ 2 _ rfl)).c (by omega) (tb hT r8)).mono ?_
     rintro _ V7 ⟨v, rfl, ha3, k7⟩
     obtain ⟨b7, A7, n7, c7, x7, d7, B7, m7, e7, y7, rfl⟩ := ha3.ex
     replace ha3 := ha3.lower r8.fs
     refine ⟨[.bool b7, .slice A7 n7 c7, .int .i64 x7, .bool d7, .slice B7 m7 e7, .int .i64 y7], rfl, rfl, rfl, k7, ?_⟩
     intro W9 g9 r9 _
     refine (abs_q (h.below r9.first) (by omega) (tb hT r9)).mono ?_
     rintro _ V8 ⟨v, rfl, ha4, k8⟩
     obtain ⟨b8, A8, n8, c8, x8, rfl⟩ := ha4.ex
     replace ha4 := ha4.lower r9.fs
     refine ⟨[.bool b8, .slice A8 n8 c8, .int .i64 x8], rfl, rfl, rfl, k8, ?_⟩
     intro W10 _ r10 _
     show Calls Tryz.prog 84 #[.agg #[.bool b8, .slice A8 n8 c8, .int .i64 x8], .int .i64 (IntKind.i64.wrap ((p : Int) + 64)), .int .i64 1] W10 _
     rw [hw64]
     refine (small_q (q := p + 64) (m := 1) (ha4.lat (r10.at_ 4 _ rfl)).c (ab_nonneg t) ha2 (by omega) (by omega) (by omega) (by decide) (tb hT r10)).mono ?_
     rintro _ V9 ⟨v, lo, hi, rfl, ha5, hs6, k9⟩
     obtain ⟨b9, A9, n9, c9, x9, d9, B9, m9, e9, y9, rfl⟩ := ha5.ex
     replace ha5 := ha5.lower r10.fs
     refine ⟨[.bool b9, .slice A9 n9 c9, .int .i64 x9, .bool d9, .slice B9 m9 e9, .int .i64 y9], rfl, rfl, rfl, k9, ?_⟩
     intro W11 _ r11 _
     show Calls Tryz.prog 82 #[.agg #[.bool b7, .slice A7 n7 c7, .int .i64 x7, .bool d7, .slice B7 m7 e7, .int .i64 y7], .agg #[.bool b9, .slice A9 n9 c9, .int .i64 x9, .bool d9, .slice B9 m9 e9, .int .i64 y9], .int .i64 (IntKind.i64.wrap ((p : Int) + 64))] W11 _
     rw [hw64]
     refine (times_q (p := p + 64) (ha3.lat (r11.at_ 3 _ rfl)).c (ha5.lat (r11.at_ 5 _ rfl)).c (by omega) (by omega) (by omega) (tb hT r11)).mono ?_
     rintro _ V10 ⟨v, l, u, rfl, hq, hf, sq1, sq2, k10⟩
     obtain ⟨b10, A10, n10, c10, x10, d10, B10, m10, e10, y10, rfl⟩ := hq.ex
     replace hq := hq.lower r11.fs
     have hL := lsm_of hap ha2 hs6 hf
     refine ⟨[.bool b10, .slice A10 n10 c10, .int .i64 x10, .bool d10, .slice B10 m10 e10, .int .i64 y10], rfl, rfl, rfl, k10, ?_⟩
     intro _ _ _ r12 S12
     refine wp_seq ?_
     refine wp_seq (rk Rs39_20 [] Fs39_19 Bs39_18 S12 r12 ?_)
     intro _ _ _ r13 S13
     refine wp_cond_split (t := b0) (S13.cnd (by kernel_rfl)) (fun q3 => ?_) (fun q3 => ?_)
     · have htn : t ≤ 0 := by rw [et]; exact neg_le (by rw [← hb0]; exact q3)
       refine wp_seq (rk Rs39_22 [.st 1 0 (i6 45)] Fs39_21 Bs39_23 S13 r13 ?_)
       intro W14 g14 r14 _
       refine (abs_q (h.below r14.first) (by omega) (tb hT r14)).mono ?_
       rintro _ V11 ⟨v, rfl, hb1, k11⟩
       obtain ⟨b11, A11, n11, c11, x11, rfl⟩ := hb1.ex
       replace hb1 := hb1.lower r14.fs
       refine ⟨[.bool b11, .slice A11 n11 c11, .int .i64 x11], rfl, rfl, rfl, k11, ?_⟩
       intro _ _ r15 _
       refine (above_q (hb1.lat (r15.at_ 7 _ rfl)).c (ab_nonneg t) (ab_le ht ht2) (by omega) hp (by omega) (tb hT r15)).mono ?_
       rintro _ V12 ⟨v, e1, e2, rfl, hb2, hab, k12⟩
       obtain ⟨b12, A12, n12, c12, x12, d12, B12, m12, e12, y12, rfl⟩ := hb2.ex
       replace hb2 := hb2.lower r15.fs
       refine ⟨[.bool b12, .slice A12 n12 c12, .int .i64 x12, .bool d12, .slice B12 m12 e12, .int .i64 y12], rfl, rfl, rfl, k12, ?_⟩
       intro W16 _ r16 _
       show Calls Tryz.prog 72 #[.agg #[.bool b10, .slice A10 n10 c10, .int .i64 x10, .bool d10, .slice B10 m10 e10, .int .i64 y10], .agg #[.bool b12, .slice A12 n12 c12, .int .i64 x12, .bool d12, .slice B12 m12 e12, .int .i64 y12], .int .i64 (IntKind.i64.wrap ((p : Int) + 64))] W16 _
       rw [hw64]
       refine (divi_q (p := p + 64) (hq.lat (r16.at_ 6 _ rfl)).c (hb2.lat (r16.at_ 8 _ rfl)).c hL.nar.1 hL.le hab.nar.1 hab.le (by omega) (by omega) (by omega) (tb hT r16)).mono ?_
       rintro _ V13 ⟨v, l3, u3, rfl, hb3, c1, c2, s3, s4, k13⟩
       obtain ⟨b13, A13, n13, c13, x13, d13, B13, m13, e13, y13, rfl⟩ := hb3.ex
       replace hb3 := hb3.lower r16.fs
       refine ⟨[.bool b13, .slice A13 n13 c13, .int .i64 x13, .bool d13, .slice B13 m13 e13, .int .i64 y13], rfl, rfl, rfl, k13, ?_⟩
       intro _ _ r17 _
       refine (turn_q (hb3.lat (r17.at_ 9 _ rfl)).c (by omega) (tb hT r17)).mono ?_
       rintro _ V14 ⟨v, rfl, hb4, k14⟩
       obtain ⟨b14, A14, n14, c14, x14, d14, B14, m14, e14, y14, rfl⟩ := hb4.ex
       replace hb4 := hb4.lower r17.fs
       refine ⟨[.bool b14, .slice A14 n14 c14, .int .i64 x14, .bool d14, .slice B14 m14 e14, .int .i64 y14], rfl, rfl, rfl, k14, ?_⟩
       intro _ _ _ r18 S18
       exact wp_ret (then_ret (ret_ok S18 [.agg #[.bool b14, .slice A14 n14 c14, .int .i64 x14, .bool d14, .slice B14 m14 e14, .int .i64 y14]] (by kernel_rfl) (⟨_, _, _, rfl, (hb4.lat (r18.at_ 10 _ rfl)).more (by omega), .inr ⟨h0, by have q := le1_neg hap hL hab c1 c2; rw [ab_neg htn, Rat.neg_neg] at q; exact q⟩, r18.first⟩)))
     · have htp : 0 ≤ t := by rw [et]; exact neg_ge (by rw [← hb0]; exact q3)
       refine wp_skip ?_
       refine wp_seq (rk Rs39_25 [.st 1 0 (i6 24)] Fs39_24 Bs39_26 S13 r13 ?_)
       intro _ g14 W14 r14 S14
       exact rt S14 [.agg #[.bool b10, .slice A10 n10 c10, .int .i64 x10, .bool d10, .slice B10 m10 e10, .int .i64 y10]] (⟨_, _, _, rfl, (hq.lat (r14.at_ 6 _ rfl)).more (by omega), .inr ⟨h0, by have q := le1_small hap hL; rw [ab_pos htp] at q; exact q⟩, r14.first⟩)
def zI : Value := .agg #[.bool false, .slice none 0 0, .int .i64 0, .bool false, .slice none 0 0, .int .i64 0]
def Asked (w' : World) (b : Nat) (fits : Prop) (p : Int) (q : Rat) (Sp : Nat → Rat → Rat → Rat → Prop) (v : Value) (why : Int) : Prop :=
 (why = 2 ∧ v = zI ∧ ¬ (fits ∧ 8 ≤ p ∧ p ≤ 4096)) ∨
 ((fits ∧ 8 ≤ p ∧ p ≤ 4096) ∧ ((why = 3 ∧ v = zI ∧ 16384 < ab q) ∨ (ab q ≤ 16384 ∧ ∃ l u l' u', Sp p.toNat q l u ∧ CutOf false l l' (ep (p.toNat + 8)) ∧ CutOf true u u' (ep (p.toNat + 8)) ∧ Short (p.toNat + 8) l' ∧ Short (p.toNat + 8) u' ∧
   ((why = 0 ∧ PI w' b v l' u' 1000001 ∧ FitQ l' ∧ FitQ u' ∧ l' ≤ u') ∨ (why = 3 ∧ v = zI ∧ ¬ (FitQ l' ∧ FitQ u' ∧ l' ≤ u'))))))
theorem Asked.ex6 {w' : World} {b : Nat} {fits : Prop} {p : Int} {q : Rat} {Sp : Nat → Rat → Rat → Rat → Prop} {v : Value} {why : Int} (h : Asked w' b fits p q Sp v why) : ∃ b A n c x d B m e y, v = .agg #[.bool b, .slice A n c, .int .i64 x, .bool d, .slice B m e, .int .i64 y] := by
 rcases h with ⟨_, rfl, _⟩ | ⟨_, ⟨_, rfl, _⟩ | ⟨_, l, u, l', u', _, _, _, _, _, ⟨_, h, _⟩ | ⟨_, rfl, _⟩⟩⟩
 · exact ⟨_, _, _, _, _, _, _, _, _, _, rfl⟩
 · exact ⟨_, _, _, _, _, _, _, _, _, _, rfl⟩
 · exact h.ex
 · exact ⟨_, _, _, _, _, _, _, _, _, _, rfl⟩
theorem Asked.imp {w1 w2 : World} {b1 b2 : Nat} {fits : Prop} {p : Int} {q : Rat} {Sp : Nat → Rat → Rat → Rat → Prop} {v : Value} {why : Int} (h : Asked w1 b1 fits p q Sp v why) (hp : ∀ l u, PI w1 b1 v l u 1000001 → PI w2 b2 v l u 1000001) : Asked w2 b2 fits p q Sp v why := by
 rcases h with h | ⟨h0, h | ⟨h1, l, u, l', u', h2, h3, h4, h5, h6, ⟨h7, h, h8⟩ | h⟩⟩
 · exact .inl h
 · exact .inr ⟨h0, .inl h⟩
 · exact .inr ⟨h0, .inr ⟨h1, l, u, l', u', h2, h3, h4, h5, h6, .inl ⟨h7, hp _ _ h, h8⟩⟩⟩
 · exact .inr ⟨h0, .inr ⟨h1, l, u, l', u', h2, h3, h4, h5, h6, .inr h⟩⟩
theorem Asked.lat {w1 w2 : World} {b : Nat} {fits : Prop} {p : Int} {q : Rat} {Sp : Nat → Rat → Rat → Rat → Prop} {v : Value} {why : Int} (h : Asked w1 b fits p q Sp v why) (hb : Lat 64 w1 w2) : Asked w2 b fits p q Sp v why := h.imp fun _ _ q => q.lat hb
theorem Asked.lower {w1 : World} {b b' : Nat} {fits : Prop} {p : Int} {q : Rat} {Sp : Nat → Rat → Rat → Rat → Prop} {v : Value} {why : Int} (h : Asked w1 b fits p q Sp v why) (hb : b' ≤ b) : Asked w1 b' fits p q Sp v why := h.imp fun _ _ q => q.lower hb
theorem fit_bl {m : Nat} {x : Int} (h : Fit m x = true) : bl m ≤ 65536 ∧ -32768 ≤ x ∧ x ≤ 32768 := by
 have h1 : (limbs m).length ≤ 1024 ∧ -32768 ≤ x ∧ x ≤ 32768 := of_decide_eq_true h
 exact ⟨Nat.le_trans (bl_limbs m) (by omega), h1.2⟩
theorem bd_of {N m : Nat} {s : Bool} {x : Int} (h : bl m ≤ N) (h1 : -(N : Int) ≤ x) (h2 : x ≤ (N : Int)) : Bd N (sgn s m) x := ⟨by rw [sgn_abs]; exact bl_le_iff.1 h, h1, h2⟩
theorem ask_if {r : Bool} {p : Int} : (if (if (!r) = true then true else decide (p < 8)) = true then true else decide (p > 4096)) = true ↔ ¬ (r = true ∧ 8 ≤ p ∧ p ≤ 4096) := by
 cases r
 · simp
 · by_cases h1 : p < 8
   · simp [h1]
     try omega
   · have h3 : 8 ≤ p := by omega
     by_cases h2 : p > 4096
     · simp [h1, h2]
     · simp [h1, h2, h3]
       try omega
theorem ab_bounds {q : Rat} (h : ab q ≤ 16384) : -16384 ≤ q ∧ q ≤ 16384 := by
 unfold ab at h
 split at h <;> constructor <;> grind
def Ft32_0 (fw : Nat) : List Sy := [dg 0, vi 3, .lit (.func (.func fw) #[] #[]), U, U, U, U, U, U, U, U, U, U, U, U, U, U, U, U, U, U, U, U, U, U, U, U, U, U, U, U, U, U, U, U, U, U, U, U, U, U]
def Ft32_1 (fw : Nat) : List Sy := fs (Ft32_0 fw) [(3, ps 0 0), (6, ps 1 0), (7, li 0)]
def Bt32_2 := [bb 25 (d3 0), bb 28 o6]
def Rt32_3 (fw : Nat) : Rg := ⟨3, 4, 0, (Ft32_0 fw), Bt32_2, [pa 0 0, pa 1 0, pv (li 0) 0], []⟩
def Ft32_4 (fw : Nat) : List Sy := fs (Ft32_1 fw) [(9, dg 0), (10, vb 4), (11, f1 noF (vb 4)), (12, f1 noF (vb 4)), (13, gd false (f1 noF (vb 4)) (vi 3)), (14, gd false (f1 noF (vb 4)) (bo .lss (vi 3) (li 8))), (15, pk (f1 noF (vb 4)) (lb true) (bo .lss (vi 3) (li 8))), (16, pk (f1 noF (vb 4)) (lb true) (bo .lss (vi 3) (li 8))), (17, gd false (pk (f1 noF (vb 4)) (lb true) (bo .lss (vi 3) (li 8))) (vi 3)), (18, gd false (pk (f1 noF (vb 4)) (lb true) (bo .lss (vi 3) (li 8))) (bo .gtr (vi 3) (li 4096))), (19, pk (pk (f1 noF (vb 4)) (lb true) (bo .lss (vi 3) (li 8))) (lb true) (bo .gtr (vi 3) (li 4096)))]
def Rt32_5 (fw : Nat) : Rg := ⟨11, 4, 2, (Ft32_1 fw), Bt32_2, [pl (dg 0) 0 0 0, pc (vb 4) 0 65 [dg 0] 1, pv (f1 noF (vb 4)) 1, pv (f1 noF (vb 4)) 1, ⟨vi 3, 1, [], .val, gd false (f1 noF (vb 4)) (vi 3)⟩, ⟨bo .lss (vi 3) (li 8), 1, [], .val, gd false (f1 noF (vb 4)) (bo .lss (vi 3) (li 8))⟩, ⟨pk (f1 noF (vb 4)) (lb true) (bo .lss (vi 3) (li 8)), 1, [], .pk, pk (f1 noF (vb 4)) (lb true) (bo .lss (vi 3) (li 8))⟩, pv (pk (f1 noF (vb 4)) (lb true) (bo .lss (vi 3) (li 8))) 1, ⟨vi 3, 1, [], .val, gd false (pk (f1 noF (vb 4)) (lb true) (bo .lss (vi 3) (li 8))) (vi 3)⟩, ⟨bo .gtr (vi 3) (li 4096), 1, [], .val, gd false (pk (f1 noF (vb 4)) (lb true) (bo .lss (vi 3) (li 8))) (bo .gtr (vi 3) (li 4096))⟩, ⟨pk (pk (f1 noF (vb 4)) (lb true) (bo .lss (vi 3) (li 8))) (lb true) (bo .gtr (vi 3) (li 4096)), 1, [], .pk, pk (pk (f1 noF (vb 4)) (lb true) (bo .lss (vi 3) (li 8))) (lb true) (bo .gtr (vi 3) (li 4096))⟩], [1]⟩
def Ft32_6 (fw : Nat) : List Sy := fs (Ft32_4 fw) [(7, li 2), (20, ag o6)]
def Rt32_7 (fw : Nat) : Rg := ⟨1, 5, 2, (Ft32_4 fw), Bt32_2, [pv (ag o6) 0], []⟩
def Ft32_8 (fw : Nat) : List Sy := fs (Ft32_4 fw) [(21, dg 0), (22, dg 5)]
def Rt32_9 (fw : Nat) : Rg := ⟨2, 5, 2, (Ft32_4 fw), Bt32_2, [pl (dg 0) 0 0 0, pc (dg 5) 0 66 [dg 0] 3], [1]⟩
def Bt32_10 := [bb 25 (d3 5), bb 28 o6]
def Ft32_11 (fw : Nat) : List Sy := fs (Ft32_8 fw) [(23, dg 5), (24, dg 8), (25, dg 11), (26, vi 14), (27, bo .gtr (vi 14) (li 0))]
def Rt32_12 (fw : Nat) : Rg := ⟨5, 8, 2, (Ft32_8 fw), Bt32_10, [pl (dg 5) 0 0 0, pc (dg 8) 0 68 [dg 5] 3, pc (dg 11) 1 69 [li 16384] 3, pc (vi 14) 2 67 [dg 8, dg 11] 1, pv (bo .gtr (vi 14) (li 0)) 3], [1, 2, 3]⟩
def Ft32_13 (fw : Nat) : List Sy := fs (Ft32_11 fw) [(7, li 3), (28, ag o6)]
def Rt32_14 (fw : Nat) : Rg := ⟨1, 15, 2, (Ft32_11 fw), Bt32_10, [pv (ag o6) 0], []⟩
def Ft32_15 (fw : Nat) : List Sy := fs (Ft32_11 fw) [(8, ps 2 0), (29, .lit (.func (.func fw) #[] #[])), (30, dg 5), (31, vi 3), (32, ig 15), (33, vi 3), (34, bo .add (vi 3) (li 8)), (35, ig 21)]
def Bt32_16 := [bb 25 (d3 5), bb 28 o6, bb 28 o6]
def Rt32_17 (fw : Nat) : Rg := ⟨8, 15, 2, (Ft32_11 fw), Bt32_16, [pv (.lit (.func (.func fw) #[] #[])) 0, pl (dg 5) 0 0 0, pv (vi 3) 0, pc (ig 15) 0 fw [dg 5, vi 3] 6, pv (vi 3) 0, pv (bo .add (vi 3) (li 8)) 0, pc (ig 21) 1 70 [ig 15, bo .add (vi 3) (li 8)] 6, pa 2 0], [3, 6]⟩
def Bt32_18 := [bb 25 (d3 5), bb 28 o6, bb 28 (i6 21)]
def Ft32_19 (fw : Nat) : List Sy := fs (Ft32_15 fw) [(36, ig 21), (37, vb 27), (38, f1 noF (vb 27))]
def Rt32_20 (fw : Nat) : Rg := ⟨3, 27, 3, (Ft32_15 fw), Bt32_18, [pl (ig 21) 0 2 0, pc (vb 27) 0 48 [ig 21] 1, pv (f1 noF (vb 27)) 1], [1]⟩
def Ft32_21 (fw : Nat) : List Sy := fs (Ft32_19 fw) [(7, li 3), (39, ag o6)]
def Rt32_22 (fw : Nat) : Rg := ⟨1, 28, 3, (Ft32_19 fw), Bt32_18, [pv (ag o6) 0], []⟩
def Ft32_23 (fw : Nat) : List Sy := fs (Ft32_19 fw) [(40, ig 21)]
def Rt32_24 (fw : Nat) : Rg := ⟨1, 28, 3, (Ft32_19 fw), Bt32_18, [pl (ig 21) 0 2 0], []⟩
def Bt32_25 := [bb 25 (d3 5), bb 28 (i6 21), bb 28 (i6 21)]
theorem asked_q {v : Value} {s : Bool} {m fw : Nat} {x p : Int} {Sp : Nat → Rat → Rat → Rat → Prop} {w : World} (h : ADy w v s m x) (hent : Enters Tryz.prog fw)
 (hway : ∀ (P : Nat) (W : World) (u : Value) (b : Nat), BL w W → PQ W b u (Dv (sgn s m) x) 65536 → -16384 ≤ Dv (sgn s m) x → Dv (sgn s m) x ≤ 16384 → 8 ≤ P → P ≤ 4096 → Calls Tryz.prog fw #[u, .int .i64 (P : Int)] W fun e W' => ∃ v' l r, e = .returned v' ∧ PI W' W.heap.size v' l r 1000000 ∧ Sp P (Dv (sgn s m) x) l r ∧ BL W W') (hT : TB w) :
 Calls Tryz.prog 32 #[v, .int .i64 p, .func (.func fw) #[] #[]] w fun en w' => ∃ v' why, en = .returned (.tuple #[v', .int .i64 why]) ∧ Asked w' w.heap.size (Fit m x = true) p (Dv (sgn s m) x) Sp v' why ∧ BL w w' := by
 obtain ⟨A0, n0, c0, rfl, h⟩ := h
 have h : ADy w (.agg #[.bool s, .slice A0 n0 c0, .int .i64 x]) s m x := ⟨_, _, _, rfl, h⟩
 obtain ⟨q, hq⟩ : ∃ q, q = Dv (sgn s m) x := ⟨_, rfl⟩
 rw [← hq] at hway ⊢
 refine fn_enter (u := 64) (fn := Tryz.f32) Tryz.func32 rfl (Ft32_0 fw) [.bool s, .slice A0 n0 c0, .int .i64 x, .int .i64 p] (by kernel_rfl) rfl (fun a0 S0 r0 => ?_)
 refine wp_seq (rk (Rt32_3 fw) [] (Ft32_1 fw) Bt32_2 S0 r0 ?_)
 intro _ _ _ r1 S1
 refine wp_seq ?_
 refine wp_seq (rk (Rt32_5 fw) [] (Ft32_4 fw) Bt32_2 S1 r1 ?_)
 intro _ _ r2 _
 refine (fits_all (h.below r2.first)).mono ?_
 rintro _ V1 ⟨rfl, k1⟩
 refine ⟨[.bool (Fit m x)], rfl, rfl, rfl, k1, ?_⟩
 intro _ _ _ r3 S3
 refine wp_cond_split (t := if if !(Fit m x) then true else decide (p < 8) then true else decide (p > 4096)) (S3.cnd (by kernel_rfl)) (fun q1 => ?_) (fun q1 => ?_)
 · refine wp_seq (rk (Rt32_7 fw) [.st 1 0 o6, .mv (li 2)] (Ft32_6 fw) Bt32_2 S3 r3 ?_)
   intro _ g4 W4 r4 S4
   exact wp_ret (then_ret (ret_ok S4 [.agg #[.bool false, .slice none 0 0, .int .i64 0, .bool false, .slice none 0 0, .int .i64 0], .int .i64 2] (by kernel_rfl) (⟨_, _, rfl, .inl ⟨rfl, rfl, ask_if.1 q1⟩, r4.first⟩)))
 · have hok : Fit m x = true ∧ 8 ≤ p ∧ p ≤ 4096 := Classical.byContradiction fun hc => by rw [ask_if.2 hc] at q1; cases q1
   obtain ⟨hfit, hp8, hp4⟩ := hok
   obtain ⟨hbl, hx1, hx2⟩ := fit_bl hfit
   obtain ⟨P, hP⟩ : ∃ P : Nat, p = (P : Int) := ⟨p.toNat, by omega⟩
   have hPn : p.toNat = P := by omega
   have hw8 : IntKind.i64.wrap (p + 8) = ((P + 8 : Nat) : Int) := by rw [hP, i64_id (by omega) (by omega)]; rfl
   refine wp_skip ?_
   refine wp_seq (rk (Rt32_9 fw) [.st 0 0 (d3 5)] (Ft32_8 fw) Bt32_10 S3 r3 ?_)
   intro W4 g4 r4 _
   refine (one_all (h.below r4.first) (by omega) (by omega) (by omega) (tb hT r4)).mono ?_
   rintro _ V2 ⟨v, rfl, h1, k2⟩
   obtain ⟨b2, A2, n2, c2, x2, rfl⟩ := h1.ex
   replace h1 := h1.lower r4.fs
   have h2 : PQ _ w.heap.size _ q 65536 := ⟨_, _, h1, hq, bd_of hbl (by omega) (by omega)⟩
   refine ⟨[.bool b2, .slice A2 n2 c2, .int .i64 x2], rfl, rfl, rfl, k2, ?_⟩
   intro _ _ _ r5 S5
   refine wp_seq ?_
   refine wp_seq (rk (Rt32_12 fw) [] (Ft32_11 fw) Bt32_10 S5 r5 ?_)
   intro _ _ r6 _
   refine (abs_q (h2.lat (r6.at_ 1 _ rfl)).c (by decide) (tb hT r6)).mono ?_
   rintro _ V3 ⟨v, rfl, h3, k3⟩
   obtain ⟨b3, A3, n3, c3, x3, rfl⟩ := h3.ex
   replace h3 := h3.lower r6.fs
   refine ⟨[.bool b3, .slice A3 n3 c3, .int .i64 x3], rfl, rfl, rfl, k3, ?_⟩
   intro _ _ r7 _
   refine (int_q 16384 _ (by decide) (by decide) (tb hT r7)).mono ?_
   rintro _ V4 ⟨v, rfl, h4, k4⟩
   obtain ⟨b4, A4, n4, c4, x4, rfl⟩ := h4.ex
   replace h4 := h4.lower r7.fs
   refine ⟨[.bool b4, .slice A4 n4 c4, .int .i64 x4], rfl, rfl, rfl, k4, ?_⟩
   intro _ _ r8 _
   refine (cmp_q (h3.lat (r8.at_ 2 _ rfl)).c (h4.lat (r8.at_ 3 _ rfl)).c (by decide) (tb hT r8)).mono ?_
   rintro _ V5 ⟨rfl, k5⟩
   refine ⟨[.int .i64 (cmpQ (ab q) ((16384 : Int) : Rat))], rfl, rfl, rfl, k5, ?_⟩
   intro _ _ _ r9 S9
   refine wp_cond_split (t := decide ((cmpQ (ab q) ((16384 : Int) : Rat)) > 0)) (S9.cnd (by kernel_rfl)) (fun q2 => ?_) (fun q2 => ?_)
   · have hbig : 16384 < ab q := by rw [cmp_gt] at q2; exact of_decide_eq_true q2
     refine wp_seq (rk (Rt32_14 fw) [.st 1 0 o6, .mv (li 3)] (Ft32_13 fw) Bt32_10 S9 r9 ?_)
     intro _ g10 W10 r10 S10
     exact wp_ret (then_ret (ret_ok S10 [.agg #[.bool false, .slice none 0 0, .int .i64 0, .bool false, .slice none 0 0, .int .i64 0], .int .i64 3] (by kernel_rfl) (⟨_, _, rfl, .inr ⟨⟨hfit, hp8, hp4⟩, .inl ⟨rfl, rfl, hbig⟩⟩, r10.first⟩)))
   · have hsm : ab q ≤ 16384 := by rw [cmp_gt] at q2; exact Rat.not_lt.1 (of_decide_eq_false q2)
     obtain ⟨hb1, hb2⟩ := ab_bounds hsm
     refine wp_skip ?_
     refine wp_seq ?_
     refine region_ok (Rt32_17 fw) [.st 2 0 (i6 21)] (Ft32_15 fw) Bt32_18 mx (by kernel_rfl) (ents_of [fw, 70] (by kernel_rfl) ⟨hent, entB_ok (by kernel_rfl), trivial⟩) (fun E g => by kernel_rfl) (by kernel_rfl) S9 (by kernel_rfl) r9 ?_
     intro W10 g10 r10 _
     have cw := hway P _ _ _ r10.first (h2.lat (r10.at_ 1 _ rfl)) hb1 hb2 (by omega) (by omega)
     rw [← hP] at cw
     refine (cw).mono ?_
     rintro _ V6 ⟨v, l, u, rfl, h5, hSp, k6⟩
     obtain ⟨b6, A6, n6, c6, x6, d6, B6, m6, e6, y6, rfl⟩ := h5.ex
     replace h5 := h5.lower r10.fs
     refine ⟨[.bool b6, .slice A6 n6 c6, .int .i64 x6, .bool d6, .slice B6 m6 e6, .int .i64 y6], rfl, rfl, rfl, k6, ?_⟩
     intro W11 _ r11 _
     show Calls Tryz.prog 70 #[.agg #[.bool b6, .slice A6 n6 c6, .int .i64 x6, .bool d6, .slice B6 m6 e6, .int .i64 y6], .int .i64 (IntKind.i64.wrap (p + 8))] W11 _
     rw [hw8]
     refine (trim_q (p := P + 8) (h5.lat (r11.at_ 5 _ rfl)).c (by decide) (by omega) (by omega) (tb hT r11)).mono ?_
     rintro _ V7 ⟨v, l', u', rfl, h6, e1, e2, s1, s2, k7⟩
     obtain ⟨b7, A7, n7, c7, x7, d7, B7, m7, e7, y7, rfl⟩ := h6.ex
     replace h6 := h6.lower r11.fs
     refine ⟨[.bool b7, .slice A7 n7 c7, .int .i64 x7, .bool d7, .slice B7 m7 e7, .int .i64 y7], rfl, rfl, rfl, k7, ?_⟩
     intro _ _ _ r12 S12
     refine wp_seq ?_
     refine wp_seq (rk (Rt32_20 fw) [] (Ft32_19 fw) Bt32_18 S12 r12 ?_)
     intro _ _ r13 _
     refine (right_q (h6.lat (r13.at_ 6 _ rfl)).c (by decide) (tb hT r13)).mono ?_
     rintro _ V8 ⟨r, rfl, hr, k8⟩
     refine ⟨[.bool r], rfl, rfl, rfl, k8, ?_⟩
     intro _ _ _ r14 S14
     refine wp_cond_split (t := !r) (S14.cnd (by kernel_rfl)) (fun q3 => ?_) (fun q3 => ?_)
     · refine wp_seq (rk (Rt32_22 fw) [.st 1 0 o6, .mv (li 3)] (Ft32_21 fw) Bt32_18 S14 r14 ?_)
       intro a15 g15 W15 r15 S15
       exact wp_ret (then_ret (ret_ok S15 [.agg #[.bool false, .slice none 0 0, .int .i64 0, .bool false, .slice none 0 0, .int .i64 0], .int .i64 3] (by kernel_rfl) (⟨_, _, rfl, .inr ⟨⟨hfit, hp8, hp4⟩, .inr ⟨hsm, l, u, l', u', by rw [hPn]; exact hSp, by rw [hPn]; exact e1, by rw [hPn]; exact e2, by rw [hPn]; exact s1, by rw [hPn]; exact s2, .inr ⟨rfl, rfl, fun hc => by rw [hr.2 hc] at q3; cases q3⟩⟩⟩, r15.first⟩)))
     · refine wp_skip ?_
       refine wp_seq (rk (Rt32_24 fw) [.st 1 0 (i6 21), .mv (li 0)] (Ft32_23 fw) Bt32_25 S14 r14 ?_)
       intro a15 g15 W15 r15 S15
       exact rt S15 [.agg #[.bool b7, .slice A7 n7 c7, .int .i64 x7, .bool d7, .slice B7 m7 e7, .int .i64 y7], .int .i64 0] (⟨_, _, rfl, .inr ⟨⟨hfit, hp8, hp4⟩, .inr ⟨hsm, l, u, l', u', by rw [hPn]; exact hSp, by rw [hPn]; exact e1, by rw [hPn]; exact e2, by rw [hPn]; exact s1, by rw [hPn]; exact s2, .inl ⟨rfl, (h6.lat (r15.at_ 6 _ rfl)), hr.1 (by cases r with | true => rfl | false => cases q3)⟩⟩⟩, r15.first⟩)
def SpE (P : Nat) (q l u : Rat) : Prop := Enc l u q (ep (P + 49))
def SpL (P : Nat) (q l u : Rat) : Prop := (q = 0 ∧ l = 0 ∧ u = 0) ∨ (q ≠ 0 ∧ Le1 (P + 30) q l u)
def Ft9_0 := [dg 0, vi 3, U, U, U, U, U, U, U, U, U]
def Ft9_1 := fs Ft9_0 [(2, ps 0 0), (4, ps 1 0), (5, li 0)]
def Bt9_2 := [bb 25 (d3 0), bb 28 o6]
def Rt9_3 : Rg := ⟨3, 4, 0, Ft9_0, Bt9_2, [pa 0 0, pa 1 0, pv (li 0) 0], []⟩
def Ft9_4 := fs Ft9_1 [(5, vi 10), (6, dg 0), (7, vi 3), (8, tu [ig 4, vi 10]), (9, ig 4), (10, vi 10)]
def Rt9_5 : Rg := ⟨5, 4, 2, Ft9_1, Bt9_2, [pl (dg 0) 0 0 0, pv (vi 3) 0, pc (tu [ig 4, vi 10]) 0 32 [dg 0, vi 3, .lit (.func (.func 33) #[] #[])] 7, pv (ig 4) 1, pv (vi 10) 1], [2]⟩
def Bt9_6 := [bb 25 (d3 0), bb 28 (i6 4)]
theorem exp_q {v : Value} {s : Bool} {m : Nat} {x p : Int} {w : World} (h : ADy w v s m x) (hT : TB w) :
 Calls Tryz.prog 9 #[v, .int .i64 p] w fun en w' => ∃ v' why, en = .returned (.tuple #[v', .int .i64 why]) ∧ Asked w' w.heap.size (Fit m x = true) p (Dv (sgn s m) x) SpE v' why ∧ BL w w' := by
 obtain ⟨A0, n0, c0, rfl, h⟩ := h
 have h : ADy w (.agg #[.bool s, .slice A0 n0 c0, .int .i64 x]) s m x := ⟨_, _, _, rfl, h⟩
 refine fn_enter (u := 64) (fn := Tryz.f9) Tryz.func9 rfl Ft9_0 [.bool s, .slice A0 n0 c0, .int .i64 x, .int .i64 p] (by kernel_rfl) rfl (fun a0 S0 r0 => ?_)
 refine wp_seq (rk Rt9_3 [] Ft9_1 Bt9_2 S0 r0 ?_)
 intro _ g1 _ r1 S1
 refine wp_seq (rk Rt9_5 [.st 1 0 (i6 4), .mv (vi 10)] Ft9_4 Bt9_6 S1 r1 ?_)
 intro _ g2 r2 _
 refine (asked_q (p := p) (Sp := SpE) (h.below r2.first) (entB_ok (by kernel_rfl)) (fun P W u b hb hu h1 h2 h3 h4 => (power_q (N := 65536) hu.c h1 h2 (by decide) h3 (by omega) (tab_below (tb hT r2) hb)).mono (by rintro e W' ⟨v, l, r, rfl, g1, g2, g3⟩; exact ⟨v, l, r, rfl, g1.more (by decide), g2, g3⟩)) (tb hT r2)).mono ?_
 rintro _ V1 ⟨v, why, rfl, h1, k1⟩
 obtain ⟨b1, A1, n1, c1, x1, d1, B1, m1, e1, y1, rfl⟩ := h1.ex6
 refine ⟨[.bool b1, .slice A1 n1 c1, .int .i64 x1, .bool d1, .slice B1 m1 e1, .int .i64 y1, .int .i64 why], rfl, rfl, rfl, k1, ?_⟩
 intro _ g3 _ r3 S3
 exact rt S3 [.agg #[.bool b1, .slice A1 n1 c1, .int .i64 x1, .bool d1, .slice B1 m1 e1, .int .i64 y1], .int .i64 why] (⟨_, _, rfl, (h1.lower r2.fs).lat (r3.at_ 0 _ rfl), r3.first⟩)
def Ft14_0 := [dg 0, vi 3, U, U, U, U, U, U, U, U, U]
def Ft14_1 := fs Ft14_0 [(2, ps 0 0), (4, ps 1 0), (5, li 0)]
def Bt14_2 := [bb 25 (d3 0), bb 28 o6]
def Rt14_3 : Rg := ⟨3, 4, 0, Ft14_0, Bt14_2, [pa 0 0, pa 1 0, pv (li 0) 0], []⟩
def Ft14_4 := fs Ft14_1 [(5, vi 10), (6, dg 0), (7, vi 3), (8, tu [ig 4, vi 10]), (9, ig 4), (10, vi 10)]
def Rt14_5 : Rg := ⟨5, 4, 2, Ft14_1, Bt14_2, [pl (dg 0) 0 0 0, pv (vi 3) 0, pc (tu [ig 4, vi 10]) 0 32 [dg 0, vi 3, .lit (.func (.func 39) #[] #[])] 7, pv (ig 4) 1, pv (vi 10) 1], [2]⟩
def Bt14_6 := [bb 25 (d3 0), bb 28 (i6 4)]
theorem expm1_q {v : Value} {s : Bool} {m : Nat} {x p : Int} {w : World} (h : ADy w v s m x) (hT : TB w) :
 Calls Tryz.prog 14 #[v, .int .i64 p] w fun en w' => ∃ v' why, en = .returned (.tuple #[v', .int .i64 why]) ∧ Asked w' w.heap.size (Fit m x = true) p (Dv (sgn s m) x) SpL v' why ∧ BL w w' := by
 obtain ⟨A0, n0, c0, rfl, h⟩ := h
 have h : ADy w (.agg #[.bool s, .slice A0 n0 c0, .int .i64 x]) s m x := ⟨_, _, _, rfl, h⟩
 refine fn_enter (u := 64) (fn := Tryz.f14) Tryz.func14 rfl Ft14_0 [.bool s, .slice A0 n0 c0, .int .i64 x, .int .i64 p] (by kernel_rfl) rfl (fun a0 S0 r0 => ?_)
 refine wp_seq (rk Rt14_3 [] Ft14_1 Bt14_2 S0 r0 ?_)
 intro _ g1 _ r1 S1
 refine wp_seq (rk Rt14_5 [.st 1 0 (i6 4), .mv (vi 10)] Ft14_4 Bt14_6 S1 r1 ?_)
 intro _ g2 r2 _
 refine (asked_q (p := p) (Sp := SpL) (h.below r2.first) (entB_ok (by kernel_rfl)) (fun P W u b hb hu h1 h2 h3 h4 => (eless_q (N := 65536) hu.c h1 h2 (by decide) h3 (by omega) (tab_below (tb hT r2) hb)).mono (by rintro e W' ⟨v, l, r, rfl, g1, g2, g3⟩; exact ⟨v, l, r, rfl, g1, g2, g3⟩)) (tb hT r2)).mono ?_
 rintro _ V1 ⟨v, why, rfl, h1, k1⟩
 obtain ⟨b1, A1, n1, c1, x1, d1, B1, m1, e1, y1, rfl⟩ := h1.ex6
 refine ⟨[.bool b1, .slice A1 n1 c1, .int .i64 x1, .bool d1, .slice B1 m1 e1, .int .i64 y1, .int .i64 why], rfl, rfl, rfl, k1, ?_⟩
 intro _ g3 _ r3 S3
 exact rt S3 [.agg #[.bool b1, .slice A1 n1 c1, .int .i64 x1, .bool d1, .slice B1 m1 e1, .int .i64 y1], .int .i64 why] (⟨_, _, rfl, (h1.lower r2.fs).lat (r3.at_ 0 _ rfl), r3.first⟩)
theorem add_any (a b : List Nat) (A B : Option Addr) (na nb c d : Nat) (hna : a.length = na) (hnb : b.length = nb) (w : World) (ha : kU.C w A na a) (hb : kU.C w B nb b) (hc : na ≤ c) (hd : nb ≤ d) (wa : Wf a) (wb : Wf b) (la : na ≤ 2147483648) (lb : nb ≤ 2147483648) :
 Calls Tryz.prog 54 #[.slice A na c, .slice B nb d] w fun e w' => ∃ v, e = .returned v ∧ kU.R 64 w' w.heap.size (fun _ => True) v (limbs (nv a + nv b)) ∧ BL w w' := by
 have HA := yk ha
 have HB := yk hb
 have WA := yk wa
 have WB := yk wb
 have HNA := yk hna
 have HNB := yk hnb
 clear ha hb wa wb hna hnb
 rcases Nat.lt_or_ge na nb with hab | hab
 all_goals
  go_enter Tryz.func54, Tryz.ntmps54
  go_wp2
  go_loopw [5, 6, 7] (fun v5 v6 v7 wr => ∃ (k cy : Nat) (acc : List Nat), v6 = .int .u64 cy ∧ v7 = .int .i64 k ∧ cy ≤ 1 ∧ k ≤ 2147483648 ∧ (k ≤ na ∨ k ≤ nb) ∧ Aside0 (BL w wr) ∧ Aside0 (kU.R 64 wr w.heap.size (fun _ => True) v5 acc) ∧ Aside0 (acc.length = k ∧ Wf acc ∧ nv acc + 2 ^ (64 * k) * cy = nv (a.take k) + nv (b.take k))) (fun _ _ v7 _ => na + nb - (intOf v7).toNat)
  case atStart => exact ⟨0, 0, [], rfl, rfl, by omega, by omega, by omega, ⟨Below.refl _ _⟩, ⟨Kd.R_nil _ _ _ _ _⟩, ⟨rfl, .nil, by simp [nv]⟩⟩
  case round =>
   obtain ⟨k, cy, acc, rfl, rfl, hcy, hk, hkk, HBB, HO, HG⟩ := hrel
   by_cases hlt : k < na ∨ k < nb
   · obtain ⟨x, hx⟩ : ∃ x, x = wd a k := ⟨_, rfl⟩
     obtain ⟨y, hy⟩ : ∃ y, y = wd b k := ⟨_, rfl⟩
     have HX := yk hx
     have HY := yk hy
     have hx64 : x < 18446744073709551616 := by rw [hx]; exact wd_lt WA.out k
     have hy64 : y < 18446744073709551616 := by rw [hy]; exact wd_lt WB.out k
     clear hx hy
     have QA : ∀ m, BL w m → Calls Tryz.prog 94 #[.slice A na c, .int .i64 (k : Int)] m fun e w' => e = .returned (.int .u64 (x : Int)) ∧ ∃ n, w' = m.drewN n := fun m hm => by
      have h1 := HNA.out; subst h1
      exact word_is a A c k x _ rfl HX.out.symm _ (Kd.C_below HA.out hm) hc (by omega)
     have QB : ∀ m, BL w m → Calls Tryz.prog 94 #[.slice B nb d, .int .i64 (k : Int)] m fun e w' => e = .returned (.int .u64 (y : Int)) ∧ ∃ n, w' = m.drewN n := fun m hm => by
      have h1 := HNB.out; subst h1
      exact word_is b B d k y _ rfl HY.out.symm _ (Kd.C_below HB.out hm) hd (by omega)
     have QA' := yk QA
     have QB' := yk QB
     clear QA QB
     obtain ⟨s, c', hs1, hs2, hs3, hs4⟩ : ∃ s c' : Nat, s < 18446744073709551616 ∧ c' ≤ 1 ∧ s + 18446744073709551616 * c' = x + y + cy ∧ IntKind.u64.wrap (IntKind.u64.wrap ((x : Int) + y) + cy) = (s : Int) := ⟨(x + y + cy) % 18446744073709551616, (x + y + cy) / 18446744073709551616, by omega, by omega, by omega, by unfold IntKind.wrap; simp [IntKind.bits, IntKind.signed] <;> omega⟩
     have HT := yk (show (a.take (k + 1)).length ≤ k + 1 from by rw [List.length_take]; omega)
     have HS := yk hs3
     have hcase : (c' = 1 ∧ s < x) ∨ (c' = 1 ∧ s = x ∧ cy = 1 ∧ 0 < y) ∨ (c' = 0 ∧ x < s) ∨ (c' = 0 ∧ s = x ∧ cy = 0 ∧ y = 0) := by omega
     clear hs3
     rcases hcase with ⟨hc1, hq⟩ | ⟨hc1, hq, hq1, hq2⟩ | ⟨hc1, hq⟩ | ⟨hc1, hq, hq1, hq2⟩
     case' inl => have hf : ((s : Int) == (x : Int)) = false := by simp; omega
     case' inr.inl => have hf : ((s : Int) == (x : Int)) = true := by simp [hq]
     case' inr.inl => have hf2 : x ≤ s := by omega
     case' inr.inl => have hf3 : ((cy : Int) == 1) = true := by simp [hq1]
     case' inr.inl => have HQ := yk hq; clear hq hq1
     case' inr.inr.inl => have hf : ((s : Int) == (x : Int)) = false := by simp; omega
     case' inr.inr.inr => have hf : ((s : Int) == (x : Int)) = true := by simp [hq]
     case' inr.inr.inr => have hf2 : x ≤ s := by omega
     case' inr.inr.inr => have hf3 : ((cy : Int) == 1) = false := by simp [hq1]
     case' inr.inr.inr => have HQ := yk hq; clear hq hq1 hq2
     all_goals subst hc1
     all_goals
      go_wp2_with (first | (go_at_call 94; first | (with_reducible refine (QA'.out _ ?hB).mono ?_; (case hB => first | exact HBB.out | exact pw_below_drewN HBB.out _); rintro e w' ⟨rfl, n1, rfl⟩) | (with_reducible refine (QB'.out _ ?hB).mono ?_; (case hB => first | exact HBB.out | exact pw_below_drewN HBB.out _); rintro e w' ⟨rfl, n2, rfl⟩)) | ((with_reducible refine gate_builtin (b := .append) (xs := #[.tmp 47, .tmp 49]) rfl ?_); at_builtin; go_must (refine Kd.R_append kU (w0 := w) w.heap.size rfl (.tmp 47) (.tmp 49) 23 64 (.int .u64 0) 8 rfl Tryz.underlying23 info_word rfl (by decide) (by omega) u5 acc s [.int .u64 ((s : Nat) : Int)] (fun _ => True) (fun _ => False) rfl rfl ?aP (fun _ hk => hk.elim) ?aF ?aO ?aB ?aS ?aL ?_; (case aP => exact rfl); (case aF => exact fun _ _ => trivial); (case aO => exact Kd.R_drewN HO.out _); (case aB => exact pw_below_drewN HBB.out _); (case aS => exact (pw_below_drewN HBB.out _).size); (case aL => (have := HG.out.1; omega)); intro v_1 w_1 ho hb _ _; have HO' := yk ho; have HB' := yk hb; clear ho hb)))
      clear hs4
      go_roundw
      case rel => exact ⟨k + 1, _, acc ++ [s], rfl, by go_num, by omega, by omega, by omega, HB', HO', ⟨by simp [HG.out.1], HG.out.2.1.snoc hs1, by
       rw [nv_snoc, nv_take_succ, nv_take_succ, HG.out.1, ← HX.out, ← HY.out]
       exact add_step HG.out.2.2 HS.out rfl⟩⟩
      case measure => simp [intOf]; omega
   · have HF := yk (show nv (acc ++ [cy]) = nv a + nv b by
      have h1 := HNA.out
      have h2 := HNB.out
      have h3 := HG.out.2.2
      rw [nv_take_all (by omega), nv_take_all (by omega)] at h3
      rw [nv_snoc, HG.out.1, h3])
     have HV := yk (show Wf (acc ++ [cy]) from HG.out.2.1.snoc (by omega))
     have HLEN := yk (show (acc ++ [cy]).length ≤ 4294967296 by have := HG.out.1; simp; omega)
     go_wp2_with (first | ((with_reducible refine gate_builtin (b := .append) (xs := #[.tmp 51, .tmp 53]) rfl ?_); at_builtin; go_must (refine Kd.R_append kU (w0 := w) w.heap.size rfl (.tmp 51) (.tmp 53) 23 64 (.int .u64 0) 8 rfl Tryz.underlying23 info_word rfl (by decide) (by omega) u5 acc cy [.int .u64 ((cy : Nat) : Int)] (fun _ => True) (fun _ => False) rfl rfl ?aP (fun _ hk => hk.elim) ?aF ?aO ?aB ?aS ?aL ?_; (case aP => exact rfl); (case aF => exact fun _ _ => trivial); (case aO => exact HO.out); (case aB => exact HBB.out); (case aS => exact (HBB.out).size); (case aL => (have := HG.out.1; omega)); intro v_1 w_1 ho hb _ _; have HO' := yk ho; have HB' := yk hb; clear ho hb)) | (go_at_call 89; go_must (obtain ⟨A1, c1, rfl, hc1, hC1⟩ := Kd.R_reads HO'.out; refine (norm_any (acc ++ [cy]) A1 c1 _ hC1 hc1 HV.out HLEN.out).mono ?_; rintro e w1 ⟨v, rfl, ho, hb⟩; rw [HF.out] at ho; have HO2 := yk ho; have HB2 := yk hb; clear ho hb)))
     go_ret
     exact ⟨_, rfl, Kd.R_lower HO2.out HB'.out.size, below_then HB'.out HB'.out.size HB2.out⟩
theorem sub_any (a b : List Nat) (A B : Option Addr) (na nb c d : Nat) (hna : a.length = na) (hnb : b.length = nb) (w : World) (ha : kU.C w A na a) (hb : kU.C w B nb b) (hc : na ≤ c) (hd : nb ≤ d) (wa : Wf a) (wb : Wf b) (la : na ≤ 2147483648) (lb : nb ≤ 2147483648) (hab0 : nv b ≤ nv a) :
 Calls Tryz.prog 56 #[.slice A na c, .slice B nb d] w fun e w' => ∃ v, e = .returned v ∧ kU.R 64 w' w.heap.size (fun _ => True) v (limbs (nv a - nv b)) ∧ BL w w' := by
 have HA := yk ha
 have HB := yk hb
 have WA := yk wa
 have WB := yk wb
 have HNA := yk hna
 have HNB := yk hnb
 have HAB := yk hab0
 clear ha hb wa wb hna hnb hab0
 rcases Nat.lt_or_ge na nb with hab | hab
 all_goals
  go_enter Tryz.func56, Tryz.ntmps56
  go_wp2
  go_loopw [5, 6, 7] (fun v5 v6 v7 wr => ∃ (k cy : Nat) (acc : List Nat), v6 = .int .u64 cy ∧ v7 = .int .i64 k ∧ cy ≤ 1 ∧ k ≤ 2147483648 ∧ (k ≤ na ∨ k ≤ nb) ∧ Aside0 (BL w wr) ∧ Aside0 (kU.R 64 wr w.heap.size (fun _ => True) v5 acc) ∧ Aside0 (acc.length = k ∧ Wf acc ∧ nv acc + nv (b.take k) = nv (a.take k) + 2 ^ (64 * k) * cy)) (fun _ _ v7 _ => na + nb - (intOf v7).toNat)
  case atStart => exact ⟨0, 0, [], rfl, rfl, by omega, by omega, by omega, ⟨Below.refl _ _⟩, ⟨Kd.R_nil _ _ _ _ _⟩, ⟨rfl, .nil, by simp [nv]⟩⟩
  case round =>
   obtain ⟨k, cy, acc, rfl, rfl, hcy, hk, hkk, HBB, HO, HG⟩ := hrel
   by_cases hlt : k < na ∨ k < nb
   · obtain ⟨x, hx⟩ : ∃ x, x = wd a k := ⟨_, rfl⟩
     obtain ⟨y, hy⟩ : ∃ y, y = wd b k := ⟨_, rfl⟩
     have HX := yk hx
     have HY := yk hy
     have hx64 : x < 18446744073709551616 := by rw [hx]; exact wd_lt WA.out k
     have hy64 : y < 18446744073709551616 := by rw [hy]; exact wd_lt WB.out k
     clear hx hy
     have QA : ∀ m, BL w m → Calls Tryz.prog 94 #[.slice A na c, .int .i64 (k : Int)] m fun e w' => e = .returned (.int .u64 (x : Int)) ∧ ∃ n, w' = m.drewN n := fun m hm => by
      have h1 := HNA.out; subst h1
      exact word_is a A c k x _ rfl HX.out.symm _ (Kd.C_below HA.out hm) hc (by omega)
     have QB : ∀ m, BL w m → Calls Tryz.prog 94 #[.slice B nb d, .int .i64 (k : Int)] m fun e w' => e = .returned (.int .u64 (y : Int)) ∧ ∃ n, w' = m.drewN n := fun m hm => by
      have h1 := HNB.out; subst h1
      exact word_is b B d k y _ rfl HY.out.symm _ (Kd.C_below HB.out hm) hd (by omega)
     have QA' := yk QA
     have QB' := yk QB
     clear QA QB
     obtain ⟨s, c', hs1, hs2, hs3, hs4⟩ : ∃ s c' : Nat, s < 18446744073709551616 ∧ c' ≤ 1 ∧ s + y + cy = x + 18446744073709551616 * c' ∧ IntKind.u64.wrap (IntKind.u64.wrap ((x : Int) - y) - cy) = (s : Int) := by
      by_cases hq : y + cy ≤ x
      · exact ⟨x - y - cy, 0, by omega, by omega, by omega, by unfold IntKind.wrap; simp [IntKind.bits, IntKind.signed] <;> omega⟩
      · exact ⟨18446744073709551616 + x - y - cy, 1, by omega, by omega, by omega, by unfold IntKind.wrap; simp [IntKind.bits, IntKind.signed] <;> omega⟩
     have hs5 : IntKind.u64.wrap ((x : Int) - y - cy) = (s : Int) := by rw [← hs4]; unfold IntKind.wrap; simp [IntKind.bits, IntKind.signed]
     have HT := yk (show (a.take (k + 1)).length ≤ k + 1 from by rw [List.length_take]; omega)
     have HS := yk hs3
     have hcase : (c' = 1 ∧ x < y) ∨ (c' = 1 ∧ x = y ∧ cy = 1) ∨ (c' = 0 ∧ y < x) ∨ (c' = 0 ∧ x = y ∧ cy = 0) := by omega
     clear hs3
     rcases hcase with ⟨hc1, hq⟩ | ⟨hc1, hq, hq1⟩ | ⟨hc1, hq⟩ | ⟨hc1, hq, hq1⟩
     case' inl => have hf : ((x : Int) == (y : Int)) = false := by simp; omega
     case' inr.inl => have hf : ((x : Int) == (y : Int)) = true := by simp [hq]
     case' inr.inl => have hf2 : y ≤ x := by omega
     case' inr.inl => have hf3 : ((cy : Int) == 1) = true := by simp [hq1]
     case' inr.inl => have HQ := yk hq; clear hq hq1
     case' inr.inr.inl => have hf : ((x : Int) == (y : Int)) = false := by simp; omega
     case' inr.inr.inr => have hf : ((x : Int) == (y : Int)) = true := by simp [hq]
     case' inr.inr.inr => have hf2 : y ≤ x := by omega
     case' inr.inr.inr => have hf3 : ((cy : Int) == 1) = false := by simp [hq1]
     case' inr.inr.inr => have HQ := yk hq; clear hq hq1
     case' inr.inr.inl => have hs6 : ((x : Int) - y - cy) = (s : Int) := by have := HS.out; omega
     case' inr.inr.inr => have hs6 : ((x : Int) - y - cy) = (s : Int) := by have := HS.out; have := HQ.out; omega
     all_goals subst hc1
     all_goals
      go_wp2_with (first | (go_at_call 94; first | (with_reducible refine (QA'.out _ ?hB).mono ?_; (case hB => first | exact HBB.out | exact pw_below_drewN HBB.out _); rintro e w' ⟨rfl, n1, rfl⟩) | (with_reducible refine (QB'.out _ ?hB).mono ?_; (case hB => first | exact HBB.out | exact pw_below_drewN HBB.out _); rintro e w' ⟨rfl, n2, rfl⟩)) | ((with_reducible refine gate_builtin (b := .append) (xs := #[.tmp 43, .tmp 45]) rfl ?_); at_builtin; go_must (refine Kd.R_append kU (w0 := w) w.heap.size rfl (.tmp 43) (.tmp 45) 23 64 (.int .u64 0) 8 rfl Tryz.underlying23 info_word rfl (by decide) (by omega) u5 acc s [.int .u64 ((s : Nat) : Int)] (fun _ => True) (fun _ => False) rfl rfl ?aP (fun _ hk => hk.elim) ?aF ?aO ?aB ?aS ?aL ?_; (case aP => exact rfl); (case aF => exact fun _ _ => trivial); (case aO => exact Kd.R_drewN HO.out _); (case aB => exact pw_below_drewN HBB.out _); (case aS => exact (pw_below_drewN HBB.out _).size); (case aL => (have := HG.out.1; omega)); intro v_1 w_1 ho hb _ _; have HO' := yk ho; have HB' := yk hb; clear ho hb)))
      clear hs4
      go_roundw
      case rel => exact ⟨k + 1, _, acc ++ [s], rfl, by go_num, by omega, by omega, by omega, HB', HO', ⟨by simp [HG.out.1], HG.out.2.1.snoc hs1, by
       rw [nv_snoc, nv_take_succ, nv_take_succ, HG.out.1, ← HX.out, ← HY.out]
       exact sub_step HG.out.2.2 HS.out rfl⟩⟩
      case measure => simp [intOf]; omega
   · have HF := yk (show nv acc = nv a - nv b by
      have h1 := HNA.out
      have h2 := HNB.out
      have h3 := HG.out.2.2
      rw [nv_take_all (by omega), nv_take_all (by omega)] at h3
      have h4 := HAB.out
      have h5 := nv_lt HG.out.2.1
      rw [HG.out.1] at h5
      rcases (show cy = 0 ∨ cy = 1 by omega) with h | h
      · subst h; omega
      · subst h; omega)
     have HLEN := yk (show acc.length ≤ 4294967296 by have := HG.out.1; omega)
     go_wp2_with (go_at_call 89; go_must (obtain ⟨A1, c1, rfl, hc1, hC1⟩ := Kd.R_reads HO.out; refine (norm_any acc A1 c1 _ hC1 hc1 HG.out.2.1 HLEN.out).mono ?_; rintro e w1 ⟨v, rfl, ho, hb⟩; rw [HF.out] at ho; have HO2 := yk ho; have HB2 := yk hb; clear ho hb))
     go_ret
     exact ⟨_, rfl, Kd.R_lower HO2.out HBB.out.size, below_then HBB.out HBB.out.size HB2.out⟩
theorem shl_any (a : List Nat) (A : Option Addr) (na c n : Nat) (hna : a.length = na) (w : World) (ha : kU.C w A na a) (hc : na ≤ c) (wa : Wf a) (la : na ≤ 1073741824) (ln : n ≤ 68719476736) :
 Calls Tryz.prog 53 #[.slice A na c, .int .i64 (n : Int)] w fun e w' => ∃ v, e = .returned v ∧ kU.R 64 w' w.heap.size (fun _ => True) v (limbs (nv a * 2 ^ n)) ∧ BL w w' := by
 have HA := yk ha
 have WA := yk wa
 have HNA := yk hna
 obtain ⟨q, hq⟩ : ∃ q, q = n / 64 := ⟨_, rfl⟩
 obtain ⟨k, hk⟩ : ∃ k, k = n % 64 := ⟨_, rfl⟩
 have hdv : (n : Int).tdiv 64 = (q : Int) := by rw [Int.tdiv_eq_ediv_of_nonneg (by omega)]; omega
 have hmd : (n : Int).tmod 64 = (k : Int) := by rw [Int.tmod_eq_emod_of_nonneg (by omega)]; omega
 have hk63 : k ≤ 63 := by omega
 have hq30 : q ≤ 1073741824 := by omega
 have HNK := yk (show n = 64 * q + k by omega)
 clear ha wa hna hq hk
 go_enter Tryz.func53, Tryz.ntmps53
 go_wp2_with ((with_reducible refine gate_dst (N := 12) rfl ?_); go_must (refine Kd.R_make kU (w0 := w) w.heap.size 64 rfl rfl 23 (.tmp 11) (.tmp 11) rfl (q : Int) ?mx ?my Tryz.underlying23 (.int .u64 0) 8 info_word rfl (by decide) (by decide) 0 (ok := fun _ => True) (okp := fun _ => False) ?mz (fun _ h => h.elim) trivial (by omega) ?ml yr (Nat.le_refl _) ?_; (case mx => rfl); (case my => rfl); (case mz => rfl); (case ml => omega); intro v_3 w_3 ho hb hg hown; rw [Int.toNat_natCast] at ho; have HO := yk ho; have B3 := yk hb; clear ho hb hg hown))
 go_loopw [5, 7, 18] (fun v5 v7 v18 wr => ∃ (i cy : Nat) (acc : List Nat), v7 = .int .u64 cy ∧ v18 = .int .i64 i ∧ i ≤ na ∧ cy < 18446744073709551616 ∧ Aside0 (BL w wr) ∧ Aside0 (kU.R 64 wr w.heap.size (fun _ => True) v5 acc) ∧ Aside0 (acc.length = q + i ∧ Wf acc ∧ cy < 2 ^ k ∧ nv acc + 2 ^ (64 * (q + i)) * cy = 2 ^ (64 * q) * (2 ^ k * nv (a.take i)))) (fun _ _ v18 _ => na - (intOf v18).toNat)
 case atStart => exact ⟨0, 0, _, rfl, rfl, Nat.zero_le _, by omega, B3, HO, ⟨by simp, Wf.replicate _, Nat.two_pow_pos _, by rw [nv_replicate]; simp [nv]⟩⟩
 case round =>
  obtain ⟨i, cy, acc, rfl, rfl, hi, hcy, HBB, HO1, HG⟩ := hrel
  by_cases hlt : i < na
  · obtain ⟨ad, x, rfl, hx0, hcell⟩ := at_word (Kd.C_below HA.out HBB.out) HNA.out i hlt
    have HX := yk (wd_of hx0)
    have hx64 : x < 18446744073709551616 := WA.out.get hx0
    clear hx0
    obtain ⟨h1, h2, h3, h4⟩ := shl_word hx64 hk63 HG.out.2.2.1
    obtain ⟨s, hs⟩ : ∃ s, s = x * 2 ^ k % 2 ^ 64 := ⟨_, rfl⟩
    obtain ⟨t, ht⟩ : ∃ t, t = s + cy := ⟨_, rfl⟩
    obtain ⟨c', hc'⟩ : ∃ c', c' = x / 2 ^ (64 - k) := ⟨_, rfl⟩
    have hd := Nat.mod_add_div (x * 2 ^ k) (2 ^ 64)
    rw [← hs, h3, ← hc'] at hd
    rw [← hs] at h1 h2
    rw [← hc'] at h4
    have hs64 : s < 18446744073709551616 := by rw [hs]; exact Nat.mod_lt _ (by decide)
    have hsh : IntKind.u64.wrap ((x : Int) * 2 ^ k) = (s : Int) := by
     rw [hs]; unfold IntKind.wrap; simp [IntKind.bits, IntKind.signed]
    have hor : bits .or .u64 (s : Int) (cy : Int) = (t : Int) := by
     rw [bits_or_u64_nat s cy hs64 hcy, h1, ht]
    have HT := yk (show t + 2 ^ 64 * c' = x * 2 ^ k + cy by omega)
    have HC4 := yk h4
    have hc64 : c' < 18446744073709551616 := Nat.lt_of_lt_of_le h4 (Nat.pow_le_pow_right (by decide) (show k ≤ 64 by omega))
    have ht64 : t < 18446744073709551616 := by omega
    have hshr : (x : Int) / 2 ^ (64 - k) = (c' : Int) := by rw [hc']; simp
    have HC' := yk hc'
    clear h1 h2 h3 h4 hd hs ht hc'
    by_cases hk0 : k = 0
    · have hkn : k ≤ 0 := by omega
      have HK0 := yk hk0
      have HC0 := yk (show c' = 0 by have := HC4.out; rw [hk0] at this; omega)
      clear hk0
      go_wp2_with ((with_reducible refine gate_builtin (b := .append) (xs := #[.tmp 22, .tmp 28]) rfl ?_); at_builtin; go_must (refine Kd.R_append kU (w0 := w) w.heap.size rfl (.tmp 22) (.tmp 28) 23 64 (.int .u64 0) 8 rfl Tryz.underlying23 info_word rfl (by decide) (by omega) u5 acc t [.int .u64 ((t : Nat) : Int)] (fun _ => True) (fun _ => False) rfl rfl ?aP (fun _ hk => hk.elim) ?aF ?aO ?aB ?aS ?aL ?_; (case aP => exact rfl); (case aF => exact fun _ _ => trivial); (case aO => exact HO1.out); (case aB => exact HBB.out); (case aS => exact (HBB.out).size); (case aL => (have := HG.out.1; omega)); intro v_1 w_1 ho hb _ _; have HO' := yk ho; have HB' := yk hb; clear ho hb))
      go_roundw
      case rel => exact ⟨i + 1, 0, acc ++ [t], rfl, by go_num, by omega, by omega, HB', HO', ⟨by simp [HG.out.1]; omega, HG.out.2.1.snoc ht64, Nat.two_pow_pos _, by
       rw [nv_snoc, nv_take_succ, HG.out.1, HX.out]
       exact shl_step HG.out.2.2.2 (by have := HT.out; rw [HC0.out] at this; exact this) rfl⟩⟩
      case measure => simp [intOf]; omega
    · have hkp : 0 < k := by omega
      go_wp2_with ((with_reducible refine gate_builtin (b := .append) (xs := #[.tmp 22, .tmp 28]) rfl ?_); at_builtin; go_must (refine Kd.R_append kU (w0 := w) w.heap.size rfl (.tmp 22) (.tmp 28) 23 64 (.int .u64 0) 8 rfl Tryz.underlying23 info_word rfl (by decide) (by omega) u5 acc t [.int .u64 ((t : Nat) : Int)] (fun _ => True) (fun _ => False) rfl rfl ?aP (fun _ hk => hk.elim) ?aF ?aO ?aB ?aS ?aL ?_; (case aP => exact rfl); (case aF => exact fun _ _ => trivial); (case aO => exact HO1.out); (case aB => exact HBB.out); (case aS => exact (HBB.out).size); (case aL => (have := HG.out.1; omega)); intro v_1 w_1 ho hb _ _; have HO' := yk ho; have HB' := yk hb; clear ho hb))
      go_roundw
      case rel => exact ⟨i + 1, c', acc ++ [t], rfl, by go_num, by omega, by omega, HB', HO', ⟨by simp [HG.out.1]; omega, HG.out.2.1.snoc ht64, HC4.out, by
       rw [nv_snoc, nv_take_succ, HG.out.1, HX.out]
       exact shl_step HG.out.2.2.2 HT.out rfl⟩⟩
      case measure => simp [intOf]; omega
  · obtain rfl : i = na := by omega
    have HF := yk (show nv (acc ++ [cy]) = nv a * 2 ^ n by
     have h3 := HG.out.2.2.2
     rw [nv_take_all (by rw [HNA.out]; omega)] at h3
     rw [nv_snoc, HG.out.1, h3, HNK.out, Nat.pow_add]
     grind)
    have HV := yk (show Wf (acc ++ [cy]) from HG.out.2.1.snoc hcy)
    have HLEN := yk (show (acc ++ [cy]).length ≤ 4294967296 by have := HG.out.1; simp; omega)
    go_wp2_with (first | ((with_reducible refine gate_builtin (b := .append) (xs := #[.tmp 37, .tmp 39]) rfl ?_); at_builtin; go_must (refine Kd.R_append kU (w0 := w) w.heap.size rfl (.tmp 37) (.tmp 39) 23 64 (.int .u64 0) 8 rfl Tryz.underlying23 info_word rfl (by decide) (by omega) u5 acc cy [.int .u64 ((cy : Nat) : Int)] (fun _ => True) (fun _ => False) rfl rfl ?aP (fun _ hk => hk.elim) ?aF ?aO ?aB ?aS ?aL ?_; (case aP => exact rfl); (case aF => exact fun _ _ => trivial); (case aO => exact HO1.out); (case aB => exact HBB.out); (case aS => exact (HBB.out).size); (case aL => (have := HG.out.1; omega)); intro v_1 w_1 ho hb _ _; have HO' := yk ho; have HB' := yk hb; clear ho hb)) | (go_at_call 89; go_must (obtain ⟨A1, c1, rfl, hc1, hC1⟩ := Kd.R_reads HO'.out; refine (norm_any (acc ++ [cy]) A1 c1 _ hC1 hc1 HV.out HLEN.out).mono ?_; rintro e w1 ⟨v, rfl, ho, hb⟩; rw [HF.out] at ho; have HO2 := yk ho; have HB2 := yk hb; clear ho hb)))
    go_ret
    exact ⟨_, rfl, Kd.R_lower HO2.out HB'.out.size, below_then HB'.out HB'.out.size HB2.out⟩
theorem plus_dy (u v : Value) (y z e : Int) (w : World) (h : CDy w u y e) (h' : CDy w v z e) (hl : (limbs (cman y)).length ≤ 268435456) (hl' : (limbs (cman z)).length ≤ 268435456) (le1 : -8589934592 ≤ cexp y e) (le2 : cexp y e ≤ 8589934592) (le1' : -8589934592 ≤ cexp z e) (le2' : cexp z e ≤ 8589934592) :
 Calls Tryz.prog 27 #[u, v] w fun en w' => ∃ v', en = .returned v' ∧ RDy w' w.heap.size v' (y + z) e ∧ BL w w' := by
 have Q1 := yk (fun (m : World) (hm : BL w m) => one_dy u y e m (h.below hm) (by omega) (by omega) (by omega))
 have Q2 := yk (fun (m : World) (hm : BL w m) => one_dy v z e m (h'.below hm) (by omega) (by omega) (by omega))
 obtain ⟨A, n, c, rfl, hC, hn, hc⟩ := h
 obtain ⟨A', n', c', rfl, hC', hn', hc'⟩ := h'
 obtain ⟨x0, hx0⟩ : ∃ x, x = cexp y e := ⟨_, rfl⟩
 obtain ⟨x1, hx1⟩ : ∃ x, x = cexp z e := ⟨_, rfl⟩
 obtain ⟨b0, hb0⟩ : ∃ x, x = cneg y := ⟨_, rfl⟩
 obtain ⟨b1, hb1⟩ : ∃ x, x = cneg z := ⟨_, rfl⟩
 rw [← hx0, ← hb0] at Q1
 rw [← hx1, ← hb1] at Q2
 rw [← hx0, ← hb0, ← hx1, ← hb1]
 obtain ⟨W0, hW0⟩ : ∃ W0, W0 = ((w.alloc (.cells #[.bool b0, .slice A n c, .int .i64 x0] 25)).alloc (.cells #[.bool b1, .slice A' n' c', .int .i64 x1] 25)).alloc (.cells #[.bool false, .slice none 0 0, .int .i64 0] 25) := ⟨_, rfl⟩
 have hh0 : Aside0 (W0.heap[w.heap.size]? = some (.cells #[.bool b0, .slice A n c, .int .i64 x0] 25 (0, 0))) := ⟨by rw [hW0]; exact blk_alloc (blk_alloc (blk_new _ _) _) _⟩
 have hh1 : Aside0 (W0.heap[w.heap.size + 1]? = some (.cells #[.bool b1, .slice A' n' c', .int .i64 x1] 25 (0, 0))) := ⟨by rw [hW0]; have := blk_new (w.alloc (.cells #[.bool b0, .slice A n c, .int .i64 x0] 25)) (.cells #[.bool b1, .slice A' n' c', .int .i64 x1] 25); rw [size_alloc'] at this; exact blk_alloc this _⟩
 have hh2 : Aside0 (W0.heap[w.heap.size + 1 + 1]? = some (.cells #[.bool false, .slice none 0 0, .int .i64 0] 25 (0, 0))) := ⟨by rw [hW0]; have := blk_new ((w.alloc (.cells #[.bool b0, .slice A n c, .int .i64 x0] 25)).alloc (.cells #[.bool b1, .slice A' n' c', .int .i64 x1] 25)) (.cells #[.bool false, .slice none 0 0, .int .i64 0] 25); rw [size_alloc', size_alloc'] at this; exact this⟩
 have HW : Aside0 (BL w W0) := ⟨by rw [hW0]; exact below_alloc (below_alloc (below_alloc yr _) _) _⟩
 have HE := yk (ya hx0 (ya hx1 (ya hb0 hb1)))
 clear hC hC' hx0 hx1 hb0 hb1
 go_enter Tryz.func27, Tryz.ntmps27
 go_upto_region 1 with fail
 rw [← hW0]
 clear hW0
 go_cut [5, 6] (fun v5 v6 wx => Aside0 (∃ v7 v8 v9 v10 L, (∀ i, i < 8 → L.getD i false = true) ∧ OO W0 (.agg #[.bool b0, .slice A n c, .int .i64 x0]) (.agg #[.bool b1, .slice A' n' c', .int .i64 x1]) y e z e L wx v5 v6 v7 v8 v9 v10))
 case first =>
  rename_i QQ KC aC J K1 aJ aM
  clear aC
  refine wp_region_inv (by kernel_rfl) (by kernel_rfl) (fun L a W => ∃ v5 v6 v7 v8 v9 v10, a = { tmps := #[.agg #[.bool b0, .slice A n c, .int .i64 x0], .agg #[.bool b1, .slice A' n' c', .int .i64 x1], .pointer (some ⟨w.heap.size, 0, none⟩), .pointer (some ⟨w.heap.size + 1, 0, none⟩), .pointer (some ⟨w.heap.size + 1 + 1, 0, none⟩), v5, v6, undef, undef, undef, v7, v8, v9, v10, undef, undef, undef, undef, undef, undef, undef, undef, undef, undef, undef, undef, undef, undef, undef, undef, undef, undef, undef, undef, undef, undef, undef, undef, undef, undef, undef, undef, undef, undef, undef, undef, undef, undef, undef, undef, undef, undef, undef, undef, undef, undef, undef, undef, undef, undef, undef, undef, undef, undef, undef, undef, undef, undef, undef, undef, undef, undef, undef, undef, undef], defers := [] } ∧ OO W0 (.agg #[.bool b0, .slice A n c, .int .i64 x0]) (.agg #[.bool b1, .slice A' n' c', .int .i64 x1]) y e z e L W v5 v6 v7 v8 v9 v10) ?h0 ?hstep ?hend
  case h0 =>
   refine ⟨undef, undef, undef, undef, undef, undef, rfl, ⟨below_drew yr, ?_, ?_, ?_, ?_, ?_, ?_, ?_, ?_, ?_, rfl⟩⟩ <;> intro h <;> cases h
  case hstep =>
   intro i o ho L a W hs hl haft hI K hK
   obtain ⟨v5, v6, v7, v8, v9, v10, rfl, hO⟩ := hI
   rcases i with _ | _ | _ | _ | _ | _ | _ | _ | i
   all_goals first
    | (cases ho; done)
    | (obtain rfl := (Option.some.inj ho).symm
       clear ho
       rw [if_pos (by rfl)]
       simp only [List.getElem_toArray, List.getElem_cons_zero, List.getElem_cons_succ, Nat.reduceAdd] at haft hl hK ⊢)
   case zero =>
    obtain ⟨c0, _⟩ := box_cell (yb hh0.out hO.below) 0 rfl
    obtain ⟨c1, _⟩ := box_cell (yb hh0.out hO.below) 1 rfl
    obtain ⟨c2, _⟩ := box_cell (yb hh0.out hO.below) 2 rfl
    go_simp
    exact hK.out _ _ ⟨_, _, _, _, _, _, rfl, hO.load0⟩
   case succ.succ.zero =>
    obtain ⟨c0, _⟩ := box_cell (yb hh1.out hO.below) 0 rfl
    obtain ⟨c1, _⟩ := box_cell (yb hh1.out hO.below) 1 rfl
    obtain ⟨c2, _⟩ := box_cell (yb hh1.out hO.below) 2 rfl
    go_simp
    exact hK.out _ _ ⟨_, _, _, _, _, _, rfl, hO.load2⟩
   case succ.zero =>
    simp [Region.binds] at haft
    obtain rfl := hO.l0 (by simpa [Array.getD_eq_getD_getElem?] using haft)
    have hB := below_then HW.out HW.out.size hO.below
    go_simp
    go_at_call 44
    refine (Q1.out _ hB).mono ?_
    rintro en w1 ⟨v1, rfl, hr, hb⟩
    exact hK.out _ _ ⟨_, _, _, _, _, _, rfl, hO.call1 (not_listed hl) hr hb⟩
   case succ.succ.succ.zero =>
    simp [Region.binds] at haft
    obtain rfl := hO.l2 (by simpa [Array.getD_eq_getD_getElem?] using haft.1)
    have hB := below_then HW.out HW.out.size hO.below
    go_simp
    go_at_call 44
    refine (Q2.out _ hB).mono ?_
    rintro en w1 ⟨v1, rfl, hr, hb⟩
    exact hK.out _ _ ⟨_, _, _, _, _, _, rfl, hO.call3 (not_listed hl) hr hb⟩
   case succ.succ.succ.succ.zero =>
    go_simp
    exact hK.out _ _ ⟨_, _, _, _, _, _, rfl, hO.alloc4 (not_listed hl) rfl⟩
   case succ.succ.succ.succ.succ.zero =>
    go_simp
    exact hK.out _ _ ⟨_, _, _, _, _, _, rfl, hO.alloc5 (not_listed hl) rfl⟩
   case succ.succ.succ.succ.succ.succ.zero =>
    simp [Region.binds] at haft
    have h4 : L.getD 4 false = true := by simpa [Array.getD_eq_getD_getElem?] using haft.1
    have h1 : L.getD 1 false = true := by simpa [Array.getD_eq_getD_getElem?] using haft.2.1
    obtain ⟨g, cs, rfl, hgw, hh, hcs⟩ := store_at (hO.l4 h4)
    obtain ⟨A1, m1, c1, rfl, _⟩ := id (hO.l1 h1)
    refine wp_store_box 25 5 (.tmp 11) rfl rfl (g := g) (e := 25) (.agg #[.bool (cneg y), .slice A1 m1 c1, .int .i64 (cexp y e)]) [.bool (cneg y), .slice A1 m1 c1, .int .i64 (cexp y e)] rfl rfl rfl info_dyad ?_ hh hcs ?_
    · intro q hq; simp at hq; rcases hq with rfl | rfl | rfl <;> rfl
    · intro w1 hw1 hg1
      exact hK.out _ _ ⟨_, _, _, _, _, _, rfl, OO.store6 h1 h4 hO rfl h4 hh hgw hw1 rfl rfl hg1⟩
   case succ.succ.succ.succ.succ.succ.succ.zero =>
    simp [Region.binds] at haft
    have h4 : L.getD 5 false = true := by simpa [Array.getD_eq_getD_getElem?] using haft.1
    have h1 : L.getD 3 false = true := by simpa [Array.getD_eq_getD_getElem?] using haft.2.1
    obtain ⟨g, cs, rfl, hgw, hh, hcs⟩ := store_at (hO.l5 h4)
    obtain ⟨A1, m1, c1, rfl, _⟩ := id (hO.l3 h1)
    refine wp_store_box 25 6 (.tmp 13) rfl rfl (g := g) (e := 25) (.agg #[.bool (cneg z), .slice A1 m1 c1, .int .i64 (cexp z e)]) [.bool (cneg z), .slice A1 m1 c1, .int .i64 (cexp z e)] rfl rfl rfl info_dyad ?_ hh hcs ?_
    · intro q hq; simp at hq; rcases hq with rfl | rfl | rfl <;> rfl
    · intro w1 hw1 hg1
      exact hK.out _ _ ⟨_, _, _, _, _, _, rfl, OO.store7 h1 h4 hO rfl h4 hh hgw hw1 rfl rfl hg1⟩
  case hend =>
   intro L a W hall hI
   obtain ⟨v5, v6, v7, v8, v9, v10, rfl, hO⟩ := hI
   refine aM _ _ (Met.intro (aJ _ _ ?_))
   repeat apply Exists.intro
   exact ⟨⟨v7, v8, v9, v10, L, hall, hO⟩, rfl⟩
 case rest =>
  obtain ⟨v7, v8, v9, v10, L, hall, hO⟩ := hcut.out
  obtain ⟨g5, g6, A1, n1, c1, A2, n2, c2, rfl, rfl, h5, h6, r1, r2, hB, hg5, hg6⟩ := hO.done hall
  obtain ⟨d0, _⟩ := box_cell (v := .bool (cneg y)) h5 0 rfl
  obtain ⟨d1, _⟩ := box_cell (v := .slice A1 n1 c1) h5 1 rfl
  obtain ⟨d2, _⟩ := box_cell (v := .int .i64 (cexp y e)) h5 2 rfl
  obtain ⟨f0, _⟩ := box_cell (v := .bool (cneg z)) h6 0 rfl
  obtain ⟨f1, _⟩ := box_cell (v := .slice A2 n2 c2) h6 1 rfl
  obtain ⟨f2, _⟩ := box_cell (v := .int .i64 (cexp z e)) h6 2 rfl
  have HB := yk hB
  have H5 := yk h5
  have H6 := yk h6
  have R1 := yk r1
  have R2 := yk r2
  have N1 := yk (Kd.R_reads' r1).1
  have N2 := yk (Kd.R_reads' r2).1
  have HRES := yk (yb hh2.out hB)
  have hsz : w.heap.size + 3 ≤ W0.heap.size := by have := blk_lt hh2.out; omega
  have BW := yk (below_then HW.out HW.out.size hB)
  clear hcut hO hB h5 h6 r1 r2 hall
  by_cases hy : y = 0
  · have hn1 : n1 = 0 := by rw [N1.out, hy, cman_zero, limbs_zero]; rfl
    subst hn1
    go_wp2_with ((with_reducible refine gate_store (p := 4) rfl ?_); go_must (refine sdy 4 (.tmp 18) rfl rfl rfl rfl rfl HRES.out rfl ?_; intro wb HX HG))
    refine bodyPost_ret (results_dyad rfl _ _ (w.heap.size + 1 + 1) _ rfl HX.out rfl) rfl ?_
    refine ⟨_, rfl, ?_, BW.out.grown HG.out BW.out.size (fun k hk => by cases hk; omega)⟩
    rw [hy, Int.zero_add]
    exact RDy.lower (RDy.typed ⟨A2, n2, c2, rfl, R2.out⟩ HRES.out HG.out) HW.out.size
  · have hn1 : n1 ≠ 0 := by rw [N1.out]; exact fun h => hy (cman_eq_zero.1 (limbs_eq_nil.1 (List.length_eq_zero_iff.1 h)))
    have hn1' : ((n1 : Int) == 0) = false := by simp; omega
    by_cases hz : z = 0
    · have hn2 : n2 = 0 := by rw [N2.out, hz, cman_zero, limbs_zero]; rfl
      subst hn2
      go_wp2_with ((with_reducible refine gate_store (p := 4) rfl ?_); go_must (refine sdy 4 (.tmp 23) rfl rfl rfl rfl rfl HRES.out rfl ?_; intro wb HX HG))
      refine bodyPost_ret (results_dyad rfl _ _ (w.heap.size + 1 + 1) _ rfl HX.out rfl) rfl ?_
      refine ⟨_, rfl, ?_, BW.out.grown HG.out BW.out.size (fun k hk => by cases hk; omega)⟩
      rw [hz, Int.add_zero]
      exact RDy.lower (RDy.typed ⟨A1, n1, c1, rfl, R1.out⟩ HRES.out HG.out) HW.out.size
    · have hn2 : n2 ≠ 0 := by rw [N2.out]; exact fun h => hz (cman_eq_zero.1 (limbs_eq_nil.1 (List.length_eq_zero_iff.1 h)))
      have hn2' : ((n2 : Int) == 0) = false := by simp; omega
      obtain ⟨xy, hxy⟩ : ∃ x, x = cexp y e := ⟨_, rfl⟩
      obtain ⟨xz, hxz⟩ : ∃ x, x = cexp z e := ⟨_, rfl⟩
      have HXY := yk hxy
      have HXZ := yk hxz
      rw [← hxy] at le1 le2 d2 H5
      rw [← hxz] at le1' le2' f2 H6
      clear hxy hxz
      go_upto_region 6 with fail
      obtain ⟨W1, rfl⟩ : ∃ W1, W1 = wc := ⟨_, rfl⟩
      go_cut [7] (fun v7 wx => ∃ E : Int, v7 = .int .i64 E ∧ E ≤ xy ∧ E ≤ xz ∧ (E = xy ∨ E = xz) ∧ wx = W1)
      case first =>
       rcases Int.le_total xy xz with hle | hle
       all_goals go_wp2_with fail
       all_goals
        go_meet
        case rel => first | exact ⟨xy, by first | rfl | rw [Int.min_eq_left hle], by omega, by omega, .inl rfl, rfl⟩ | exact ⟨xz, by first | rfl | rw [Int.min_eq_right hle], by omega, by omega, .inr rfl, rfl⟩
      case rest =>
      obtain ⟨E, rfl, hE1, hE2, hE3, hWX⟩ := hcut
      subst hWX
      obtain ⟨ky, hky⟩ : ∃ k : Nat, xy - E = (k : Int) := ⟨(xy - E).toNat, by omega⟩
      obtain ⟨kz, hkz⟩ : ∃ k : Nat, xz - E = (k : Int) := ⟨(xz - E).toNat, by omega⟩
      have hky2 : ky ≤ 17179869184 := by omega
      have hkz2 : kz ≤ 17179869184 := by omega
      have hk0 : ky = 0 ∨ kz = 0 := by omega
      have q1 := Kd.R_reads' R1.out
      have q2 := Kd.R_reads' R2.out
      have QA := yk (fun (m : World) (hm : BL wc m) => shl_any (limbs (cman y)) A1 n1 c1 ky q1.1.symm m (Kd.C_below (by rw [q1.1]; exact q1.2.2) hm) q1.2.1 (wf_limbs _) (by omega) (by omega))
      have QB := yk (fun (m : World) (hm : BL wc m) => shl_any (limbs (cman z)) A2 n2 c2 kz q2.1.symm m (Kd.C_below (by rw [q2.1]; exact q2.2.2) hm) q2.2.1 (wf_limbs _) (by omega) (by omega))
      rw [nv_limbs] at QA QB
      obtain ⟨my, hmy⟩ : ∃ m, m = cman y * 2 ^ ky := ⟨_, rfl⟩
      obtain ⟨mz, hmz⟩ : ∃ m, m = cman z * 2 ^ kz := ⟨_, rfl⟩
      rw [← hmy] at QA
      rw [← hmz] at QB
      have HMY := yk hmy
      have HMZ := yk hmz
      have ly : (limbs my).length ≤ 536870920 := by
       refine Nat.le_trans (limbs_len_le (k := (limbs (cman y)).length + (ky / 64 + 1)) ?_) (by omega)
       have h1 := nv_lt (wf_limbs (cman y))
       rw [nv_limbs] at h1
       rw [hmy, Nat.mul_add, Nat.pow_add]
       exact Nat.mul_lt_mul'' h1 (Nat.pow_lt_pow_right (by decide) (by omega))
      have lz : (limbs mz).length ≤ 536870920 := by
       refine Nat.le_trans (limbs_len_le (k := (limbs (cman z)).length + (kz / 64 + 1)) ?_) (by omega)
       have h1 := nv_lt (wf_limbs (cman z))
       rw [nv_limbs] at h1
       rw [hmz, Nat.mul_add, Nat.pow_add]
       exact Nat.mul_lt_mul'' h1 (Nat.pow_lt_pow_right (by decide) (by omega))
      clear q1 q2 hmy hmz
      go_upto_region 9 with (first
       | (go_at_call 53; with_reducible refine (QA.out _ yr).mono ?_; rintro en w2 ⟨q, rfl, hr, hb⟩; obtain ⟨A3, c3, rfl, hc3, hC3⟩ := Kd.R_reads hr; have R3 := yk hr; have B2 := yk hb; obtain ⟨f0_2, _⟩ := box_cell (v := .bool (cneg z)) (yb H6.out hb) 0 rfl; obtain ⟨f1_2, _⟩ := box_cell (v := .slice A2 n2 c2) (yb H6.out hb) 1 rfl; obtain ⟨f2_2, _⟩ := box_cell (v := .int .i64 xz) (yb H6.out hb) 2 rfl; clear hr hb hC3)
       | (go_at_call 53; with_reducible refine (QB.out _ B2.out).mono ?_; rintro en w3 ⟨q, rfl, hr, hb⟩; obtain ⟨A4, c4, rfl, hc4, hC4⟩ := Kd.R_reads hr; have R4 := yk hr; have B3 := yk (below_then B2.out B2.out.size hb); have R3' := yk (Kd.R_below R3.out hb); obtain ⟨d0_3, _⟩ := box_cell (v := .bool (cneg y)) (yb (yb H5.out B2.out) hb) 0 rfl; obtain ⟨f0_3, _⟩ := box_cell (v := .bool (cneg z)) (yb (yb H6.out B2.out) hb) 0 rfl; clear hr hb hC4))
      have HRES3 := yk (yb HRES.out B3.out)
      have BW3 := yk (below_then BW.out BW.out.size B3.out)
      have BS3 : W0.heap.size ≤ w3.heap.size := Nat.le_trans HB.out.size B3.out.size
      have R3' := yk (Kd.R_lower R3'.out HB.out.size)
      have R4 := yk (Kd.R_lower R4.out (Nat.le_trans HB.out.size B2.out.size))
      obtain ⟨j0, hj0, hfy, hfz⟩ := plus_form (e := e) (E := E) (ky := ky) (kz := kz) hy hz (by rw [← HXY.out]; exact hky) (by rw [← HXZ.out]; exact hkz) hk0
      rw [← HMY.out] at hfy
      rw [← HMZ.out] at hfz
      have HJ := yk (ya hj0 (ya hfy hfz))
      clear hj0 hfy hfz hky hkz
      by_cases hs : cneg y = cneg z
      · have hs' : (cneg y == cneg z) = true := by simp [hs]
        have HS := yk hs
        have hlen : (limbs (my + mz)).length ≤ 1073741824 := by
         refine Nat.le_trans (limbs_len_le (k := max (limbs my).length (limbs mz).length + 1) ?_) (by omega)
         have h1 := nv_lt (wf_limbs my)
         have h2 := nv_lt (wf_limbs mz)
         rw [nv_limbs] at h1 h2
         have h3 : 2 ^ (64 * (limbs my).length) ≤ 2 ^ (64 * max (limbs my).length (limbs mz).length) := Nat.pow_le_pow_right (by decide) (by omega)
         have h4 : 2 ^ (64 * (limbs mz).length) ≤ 2 ^ (64 * max (limbs my).length (limbs mz).length) := Nat.pow_le_pow_right (by decide) (by omega)
         rw [pw]
         omega
        clear hs
        have FIN : ∀ {W : World} {cs : Array Value}, RDy W W0.heap.size (.agg cs) (sgn (cneg y) (my + mz)) E → RDy W W0.heap.size (.agg cs) (y + z) e := by
         intro W cs h
         obtain ⟨q1, q2, q3⟩ := HJ.out
         rw [q1] at h
         have := RDy.scale j0 h
         rw [sgn_add, Int.add_mul, ← q2] at this
         have q4 : sgn (cneg y) mz * 2 ^ j0 = z := by rw [HS.out]; exact q3.symm
         rw [q4] at this
         exact this
        go_upto_region 10 with fail
        have hng : w.heap.size + 1 + 1 ≠ g5 := by omega
        refine wp_region_slots [49, 50, 51, 52, 53, 54, 55] (by kernel_rfl) (by kernel_rfl)
         (F := fun j q W => match j with | 0 => q = .pointer (some ⟨g5, 0, none⟩) | 1 => q = .bool (cneg y) | 2 => q = .slice A3 (limbs my).length c3 | 3 => q = .slice A4 (limbs mz).length c4 | 5 => q = .int .i64 E | 4 => kU.R 64 W W0.heap.size (fun _ => True) q (limbs (my + mz)) | 6 => RDy W W0.heap.size q (sgn (cneg y) (my + mz)) E | 7 => ∃ cs, W.heap[w.heap.size + 1 + 1]? = some (.cells cs 25 (0, 0)) ∧ cs.size = 3 ∧ RDy W W0.heap.size (.agg cs) (sgn (cneg y) (my + mz)) E | _ => True)
         (J := fun W => W.heap[g5]? = some (.cells #[.bool (cneg y), .slice A1 n1 c1, .int .i64 xy] 25 (0, 0)) ∧ (∃ cs, W.heap[w.heap.size + 1 + 1]? = some (.cells cs 25 (0, 0)) ∧ cs.size = 3) ∧ kU.R 64 W W0.heap.size (fun _ => True) (.slice A3 (limbs my).length c3) (limbs my) ∧ kU.R 64 W W0.heap.size (fun _ => True) (.slice A4 (limbs mz).length c4) (limbs mz) ∧ BL w W ∧ W0.heap.size ≤ W.heap.size)
         ?hJ ?hstep ?hend
        case hJ => exact ⟨blk_drew (yb H5.out B3.out), ⟨_, blk_drew HRES3.out, rfl⟩, Kd.R_drew R3'.out, Kd.R_drew R4.out, below_drew BW3.out, BS3⟩
        case hstep =>
         intro k o ho v W L hJW hF hnk haft K hK
         obtain ⟨hg, ⟨cs0, hres, hcs0⟩, r3, r4, hB, hSZ⟩ := id hJW
         rcases k with _ | _ | _ | _ | _ | _ | _ | _ | k
         all_goals first
          | (cases ho; done)
          | (obtain rfl := (Option.some.inj ho).symm
             clear ho
             rw [if_pos (by rfl)]
             simp only [setAll, List.setIfInBounds_toArray, List.set_cons_zero, List.set_cons_succ, List.getElem_toArray, List.getElem_cons_zero, List.getElem_cons_succ, Nat.reduceAdd] at haft hF hK ⊢)
         ·
          have key := hK.out (.pointer (some ⟨g5, 0, none⟩)) W hJW (fun _ _ h => h) rfl
          go_simp
          simpa [upd] using key
         ·
          have f0 : v 0 = .pointer (some ⟨g5, 0, none⟩) := hF 0 (haft ⟨0, .data⟩ (by simp) rfl)
          have cc := (box_cell (v := .bool (cneg y)) hg 0 rfl).1
          have key := hK.out (.bool (cneg y)) W hJW (fun _ _ h => h) rfl
          go_simp
          simpa [upd, f0] using key
         ·
          have key := hK.out (.slice A3 (limbs my).length c3) W hJW (fun _ _ h => h) rfl
          go_simp
          simpa [upd] using key
         ·
          have key := hK.out (.slice A4 (limbs mz).length c4) W hJW (fun _ _ h => h) rfl
          go_simp
          simpa [upd] using key
         ·
          have f2 : v 2 = .slice A3 (limbs my).length c3 := hF 2 (haft ⟨2, .data⟩ (by simp) rfl)
          have f3 : v 3 = .slice A4 (limbs mz).length c4 := hF 3 (haft ⟨3, .data⟩ (by simp) rfl)
          obtain ⟨e1, e2, e3⟩ := Kd.R_reads' r3
          obtain ⟨e1', e2', e3'⟩ := Kd.R_reads' r4
          have hm := add_any (limbs my) (limbs mz) A3 A4 (limbs my).length (limbs mz).length c3 c4 rfl rfl W e3 e3' e2 e2' (wf_limbs _) (wf_limbs _) (by omega) (by omega)
          simp only [nv_limbs] at hm
          clear e1 e2 e3 e1' e2' e3'
          go_simp
          go_at_call 54
          refine hm.mono ?_
          rintro en w4 ⟨v1, rfl, hr, hb⟩
          have key := hK.out v1 w4 ⟨yb hg hb, ⟨_, yb hres hb, hcs0⟩, Kd.R_below r3 hb, Kd.R_below r4 hb, below_then hB hB.size hb, Nat.le_trans hSZ hb.size⟩ ?m10a (Kd.R_lower hr hSZ)
          · simpa [upd, f2, f3] using key
          intro j hj hf
          rcases j with _ | _ | _ | _ | _ | _ | _ | _ | j <;> first | exact hf | exact Kd.R_below hf hb | exact RDy.below hf hb | exact (let ⟨cs, p1, p2, p3⟩ := hf; ⟨cs, yb p1 hb, p2, p3.below hb⟩)
         ·
          have key := hK.out (.int .i64 E) W hJW (fun _ _ h => h) rfl
          go_simp
          simpa [upd] using key
         ·
          have f1 : v 1 = .bool (cneg y) := hF 1 (haft ⟨1, .data⟩ (by simp) rfl)
          have f4 : kU.R 64 W W0.heap.size (fun _ => True) (v 4) (limbs (my + mz)) := hF 4 (haft ⟨4, .data⟩ (by simp) rfl)
          have f5 : v 5 = .int .i64 E := hF 5 (haft ⟨5, .data⟩ (by simp) rfl)
          obtain ⟨A5, c5, f4', hc5, hC5⟩ := Kd.R_reads f4
          have hm := form_any (cneg y) (limbs (my + mz)) A5 _ c5 E rfl W hC5 hc5 (wf_limbs _) (by exact hlen) (by omega) (by omega)
          rw [nv_limbs] at hm
          clear f4
          go_simp
          go_at_call 46
          refine hm.mono ?_
          rintro en w4 ⟨v1, rfl, hr, hb⟩
          have key := hK.out v1 w4 ⟨yb hg hb, ⟨_, yb hres hb, hcs0⟩, Kd.R_below r3 hb, Kd.R_below r4 hb, below_then hB hB.size hb, Nat.le_trans hSZ hb.size⟩ ?m10b (hr.lower hSZ)
          · simpa [upd, f1, f4', f5] using key
          intro j hj hf
          rcases j with _ | _ | _ | _ | _ | _ | _ | _ | j <;> first | exact hf | exact Kd.R_below hf hb | exact RDy.below hf hb | exact (let ⟨cs, p1, p2, p3⟩ := hf; ⟨cs, yb p1 hb, p2, p3.below hb⟩)
         ·
          have f6 : RDy W W0.heap.size (v 6) (sgn (cneg y) (my + mz)) E := hF 6 (haft ⟨6, .data⟩ (by simp) rfl)
          obtain ⟨A5, m5, c5, f6', hr5⟩ := id f6
          refine wp_store_box 25 4 (.tmp 55) rfl rfl (g := w.heap.size + 1 + 1) (e := 25) (v 6) [.bool (cneg (sgn (cneg y) (my + mz))), .slice A5 m5 c5, .int .i64 (cexp (sgn (cneg y) (my + mz)) E)] rfl rfl (by rw [f6']; rfl) info_dyad ?_ hres hcs0 ?_
          · intro q hq; simp at hq; rcases hq with rfl | rfl | rfl <;> rfl
          · intro w4 hw4 hg4
            have hnew := f6.typed hres hg4
            rw [f6'] at hnew
            have key := hK.out undef w4 ⟨(hg4.block g5 (blk_lt hg) (fun he => by cases he; omega)).trans hg, ⟨_, hw4, rfl⟩, row_typed r3 hres hg4, row_typed r4 hres hg4, hB.grown hg4 hB.size (fun k hk => by cases hk; omega), Nat.le_trans hSZ hg4.size⟩ ?m10c ⟨_, hw4, rfl, hnew⟩
            · simpa [upd] using key
            intro j hj hf
            rcases j with _ | _ | _ | _ | _ | _ | _ | _ | j <;> first | exact absurd hj hnk | exact hf | exact row_typed hf hres hg4 | exact RDy.typed hf hres hg4
        case hend =>
         intro v W hJW hF
         obtain ⟨_, _, _, _, hB, hSZ⟩ := hJW
         obtain ⟨cs, p1, p2, p3⟩ := hF 7 (by decide)
         simp only [setAll, List.setIfInBounds_toArray, List.set_cons_zero, List.set_cons_succ]
         go_wp2
         refine bodyPost_ret (results_dyad rfl _ _ (w.heap.size + 1 + 1) _ rfl p1 p2) rfl ?_
         refine ⟨_, rfl, RDy.lower ?_ HW.out.size, hB⟩
         exact FIN p3
      · have hs' : (cneg y == cneg z) = false := by simp [hs]
        have HS := yk hs
        clear hs
        have ra := Kd.R_reads' R3'.out
        have rb := Kd.R_reads' R4.out
        have QC := yk (fun (m : World) (hm : BL w3 m) => cmp_any (limbs my) (limbs mz) A3 A4 c3 c4 m (Kd.C_below ra.2.2 hm) (Kd.C_below rb.2.2 hm) ra.2.1 rb.2.1 (wf_limbs _) (wf_limbs _) (by omega) (by omega))
        simp only [nv_limbs] at QC
        clear ra rb
        by_cases hmm : my < mz
        · have HC := yk (show cmpN my mz = -1 by unfold cmpN; rw [if_pos hmm])
          rw [HC.out] at QC
          have HM := yk hmm
          have hlen : (limbs (mz - my)).length ≤ 1073741824 := by
           refine Nat.le_trans (limbs_len_le (k := (limbs mz).length) ?_) (by omega)
           have h2 := nv_lt (wf_limbs mz)
           rw [nv_limbs] at h2
           omega
          clear hmm
          have FIN : ∀ {W : World} {cs : Array Value}, RDy W W0.heap.size (.agg cs) (sgn (cneg z) (mz - my)) E → RDy W W0.heap.size (.agg cs) (y + z) e := by
           intro W cs h
           obtain ⟨q1, q2, q3⟩ := HJ.out
           rw [q1] at h
           have := RDy.scale j0 h
           rw [sgn_sub (Ne.symm HS.out) (Nat.le_of_lt HM.out), Int.add_mul, ← q2, ← q3, Int.add_comm] at this
           exact this
          go_upto_region 13 with (go_at_call 55; refine (QC.out _ yr).mono ?_; rintro en w' ⟨rfl, nn, rfl⟩)
          have B4 : Aside0 (Below wc.heap.size wc (w3.drewN nn)) := ⟨pw_below_drewN B3.out nn⟩
          have HRES4 := yk (blk_drewN HRES3.out nn)
          have BW4 := yk (pw_below_drewN BW3.out nn)
          have BS4 : W0.heap.size ≤ (w3.drewN nn).heap.size := BS3
          have R4' := yk (Kd.R_drewN R4.out nn)
          have R3'' := yk (Kd.R_drewN R3'.out nn)
          have hng : w.heap.size + 1 + 1 ≠ g6 := by omega
          refine wp_region_slots [68, 69, 70, 71, 72, 73, 74] (by kernel_rfl) (by kernel_rfl)
           (F := fun j q W => match j with | 0 => q = .pointer (some ⟨g6, 0, none⟩) | 1 => q = .bool (cneg z) | 2 => q = .slice A4 (limbs mz).length c4 | 3 => q = .slice A3 (limbs my).length c3 | 5 => q = .int .i64 E | 4 => kU.R 64 W W0.heap.size (fun _ => True) q (limbs (mz - my)) | 6 => RDy W W0.heap.size q (sgn (cneg z) (mz - my)) E | 7 => ∃ cs, W.heap[w.heap.size + 1 + 1]? = some (.cells cs 25 (0, 0)) ∧ cs.size = 3 ∧ RDy W W0.heap.size (.agg cs) (sgn (cneg z) (mz - my)) E | _ => True)
           (J := fun W => W.heap[g6]? = some (.cells #[.bool (cneg z), .slice A2 n2 c2, .int .i64 xz] 25 (0, 0)) ∧ (∃ cs, W.heap[w.heap.size + 1 + 1]? = some (.cells cs 25 (0, 0)) ∧ cs.size = 3) ∧ kU.R 64 W W0.heap.size (fun _ => True) (.slice A4 (limbs mz).length c4) (limbs mz) ∧ kU.R 64 W W0.heap.size (fun _ => True) (.slice A3 (limbs my).length c3) (limbs my) ∧ BL w W ∧ W0.heap.size ≤ W.heap.size)
           ?hJ ?hstep ?hend
          case hJ => exact ⟨blk_drew (yb H6.out B4.out), ⟨_, blk_drew HRES4.out, rfl⟩, Kd.R_drew R4'.out, Kd.R_drew R3''.out, below_drew BW4.out, BS4⟩
          case hstep =>
           intro k o ho v W L hJW hF hnk haft K hK
           obtain ⟨hg, ⟨cs0, hres, hcs0⟩, r3, r4, hB, hSZ⟩ := id hJW
           rcases k with _ | _ | _ | _ | _ | _ | _ | _ | k
           all_goals first
            | (cases ho; done)
            | (obtain rfl := (Option.some.inj ho).symm
               clear ho
               rw [if_pos (by rfl)]
               simp only [setAll, List.setIfInBounds_toArray, List.set_cons_zero, List.set_cons_succ, List.getElem_toArray, List.getElem_cons_zero, List.getElem_cons_succ, Nat.reduceAdd] at haft hF hK ⊢)
           ·
            have key := hK.out (.pointer (some ⟨g6, 0, none⟩)) W hJW (fun _ _ h => h) rfl
            go_simp
            simpa [upd] using key
           ·
            have f0 : v 0 = .pointer (some ⟨g6, 0, none⟩) := hF 0 (haft ⟨0, .data⟩ (by simp) rfl)
            have cc := (box_cell (v := .bool (cneg z)) hg 0 rfl).1
            have key := hK.out (.bool (cneg z)) W hJW (fun _ _ h => h) rfl
            go_simp
            simpa [upd, f0] using key
           ·
            have key := hK.out (.slice A4 (limbs mz).length c4) W hJW (fun _ _ h => h) rfl
            go_simp
            simpa [upd] using key
           ·
            have key := hK.out (.slice A3 (limbs my).length c3) W hJW (fun _ _ h => h) rfl
            go_simp
            simpa [upd] using key
           ·
            have f2 : v 2 = .slice A4 (limbs mz).length c4 := hF 2 (haft ⟨2, .data⟩ (by simp) rfl)
            have f3 : v 3 = .slice A3 (limbs my).length c3 := hF 3 (haft ⟨3, .data⟩ (by simp) rfl)
            obtain ⟨e1, e2, e3⟩ := Kd.R_reads' r3
            obtain ⟨e1', e2', e3'⟩ := Kd.R_reads' r4
            have hm := sub_any (limbs mz) (limbs my) A4 A3 (limbs mz).length (limbs my).length c4 c3 rfl rfl W e3 e3' e2 e2' (wf_limbs _) (wf_limbs _) (by omega) (by omega) (by simp only [nv_limbs]; exact Nat.le_of_lt HM.out)
            simp only [nv_limbs] at hm
            clear e1 e2 e3 e1' e2' e3'
            go_simp
            go_at_call 56
            refine hm.mono ?_
            rintro en w4 ⟨v1, rfl, hr, hb⟩
            have key := hK.out v1 w4 ⟨yb hg hb, ⟨_, yb hres hb, hcs0⟩, Kd.R_below r3 hb, Kd.R_below r4 hb, below_then hB hB.size hb, Nat.le_trans hSZ hb.size⟩ ?m13a (Kd.R_lower hr hSZ)
            · simpa [upd, f2, f3] using key
            intro j hj hf
            rcases j with _ | _ | _ | _ | _ | _ | _ | _ | j <;> first | exact hf | exact Kd.R_below hf hb | exact RDy.below hf hb | exact (let ⟨cs, p1, p2, p3⟩ := hf; ⟨cs, yb p1 hb, p2, p3.below hb⟩)
           ·
            have key := hK.out (.int .i64 E) W hJW (fun _ _ h => h) rfl
            go_simp
            simpa [upd] using key
           ·
            have f1 : v 1 = .bool (cneg z) := hF 1 (haft ⟨1, .data⟩ (by simp) rfl)
            have f4 : kU.R 64 W W0.heap.size (fun _ => True) (v 4) (limbs (mz - my)) := hF 4 (haft ⟨4, .data⟩ (by simp) rfl)
            have f5 : v 5 = .int .i64 E := hF 5 (haft ⟨5, .data⟩ (by simp) rfl)
            obtain ⟨A5, c5, f4', hc5, hC5⟩ := Kd.R_reads f4
            have hm := form_any (cneg z) (limbs (mz - my)) A5 _ c5 E rfl W hC5 hc5 (wf_limbs _) (by exact hlen) (by omega) (by omega)
            rw [nv_limbs] at hm
            clear f4
            go_simp
            go_at_call 46
            refine hm.mono ?_
            rintro en w4 ⟨v1, rfl, hr, hb⟩
            have key := hK.out v1 w4 ⟨yb hg hb, ⟨_, yb hres hb, hcs0⟩, Kd.R_below r3 hb, Kd.R_below r4 hb, below_then hB hB.size hb, Nat.le_trans hSZ hb.size⟩ ?m13b (hr.lower hSZ)
            · simpa [upd, f1, f4', f5] using key
            intro j hj hf
            rcases j with _ | _ | _ | _ | _ | _ | _ | _ | j <;> first | exact hf | exact Kd.R_below hf hb | exact RDy.below hf hb | exact (let ⟨cs, p1, p2, p3⟩ := hf; ⟨cs, yb p1 hb, p2, p3.below hb⟩)
           ·
            have f6 : RDy W W0.heap.size (v 6) (sgn (cneg z) (mz - my)) E := hF 6 (haft ⟨6, .data⟩ (by simp) rfl)
            obtain ⟨A5, m5, c5, f6', hr5⟩ := id f6
            refine wp_store_box 25 4 (.tmp 74) rfl rfl (g := w.heap.size + 1 + 1) (e := 25) (v 6) [.bool (cneg (sgn (cneg z) (mz - my))), .slice A5 m5 c5, .int .i64 (cexp (sgn (cneg z) (mz - my)) E)] rfl rfl (by rw [f6']; rfl) info_dyad ?_ hres hcs0 ?_
            · intro q hq; simp at hq; rcases hq with rfl | rfl | rfl <;> rfl
            · intro w4 hw4 hg4
              have hnew := f6.typed hres hg4
              rw [f6'] at hnew
              have key := hK.out undef w4 ⟨(hg4.block g6 (blk_lt hg) (fun he => by cases he; omega)).trans hg, ⟨_, hw4, rfl⟩, row_typed r3 hres hg4, row_typed r4 hres hg4, hB.grown hg4 hB.size (fun k hk => by cases hk; omega), Nat.le_trans hSZ hg4.size⟩ ?m13c ⟨_, hw4, rfl, hnew⟩
              · simpa [upd] using key
              intro j hj hf
              rcases j with _ | _ | _ | _ | _ | _ | _ | _ | j <;> first | exact absurd hj hnk | exact hf | exact row_typed hf hres hg4 | exact RDy.typed hf hres hg4
          case hend =>
           intro v W hJW hF
           obtain ⟨_, _, _, _, hB, hSZ⟩ := hJW
           obtain ⟨cs, p1, p2, p3⟩ := hF 7 (by decide)
           simp only [setAll, List.setIfInBounds_toArray, List.set_cons_zero, List.set_cons_succ]
           go_wp2
           refine bodyPost_ret (results_dyad rfl _ _ (w.heap.size + 1 + 1) _ rfl p1 p2) rfl ?_
           refine ⟨_, rfl, RDy.lower ?_ HW.out.size, hB⟩
           exact FIN p3
        · have HC := yk (show 0 ≤ cmpN my mz by unfold cmpN; rw [if_neg hmm]; split <;> decide)
          obtain ⟨cv, hcv⟩ : ∃ x, x = cmpN my mz := ⟨_, rfl⟩
          rw [← hcv] at QC HC
          have hcp : 0 ≤ cv := HC.out
          have HM := yk (show mz ≤ my by omega)
          have hlen : (limbs (my - mz)).length ≤ 1073741824 := by
           refine Nat.le_trans (limbs_len_le (k := (limbs my).length) ?_) (by omega)
           have h2 := nv_lt (wf_limbs my)
           rw [nv_limbs] at h2
           omega
          clear hmm hcv
          have FIN : ∀ {W : World} {cs : Array Value}, RDy W W0.heap.size (.agg cs) (sgn (cneg y) (my - mz)) E → RDy W W0.heap.size (.agg cs) (y + z) e := by
           intro W cs h
           obtain ⟨q1, q2, q3⟩ := HJ.out
           rw [q1] at h
           have := RDy.scale j0 h
           rw [sgn_sub HS.out HM.out, Int.add_mul, ← q2, ← q3] at this
           exact this
          go_upto_region 12 with (go_at_call 55; refine (QC.out _ yr).mono ?_; rintro en w' ⟨rfl, nn, rfl⟩)
          have B4 : Aside0 (Below wc.heap.size wc (w3.drewN nn)) := ⟨pw_below_drewN B3.out nn⟩
          have HRES4 := yk (blk_drewN HRES3.out nn)
          have BW4 := yk (pw_below_drewN BW3.out nn)
          have BS4 : W0.heap.size ≤ (w3.drewN nn).heap.size := BS3
          have R4' := yk (Kd.R_drewN R4.out nn)
          have R3'' := yk (Kd.R_drewN R3'.out nn)
          have hng : w.heap.size + 1 + 1 ≠ g5 := by omega
          refine wp_region_slots [61, 62, 63, 64, 65, 66, 67] (by kernel_rfl) (by kernel_rfl)
           (F := fun j q W => match j with | 0 => q = .pointer (some ⟨g5, 0, none⟩) | 1 => q = .bool (cneg y) | 2 => q = .slice A3 (limbs my).length c3 | 3 => q = .slice A4 (limbs mz).length c4 | 5 => q = .int .i64 E | 4 => kU.R 64 W W0.heap.size (fun _ => True) q (limbs (my - mz)) | 6 => RDy W W0.heap.size q (sgn (cneg y) (my - mz)) E | 7 => ∃ cs, W.heap[w.heap.size + 1 + 1]? = some (.cells cs 25 (0, 0)) ∧ cs.size = 3 ∧ RDy W W0.heap.size (.agg cs) (sgn (cneg y) (my - mz)) E | _ => True)
           (J := fun W => W.heap[g5]? = some (.cells #[.bool (cneg y), .slice A1 n1 c1, .int .i64 xy] 25 (0, 0)) ∧ (∃ cs, W.heap[w.heap.size + 1 + 1]? = some (.cells cs 25 (0, 0)) ∧ cs.size = 3) ∧ kU.R 64 W W0.heap.size (fun _ => True) (.slice A3 (limbs my).length c3) (limbs my) ∧ kU.R 64 W W0.heap.size (fun _ => True) (.slice A4 (limbs mz).length c4) (limbs mz) ∧ BL w W ∧ W0.heap.size ≤ W.heap.size)
           ?hJ ?hstep ?hend
          case hJ => exact ⟨blk_drew (yb H5.out B4.out), ⟨_, blk_drew HRES4.out, rfl⟩, Kd.R_drew R3''.out, Kd.R_drew R4'.out, below_drew BW4.out, BS4⟩
          case hstep =>
           intro k o ho v W L hJW hF hnk haft K hK
           obtain ⟨hg, ⟨cs0, hres, hcs0⟩, r3, r4, hB, hSZ⟩ := id hJW
           rcases k with _ | _ | _ | _ | _ | _ | _ | _ | k
           all_goals first
            | (cases ho; done)
            | (obtain rfl := (Option.some.inj ho).symm
               clear ho
               rw [if_pos (by rfl)]
               simp only [setAll, List.setIfInBounds_toArray, List.set_cons_zero, List.set_cons_succ, List.getElem_toArray, List.getElem_cons_zero, List.getElem_cons_succ, Nat.reduceAdd] at haft hF hK ⊢)
           ·
            have key := hK.out (.pointer (some ⟨g5, 0, none⟩)) W hJW (fun _ _ h => h) rfl
            go_simp
            simpa [upd] using key
           ·
            have f0 : v 0 = .pointer (some ⟨g5, 0, none⟩) := hF 0 (haft ⟨0, .data⟩ (by simp) rfl)
            have cc := (box_cell (v := .bool (cneg y)) hg 0 rfl).1
            have key := hK.out (.bool (cneg y)) W hJW (fun _ _ h => h) rfl
            go_simp
            simpa [upd, f0] using key
           ·
            have key := hK.out (.slice A3 (limbs my).length c3) W hJW (fun _ _ h => h) rfl
            go_simp
            simpa [upd] using key
           ·
            have key := hK.out (.slice A4 (limbs mz).length c4) W hJW (fun _ _ h => h) rfl
            go_simp
            simpa [upd] using key
           ·
            have f2 : v 2 = .slice A3 (limbs my).length c3 := hF 2 (haft ⟨2, .data⟩ (by simp) rfl)
            have f3 : v 3 = .slice A4 (limbs mz).length c4 := hF 3 (haft ⟨3, .data⟩ (by simp) rfl)
            obtain ⟨e1, e2, e3⟩ := Kd.R_reads' r3
            obtain ⟨e1', e2', e3'⟩ := Kd.R_reads' r4
            have hm := sub_any (limbs my) (limbs mz) A3 A4 (limbs my).length (limbs mz).length c3 c4 rfl rfl W e3 e3' e2 e2' (wf_limbs _) (wf_limbs _) (by omega) (by omega) (by simp only [nv_limbs]; exact HM.out)
            simp only [nv_limbs] at hm
            clear e1 e2 e3 e1' e2' e3'
            go_simp
            go_at_call 56
            refine hm.mono ?_
            rintro en w4 ⟨v1, rfl, hr, hb⟩
            have key := hK.out v1 w4 ⟨yb hg hb, ⟨_, yb hres hb, hcs0⟩, Kd.R_below r3 hb, Kd.R_below r4 hb, below_then hB hB.size hb, Nat.le_trans hSZ hb.size⟩ ?m12a (Kd.R_lower hr hSZ)
            · simpa [upd, f2, f3] using key
            intro j hj hf
            rcases j with _ | _ | _ | _ | _ | _ | _ | _ | j <;> first | exact hf | exact Kd.R_below hf hb | exact RDy.below hf hb | exact (let ⟨cs, p1, p2, p3⟩ := hf; ⟨cs, yb p1 hb, p2, p3.below hb⟩)
           ·
            have key := hK.out (.int .i64 E) W hJW (fun _ _ h => h) rfl
            go_simp
            simpa [upd] using key
           ·
            have f1 : v 1 = .bool (cneg y) := hF 1 (haft ⟨1, .data⟩ (by simp) rfl)
            have f4 : kU.R 64 W W0.heap.size (fun _ => True) (v 4) (limbs (my - mz)) := hF 4 (haft ⟨4, .data⟩ (by simp) rfl)
            have f5 : v 5 = .int .i64 E := hF 5 (haft ⟨5, .data⟩ (by simp) rfl)
            obtain ⟨A5, c5, f4', hc5, hC5⟩ := Kd.R_reads f4
            have hm := form_any (cneg y) (limbs (my - mz)) A5 _ c5 E rfl W hC5 hc5 (wf_limbs _) (by exact hlen) (by omega) (by omega)
            rw [nv_limbs] at hm
            clear f4
            go_simp
            go_at_call 46
            refine hm.mono ?_
            rintro en w4 ⟨v1, rfl, hr, hb⟩
            have key := hK.out v1 w4 ⟨yb hg hb, ⟨_, yb hres hb, hcs0⟩, Kd.R_below r3 hb, Kd.R_below r4 hb, below_then hB hB.size hb, Nat.le_trans hSZ hb.size⟩ ?m12b (hr.lower hSZ)
            · simpa [upd, f1, f4', f5] using key
            intro j hj hf
            rcases j with _ | _ | _ | _ | _ | _ | _ | _ | j <;> first | exact hf | exact Kd.R_below hf hb | exact RDy.below hf hb | exact (let ⟨cs, p1, p2, p3⟩ := hf; ⟨cs, yb p1 hb, p2, p3.below hb⟩)
           ·
            have f6 : RDy W W0.heap.size (v 6) (sgn (cneg y) (my - mz)) E := hF 6 (haft ⟨6, .data⟩ (by simp) rfl)
            obtain ⟨A5, m5, c5, f6', hr5⟩ := id f6
            refine wp_store_box 25 4 (.tmp 67) rfl rfl (g := w.heap.size + 1 + 1) (e := 25) (v 6) [.bool (cneg (sgn (cneg y) (my - mz))), .slice A5 m5 c5, .int .i64 (cexp (sgn (cneg y) (my - mz)) E)] rfl rfl (by rw [f6']; rfl) info_dyad ?_ hres hcs0 ?_
            · intro q hq; simp at hq; rcases hq with rfl | rfl | rfl <;> rfl
            · intro w4 hw4 hg4
              have hnew := f6.typed hres hg4
              rw [f6'] at hnew
              have key := hK.out undef w4 ⟨(hg4.block g5 (blk_lt hg) (fun he => by cases he; omega)).trans hg, ⟨_, hw4, rfl⟩, row_typed r3 hres hg4, row_typed r4 hres hg4, hB.grown hg4 hB.size (fun k hk => by cases hk; omega), Nat.le_trans hSZ hg4.size⟩ ?m12c ⟨_, hw4, rfl, hnew⟩
              · simpa [upd] using key
              intro j hj hf
              rcases j with _ | _ | _ | _ | _ | _ | _ | _ | j <;> first | exact absurd hj hnk | exact hf | exact row_typed hf hres hg4 | exact RDy.typed hf hres hg4
          case hend =>
           intro v W hJW hF
           obtain ⟨_, _, _, _, hB, hSZ⟩ := hJW
           obtain ⟨cs, p1, p2, p3⟩ := hF 7 (by decide)
           simp only [setAll, List.setIfInBounds_toArray, List.set_cons_zero, List.set_cons_succ]
           go_wp2
           refine bodyPost_ret (results_dyad rfl _ _ (w.heap.size + 1 + 1) _ rfl p1 p2) rfl ?_
           refine ⟨_, rfl, RDy.lower ?_ HW.out.size, hB⟩
           exact FIN p3
def nearF (z : Int) (k : Nat) : Int := if ((z + 2 ^ k) / 2 ^ (k + 1)) % 2 ≠ 0 ∧ (z + 2 ^ k) / 2 ^ (k + 1) * 2 ^ (k + 1) - z = 2 ^ k then (z + 2 ^ k) / 2 ^ (k + 1) - 1 else (z + 2 ^ k) / 2 ^ (k + 1)
def PT (w : World) (b : Nat) (v : Value) (z e : Int) (s : Bool) : Prop :=
 ∃ bb A n c x, v = .agg #[.bool bb, .slice A n c, .int .i64 x, .bool s] ∧ PDy w b (.agg #[.bool bb, .slice A n c, .int .i64 x]) z e
section
variable {w w1 : World} {b b' g : Nat} {v : Value} {z e : Int} {s : Bool}
def PS (w : World) (b : Nat) (v : Value) (k z e : Int) : Prop :=
 ∃ bb A n c x, v = .agg #[.int .i64 k, .bool bb, .slice A n c, .int .i64 x] ∧ PDy w b (.agg #[.bool bb, .slice A n c, .int .i64 x]) z e
end
def tenI (i : Nat) : Int := 10 ^ i
def sel (l0 l1 l2 l3 k : Int) : Int := if k = 0 then l0 else if k = 1 then l1 else if k = 2 then l2 else l3
def PO (w : World) (b : Nat) (v : Value) (o : Option (Int × Int)) : Prop := PT w b v (o.getD (0, 0)).1 (o.getD (0, 0)).2 o.isSome
def tanF (k r M : Int) : Option (Int × Int) :=
 if r = 0 then (if k.tmod 2 = 0 then some (0, 0) else none)
 else if (r.natAbs : Int) = M then (if (k.tmod 2 == 0) == decide (0 < r) then some (1, 0) else some (-1, 0)) else none
def smallF (M z lo hi : Int) : Option Int := if z % M = 0 ∧ lo * M ≤ z ∧ z ≤ hi * M then some (z / M) else none
def powV (n less : Int) : Int × Int := (2 ^ (n - min n 0).toNat - less * 2 ^ (-(min n 0)).toNat, min n 0)
def Enters (m : Nat) : Prop := ∀ (args : Array Value) (W : World), (callFunc m args).run Tryz.prog W = .ok (.enter m args) W
def Clo (w : World) (b m : Nat) (cap : Array Value) (G : Int → Option (Int × Int)) : Prop :=
 Enters m ∧ ∀ (W : World) (u : Value) (z : Int), BL w W → CDy W u z (-1074) → z.natAbs < 2 ^ 2098 → TB W →
  Calls Tryz.prog m (#[u] ++ cap) W fun en W' => ∃ v', en = .returned v' ∧ PO W' b v' (G z) ∧ BL W W'
def SpotFn (m : Nat) (K : Int → Int → Option (Int × Int)) : Prop :=
 Enters m ∧ ∀ (W : World) (b : Nat) (v : Value) (k r : Int), PS W b v k r (-1074) → r.natAbs < 2 ^ 3500 → (k = 0 ∨ k = 1 ∨ k = 2 ∨ k = 3) → TB W →
  Calls Tryz.prog m #[v] W fun en W' => ∃ v', en = .returned v' ∧ PO W' W.heap.size v' (K k r) ∧ BL W W'
def firstF (Gs : Nat → Int → Option (Int × Int)) (z : Int) : Option (Int × Int) := (Gs 0 z).or ((Gs 1 z).or (Gs 2 z))
def log2F (t : Int) : Option (Int × Int) := if cman t = 1 then some (cexp t (-1074), 0) else none
def logF (M : Int) (most : Nat) (t : Int) : Option (Int × Int) := ((List.range (most + 1)).find? (fun j => decide (t = tenI j * M))).map (fun j => ((j : Int), 0))
def atF (n : Int) (y : Int × Int) (z : Int) : Option (Int × Int) := if z = n * 2 ^ 1074 then some y else none
def pow2F (less lo hi : Int) (z : Int) : Option (Int × Int) := (smallF (2 ^ 1074) z lo hi).map (fun n => powV n less)
def pow10F (less lo hi : Int) (z : Int) : Option (Int × Int) := (smallF (2 ^ 1074) z lo hi).map (fun n => (tenI n.toNat - less, 0))
def lg2F (more : Int) (z : Int) : Option (Int × Int) := log2F (z + more * 2 ^ 1074)
def lg10F (more : Int) (most : Nat) (z : Int) : Option (Int × Int) := logF (2 ^ 1074) most (z + more * 2 ^ 1074)
def turnF (K : Int → Int → Option (Int × Int)) (z : Int) : Option (Int × Int) := K (nearF z 1072 % 4) (z - nearF z 1072 * 2 ^ 1073)
def or3 (G0 G1 G2 : Int → Option (Int × Int)) (z : Int) : Option (Int × Int) := (G0 z).or ((G1 z).or (G2 z))
def MapB (w : World) (m : Nat) (L : List Value) : Prop :=
 ∃ es clock, w.heap[m]? = some (.map es clock) ∧ es.toList.map (·.key) = (List.range L.length).map (fun i : Nat => Value.int .u8 ((i : Int) + 1)) ∧ es.toList.map (·.val) = L
section
variable {P : Program} {ops : Array Oper} {rest : List Oper} {o : Oper} {a : Act} {Q : Exit → Act → World → Prop} {W : World}
end
def sineK (k r : Int) : Option (Int × Int) := if r = 0 then some (sel 0 1 0 (-1) k, 0) else none
def cosineK (k r : Int) : Option (Int × Int) := if r = 0 then some (sel 1 0 (-1) 0 k, 0) else none
def tangentK (k r : Int) : Option (Int × Int) := tanF k r (2 ^ 1072)
def caseL : List (Int → Option (Int × Int)) := [atF 0 (1, 0), pow2F 0 (-16384) 16384, pow10F 0 0 23, atF 0 (0, 0), pow2F 1 (-54) 54, pow10F 1 0 16, atF 1 (0, 0), lg2F 0, lg10F 0 22, atF 0 (0, 0), lg2F 1, lg10F 1 16, atF 0 (0, 0), atF 0 (1, 0), atF 0 (0, 0), turnF sineK, turnF cosineK, turnF tangentK, atF 0 (0, 0), atF 1 (0, 0), atF 0 (0, 0), or3 (atF 0 (0, 0)) (atF 1 (1, 0 + -1)) (atF (-1) (-1, 0 + -1)), or3 (atF 1 (0, 0)) (atF 0 (1, 0 + -1)) (atF (-1) (1, 0)), or3 (atF 0 (0, 0)) (atF 1 (1, 0 + -2)) (atF (-1) (-1, 0 + -2)), atF 0 (0, 0), atF 0 (1, 0), atF 0 (0, 0), atF 0 (0, 0), atF 1 (0, 0), atF 0 (0, 0)]
def insideF (f : Nat) (z : Int) : Bool :=
 if f = 7 ∨ f = 8 ∨ f = 9 then decide (0 < z)
 else if f = 10 ∨ f = 11 ∨ f = 12 then decide (-1 * 2 ^ 1074 < z)
 else if f = 18 then (!decide (z - nearF z 1072 * 2 ^ 1073 = 0) || (Int.tmod (nearF z 1072 % 4) 2 == 0))
 else if f = 19 ∨ f = 20 ∨ f = 22 ∨ f = 23 then decide ((z.natAbs : Int) ≤ 1 * 2 ^ 1074)
 else if f = 29 then decide (1 * 2 ^ 1074 ≤ z)
 else if f = 30 then decide ((z.natAbs : Int) < 1 * 2 ^ 1074)
 else true
def finB (x : Nat) : Bool := decide (x % 9223372036854775808 < 9218868437227405312)
def errB (b : Bool) : Int := if b = true then 0 else 5
def fromV (x : Nat) : Int := if finB x = true then valI x else 0
def isF (f : Nat) : Bool := decide (1 ≤ f ∧ f ≤ 30)
def domF (f x : Nat) : Bool := isF f && finB x && insideF f (fromV x)
def caseG (f : Nat) (z : Int) : Option (Int × Int) := ((caseL[f - 1]?).getD (fun _ => none)) z
def exE (f x : Nat) : Int := if isF f = true then (if domF f x = true then 0 else 5) else 2
def exO (f x : Nat) : Option (Int × Int) := if isF f = true ∧ domF f x = true then caseG f (fromV x) else none
def HasClo (w : World) (b : Nat) (v : Value) (G : Int → Option (Int × Int)) : Prop := ∃ n cap, v = .func (.func n) #[] cap ∧ Clo w b n cap G
def angF (f : Nat) (y x : Int) : Option (Int × Int) :=
 if y = 0 ∧ 0 < x then some (0, 0) else if f = 33 then none else if y = 0 then some (1, 0) else if x = 0 then some (sgnI y, 0 + -1)
 else if ¬ (y.natAbs : Int) = x.natAbs then none else if 0 < x then some (sgnI y, 0 + -2) else some (3 * sgnI y, 0 + -2)
def is2F (f : Nat) : Bool := decide (f = 33) || decide (f = 34)
def bad2 (y x : Nat) : Bool := !finB y || !finB x || (decide (fromV y = 0) && decide (fromV x = 0))
def exE2 (f y x : Nat) : Int := if is2F f = true then (if bad2 y x = true then 5 else 0) else 2
def exO2 (f y x : Nat) : Option (Int × Int) := if is2F f = true ∧ bad2 y x = false then angF f (fromV y) (fromV x) else none
end Go.Proofs.YtkdicconchobfaaGreatDoor
